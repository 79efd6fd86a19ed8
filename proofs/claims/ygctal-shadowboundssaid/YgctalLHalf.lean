import Derived.Test.YgctalWz
namespace Go.Proofs.Ygctal
open Go.RowKit
set_option maxHeartbeats 2000000
set_option linter.unusedVariables false
set_option linter.unusedSimpArgs false

/-! HalfAngle. -/
/-- The roots' parts, by their bits, as the text's literals give them. -/
def baseTab : List (Nat × Nat) := [(4607182418800017408, 0), (13830554455654793216, 0), (0, 13830554455654793216), (4604544271217802189, 13827916308072577997),
  (4606496786581982534, 13823937468626282851), (4607009347991985328, 13819568926757594635), (4607139046673687846, 13815099336824566828), (4607171569234046334, 13810604255004710932),
  (4607179706000002317, 13806102785791583870), (4607181740574479067, 13801599718827935620), (4607182249242036882, 13797096252370255985), (4607182376410422530, 13792592686035543226)]
def baseOf (t : Nat) : Nat × Nat := baseTab.getD t (0, 0)
theorem base_any (t : Nat) (h : t < 12) (w : World) : Calls Talg.prog 41 #[.int .u8 t] w fun e w' => e = .returned (.complex .f64 (baseOf t).1 (baseOf t).2) ∧ w' = w := by
  match t, h with
  | 0, _ | 1, _ | 2, _ | 3, _ | 4, _ | 5, _ | 6, _ | 7, _ | 8, _ | 9, _ | 10, _ | 11, _ =>
    go_enter Talg.func41, Talg.ntmps41
    go_wp2
    go_ret
    exact ⟨rfl, rfl⟩
  | n + 12, h => exact absurd h (by omega)
theorem base_0 (w : World) : Calls Talg.prog 41 #[.int .u8 0] w fun e w' => e = .returned (.complex .f64 4607182418800017408 0) ∧ w' = w := base_any 0 (by decide) w
theorem base_1 (w : World) : Calls Talg.prog 41 #[.int .u8 1] w fun e w' => e = .returned (.complex .f64 13830554455654793216 0) ∧ w' = w := base_any 1 (by decide) w
theorem base_2 (w : World) : Calls Talg.prog 41 #[.int .u8 2] w fun e w' => e = .returned (.complex .f64 0 13830554455654793216) ∧ w' = w := base_any 2 (by decide) w

def isFin (x : Nat) : Bool := decide (x < 18446744073709551616) && decide (Fl.rung x < 9218868437227405312)
theorem isFin_fin {x : Nat} (h : isFin x = true) : Fl.Fin x := by
  unfold isFin at h
  simp only [Bool.and_eq_true, decide_eq_true_eq] at h
  exact h
/-- The bound, and the two defects at t. -/
def bndU : Int := Fl.V 4382002437431492608 * (sc : Int)
def dfc (t : Nat) : Int := Fl.V (baseOf (t + 1)).1 * Fl.V (baseOf (t + 1)).1 + Fl.V (baseOf (t + 1)).1 * Fl.V (baseOf (t + 1)).1 + Fl.V 13830554455654793216 * (sc : Int) + Fl.V (Op.negFloat .f64 (baseOf t).1) * (sc : Int)
def dfs (t : Nat) : Int := Fl.V (Op.negFloat .f64 (baseOf (t + 1)).2) * Fl.V (baseOf (t + 1)).1 + Fl.V (Op.negFloat .f64 (baseOf (t + 1)).2) * Fl.V (baseOf (t + 1)).1 + Fl.V (baseOf t).2 * (sc : Int)
def okAt (t : Nat) : Bool :=
  isFin (baseOf t).1 && isFin (baseOf t).2 && isFin (baseOf (t + 1)).1 && isFin (baseOf (t + 1)).2 && isFin (Op.negFloat .f64 (baseOf (t + 1)).2) && isFin (Op.negFloat .f64 (baseOf t).1) &&
  decide (0 < Fl.V (baseOf (t + 1)).1) && decide (0 < Fl.V (Op.negFloat .f64 (baseOf (t + 1)).2)) &&
  decide (((dfc t).natAbs : Int) ≤ bndU) && decide (((dfs t).natAbs : Int) ≤ bndU)
set_option exponentiation.threshold 5000 in
theorem ok_all : (List.range 9).all (fun i => okAt (i + 2)) = true := by decide +kernel
set_option exponentiation.threshold 5000 in
theorem bnd_pos : 0 ≤ bndU := by decide +kernel
set_option exponentiation.threshold 5000 in
theorem bnd_half : bndU < (Ac.half : Int) := by decide +kernel
theorem ok_at {t : Nat} (h2 : 2 ≤ t) (h11 : t < 11) : okAt t = true := by
  have := List.all_eq_true.1 ok_all (t - 2) (by rw [List.mem_range]; omega)
  rwa [show t - 2 + 2 = t from by omega] at this
theorem ord_1 : FloatKind.f64.format.order 4607182418800017408 4607182418800017408 = some .eq := by decide +kernel
theorem ord_0 : FloatKind.f64.format.order 0 0 = some .eq := by decide +kernel
theorem ord_m : FloatKind.f64.format.order 13830554455654793216 13830554455654793216 = some .eq := by decide +kernel
theorem halfAngle_out (t : Nat) (w : World) (h : t < 2 ∨ 11 ≤ t) :
    Calls Talg.prog 11 #[.int .u8 (t : Int)] w fun e w' => e = .returned (.bool true) ∧ Below w.heap.size w w' := by
  have HB := hide (And.intro base_0 (And.intro base_1 base_2))
  have o1 := ord_1
  have o0 := ord_0
  have om := ord_m
  rcases h with h | h
  · have hd : decide ((t : Int) < 2) = true := by simp; omega
    clear h
    go_enter Talg.func11, Talg.ntmps11
    go_wp2_with fail
    refine (HB.out.1 _).mono ?_
    rintro e w' ⟨rfl, rfl⟩
    go_wp2_with fail
    refine (HB.out.2.1 _).mono ?_
    rintro e w' ⟨rfl, rfl⟩
    go_wp2_with fail
    refine (HB.out.2.2 _).mono ?_
    rintro e w' ⟨rfl, rfl⟩
    go_wp2
    go_ret
    exact ⟨rfl, Below.refl _ _⟩
  · have hd : decide ((t : Int) < 2) = false := by simp; omega
    have hd2 : decide ((11 : Int) ≤ t) = true := by simp; omega
    clear h
    go_enter Talg.func11, Talg.ntmps11
    go_wp2_with fail
    refine (HB.out.1 _).mono ?_
    rintro e w' ⟨rfl, rfl⟩
    go_wp2_with fail
    refine (HB.out.2.1 _).mono ?_
    rintro e w' ⟨rfl, rfl⟩
    go_wp2_with fail
    refine (HB.out.2.2 _).mono ?_
    rintro e w' ⟨rfl, rfl⟩
    go_wp2
    go_ret
    exact ⟨rfl, Below.refl _ _⟩
theorem wpList_load_want {P : Program} {ops : Array Oper} {rest : List Oper} {o : Oper} {a : Act} {w : World} {Q : Exit → Act → World → Prop} (hw : Region.wanted o (yielded ops a.tmps) = true) (ty : TypeId) (x : Operand) (ho : o.op = .load ty x)
    (g : Nat) (hx : a.eval x = .pointer (some ⟨g, 0, none⟩)) (t : TypeId) (cs : Array Value) (fr : Nat × Nat) (d : TypeDesc) (hg : w.heap[g]? = some (.cells cs t fr))
    (hu : P.underlying ty = some d) (hd : (match d with | .struct _ | .array _ _ => true | _ => false) = true) (hi : (P.info? ty).map (·.size) = some cs.size)
    (h : wpList P ops Q rest (a.put o.dst (.agg cs)) w) : wpList P ops Q (o :: rest) a w :=
  wpList_step fun K hK => by rw [if_pos hw]; exact wp_load_row ty x ho g hx t cs fr d hg hu hd hi (hK _ _ h)
set_option maxRecDepth 100000 in
theorem halfAngle_in (t : Nat) (w : World) (h2 : 2 ≤ t) (h11 : t < 11) :
    Calls Talg.prog 11 #[.int .u8 (t : Int)] w fun e w' => e = .returned (.bool true) ∧ Below w.heap.size w w' := by
  have HB := hide (And.intro base_0 (And.intro base_1 base_2))
  have o1 := ord_1
  have o0 := ord_0
  have om := ord_m
  have hok := ok_at h2 h11
  unfold okAt at hok
  simp only [Bool.and_eq_true, decide_eq_true_eq] at hok
  obtain ⟨⟨⟨⟨⟨⟨⟨⟨⟨k1, k2⟩, k3⟩, k4⟩, k5⟩, k6⟩, k7⟩, k8⟩, k9⟩, k10⟩ := hok
  have HH := hide (fun wx => half_any t (baseOf t).1 (baseOf t).2 (baseOf (t + 1)).1 (baseOf (t + 1)).2 _ _ wx (by omega) (hide fun wy => base_any t (by omega) wy) (hide fun wy => base_any (t + 1) (by omega) wy) rfl rfl (isFin_fin k1) (isFin_fin k2) (isFin_fin k3) (isFin_fin k4) (isFin_fin k5) (isFin_fin k6) k7 k8)
  have HZ := hide (And.intro k9 k10)
  have hbl := bnd_half
  have HC := hide (And.intro (show (-(Ac.half : Int) < dfc t ∧ dfc t < Ac.half) by omega) (show (-(Ac.half : Int) < dfs t ∧ dfs t < Ac.half) by omega))
  have HF := hide (fun wx => accOf_any 4382002437431492608 wx (isFin_fin (by decide +kernel)))
  clear k1 k2 k3 k4 k5 k6 k7 k8 k9 k10 hbl
  have hd : decide ((t : Int) < 2) = false := by simp; omega
  have hd2 : decide ((11 : Int) ≤ t) = false := by simp; omega
  clear h2 h11
  go_enter Talg.func11, Talg.ntmps11
  go_wp2_with fail
  refine (HB.out.1 _).mono ?_
  rintro e w' ⟨rfl, rfl⟩
  go_wp2_with fail
  refine (HB.out.2.1 _).mono ?_
  rintro e w' ⟨rfl, rfl⟩
  go_wp2_with fail
  refine (HB.out.2.2 _).mono ?_
  rintro e w' ⟨rfl, rfl⟩
  go_wp2_with fail
  refine (HH.out _).mono ?_
  rintro e w1 ⟨a, b, rfl, za, zb, hb⟩
  have HA := hide (show AccOf a (dfc t) from za)
  have HS := hide (show AccOf b (dfs t) from zb)
  have HL := hide hb
  clear za zb hb HH o1 o0 om HB
  have H0 := hide ((AccB.new w1).alloc (.cells Talg.zeroCells31 31))
  have hB1 := AccB.new (w1.alloc (.cells Talg.zeroCells31 31))
  rw [show (w1.alloc (.cells Talg.zeroCells31 31)).heap.size = w1.heap.size + 1 from by simp] at hB1
  have H1 := hide (hB1.grown (gb_setRow _ w1.heap.size (accArr a)) (by simp))
  have K0 := hide ((H0.out.setRow a).grown (gb_setRow _ (w1.heap.size + 1) (accArr b)) (by simp))
  have K1 := hide (H1.out.setRow b)
  have KL := hide (((((Below.refl w1.heap.size w1).alloc (Nat.le_refl _) (.cells Talg.zeroCells31 31)).alloc (by simp) (.cells Talg.zeroCells31 31)).grown (gb_setRow _ w1.heap.size (accArr a)) (by simp; omega) (fun q hq => by simp at hq; omega)).grown (gb_setRow _ (w1.heap.size + 1) (accArr b)) (by simp; omega) (fun q hq => by simp at hq; omega))
  clear hB1
  go_wp2_with (first | (refine wpList_store_row rfl 31 _ _ rfl w1.heap.size (accArr a) rfl rfl 31 (accArr zeros68) H0.out.heap (by rw [accArr_size, HA.out.1]; exact acc_info) (by rw [accArr_size, accArr_size, HA.out.1]; rfl) (accArr_one _) ?_) | (refine wpList_store_row rfl 31 _ _ rfl (w1.heap.size + 1) (accArr b) rfl rfl 31 (accArr zeros68) H1.out.heap (by rw [accArr_size, HS.out.1]; exact acc_info) (by rw [accArr_size, accArr_size, HS.out.1]; rfl) (accArr_one _) ?_))
  clear H0 H1
  generalize (((w1.alloc (.cells Talg.zeroCells31 31)).alloc (.cells Talg.zeroCells31 31)).setRow w1.heap.size (accArr a)).setRow (w1.heap.size + 1) (accArr b) = w2 at K0 K1 KL ⊢
  refine (HF.out _).mono ?_
  rintro e w3 ⟨u, rfl, zu, hb⟩
  have G0 := hide ((K0.out.below hb (Blk.lt K0.out)).alloc (.cells Talg.zeroCells31 31))
  have G1 := hide ((K1.out.below hb (Blk.lt K1.out)).alloc (.cells Talg.zeroCells31 31))
  have GL := hide (HL.out.trans ((KL.out.trans (hb.mono KL.out.size)).mono HL.out.size))
  have HU := hide (show AccOf u bndU from zu)
  have GU := hide (AccB.new w3)
  have M0 := hide (G0.out.grown (gb_setRow _ w3.heap.size (accArr u)) (fun h => by have := Blk.lt K0.out; have := hb.size; simp at h; omega))
  have M1 := hide (G1.out.grown (gb_setRow _ w3.heap.size (accArr u)) (fun h => by have := Blk.lt K1.out; have := hb.size; simp at h; omega))
  have MU := hide (GU.out.setRow u)
  have ML := hide (GL.out.trans ((((Below.refl w3.heap.size w3).alloc (Nat.le_refl _) (.cells Talg.zeroCells31 31)).grown (gb_setRow _ w3.heap.size (accArr u)) (by simp) (fun q hq => by simp at hq; omega)).mono GL.out.size))
  clear K0 K1 KL HL hb zu G0 G1 GL HF
  go_wp2_with (first | (refine wpList_store_row rfl 31 _ _ rfl w3.heap.size (accArr u) rfl rfl 31 (accArr zeros68) GU.out.heap (by rw [accArr_size, HU.out.1]; exact acc_info) (by rw [accArr_size, accArr_size, HU.out.1]; rfl) (accArr_one _) ?_) | (refine wpList_load_want rfl 31 _ rfl w1.heap.size rfl 31 (accArr a) (0, 0) _ M0.out.heap Talg.underlying31 rfl (by rw [accArr_size, HA.out.1]; exact acc_info) ?_))
  clear GU
  generalize (w3.alloc (.cells Talg.zeroCells31 31)).setRow w3.heap.size (accArr u) = w4 at M0 M1 MU ML ⊢
  have hm0 := Blk.lt M0.out
  have hm1 := Blk.lt M1.out
  have hmu := Blk.lt MU.out
  refine (small_any w3.heap.size a u (dfc t) bndU w4 HA.out HU.out MU.out HC.out.1.1 HC.out.1.2 bnd_pos bnd_half HZ.out.1).mono ?_
  rintro e w5 ⟨rfl, hb⟩
  have N1 := hide (M1.out.below hb hm1)
  have NU := hide (MU.out.below hb hmu)
  have NL := hide (ML.out.trans (hb.mono ML.out.size))
  clear M0 M1 MU ML hb hm0 hm1 hmu
  go_wp2_with (refine wpList_load_want rfl 31 _ rfl (w1.heap.size + 1) rfl 31 (accArr b) (0, 0) _ N1.out.heap Talg.underlying31 rfl (by rw [accArr_size, HS.out.1]; exact acc_info) ?_)
  refine (small_any w3.heap.size b u (dfs t) bndU w5 HS.out HU.out NU.out HC.out.2.1 HC.out.2.2 bnd_pos bnd_half HZ.out.2).mono ?_
  rintro e w6 ⟨rfl, hb⟩
  have OL := hide (NL.out.trans (hb.mono NL.out.size))
  clear N1 NU NL hb
  go_wp2
  go_ret
  exact ⟨rfl, OL.out⟩
theorem halfAngle_walk (a0 : Int) (w0 : (Lit.int .u8 a0).wf = true) (w : World) :
    Calls Talg.prog 11 #[.int .u8 a0] w fun e w' => e = .returned (.bool true) ∧ Below w.heap.size w w' := by
  have hb : 0 ≤ a0 := by have := w0; simp [Lit.wf] at this; exact this.1
  obtain ⟨t, rfl⟩ := Int.eq_ofNat_of_zero_le hb
  by_cases h : t < 2 ∨ 11 ≤ t
  · exact halfAngle_out t w h
  · exact halfAngle_in t w (by omega) (by omega)
end Go.Proofs.Ygctal
