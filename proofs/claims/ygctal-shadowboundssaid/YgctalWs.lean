import Derived.Test.YgctalWq
namespace Go.Proofs.Ygctal
open Go.RowKit
set_option maxHeartbeats 2000000
set_option linter.unusedVariables false

/-! apart. -/
def loAt (x : Nat) : Int := lowTo (manOf x) 64 + expOf x
def hiAt (x : Nat) : Int := highTo (manOf x) 64 + expOf x
theorem fin_parts {x : Nat} (hf : Fl.Fin x) (h0 : Fl.V x ≠ 0) : clsOf x = 1 ∧ ∃ k lo hi : Nat, (Fl.V x).natAbs = manOf x * 2 ^ k ∧ expOf x = (k : Int) - 1074 ∧ lowTo (manOf x) 64 = lo ∧ highTo (manOf x) 64 = hi ∧ 2 ^ hi ≤ manOf x ∧ manOf x < 2 ^ (hi + 1) ∧ 2 ^ lo ∣ manOf x ∧ manOf x / 2 ^ lo % 2 = 1 := by
  have hfl := (fin_iff hf.1).1 hf
  obtain ⟨k, hv, he⟩ := val_man hfl
  rcases cls_cases (x := x) with ⟨h1, _⟩ | ⟨_, h2, h3⟩ | ⟨_, h2, h3⟩
  · exact absurd h1 hfl
  · refine absurd ?_ h0
    have := absV x
    rw [hv, h3, Nat.zero_mul] at this
    omega
  · refine ⟨h2, ?_⟩
    obtain ⟨lo, hi, e1, e2, e3, e4, e5, e6, e7, e8⟩ := ends_spec (manOf x) h3 (by have := man_lt x; omega)
    exact ⟨k, lo, hi, by rw [absV, hv], he h2, e1, e2, e5, e6, e7, e8⟩
theorem sp_ends {p q : Nat} (hp : Fl.Fin p) (hq : Fl.Fin q) (hp0 : Fl.V p ≠ 0) (hq0 : Fl.V q ≠ 0) (h : Fl.Sp (Fl.V p) (Fl.V q)) : hiAt p < loAt q := by
  obtain ⟨_, k, _, hi, v1, x1, _, h1, b1, b2, _, _⟩ := fin_parts hp hp0
  obtain ⟨_, j, lo, _, v2, x2, l1, _, _, _, d1, o1⟩ := fin_parts hq hq0
  unfold hiAt loAt
  rw [h1, l1, x1, x2]
  have hlog : (Fl.V p).natAbs.log2 = hi + k := by
    rw [v1, Fl.log2_mul_pow _ _ (by have := Nat.two_pow_pos hi; omega)]
    congr 1
    exact (Nat.log2_eq_iff (by have := Nat.two_pow_pos hi; omega)).2 ⟨b1, b2⟩
  unfold Fl.Sp at h
  rw [← Fl.dvd_natAbs_iff, hlog, v2] at h
  refine Decidable.byContradiction fun hn => ?_
  have hle : lo + 1 + j ≤ hi + k + 1 := by omega
  have h3 : 2 ^ (lo + 1 + j) ∣ manOf q * 2 ^ j := Nat.dvd_trans (Nat.pow_dvd_pow 2 hle) h
  rw [Nat.pow_add] at h3
  have h4 : 2 ^ (lo + 1) ∣ manOf q := Nat.dvd_of_mul_dvd_mul_right (Nat.two_pow_pos j) h3
  obtain ⟨c, hc⟩ := h4
  rw [hc, Nat.pow_succ, Nat.mul_assoc, Nat.mul_div_cancel_left _ (Nat.two_pow_pos lo)] at o1
  omega
theorem apart_get {ps : List Nat} (h : Fl.Apart ps) : ∀ i j, i < j → j < ps.length → Fl.Sp (Fl.V (ps.getD i 0)) (Fl.V (ps.getD j 0)) := by
  induction ps with
  | nil => intro i j _ hj; simp at hj
  | cons p ps ih =>
    intro i j hij hj
    match i, j, hij, hj with
    | 0, j + 1, _, hj =>
      refine h.2.1 _ ?_
      simp only [List.getD_cons_succ]
      exact Fl.getD_mem (by simpa using hj)
    | i + 1, j + 1, hij, hj =>
      simp only [List.getD_cons_succ]
      exact ih h.2.2 i j (by omega) (by simpa using hj)
theorem apart_ne {ps : List Nat} (h : Fl.Apart ps) : ∀ i, i < ps.length → Fl.V (ps.getD i 0) ≠ 0 := by
  induction ps with
  | nil => intro i hi; simp at hi
  | cons p ps ih =>
    intro i hi
    match i, hi with
    | 0, _ => exact h.1
    | i + 1, hi => simp only [List.getD_cons_succ]; exact ih h.2.2 i (by simpa using hi)
theorem at_bd (x : Nat) : -1100 ≤ hiAt x ∧ hiAt x ≤ 1100 ∧ -1100 ≤ loAt x ∧ loAt x ≤ 1100 := by
  have := exp_bd x
  have := highTo_ge (manOf x) 64
  have := lowTo_ge (manOf x) 64
  have := highTo_lt (manOf x) 64 (by omega)
  have := lowTo_lt (manOf x) 64 (by omega)
  unfold hiAt loAt
  omega

theorem apart_nil (w : World) (a : Option Addr) (c : Nat) : Calls Talg.prog 27 #[.slice a 0 c] w fun e w' => e = .returned (.bool true) ∧ w' = w := by
  go_enter Talg.func27, Talg.ntmps27
  go_wp2
  refine wp_loop_rounds 1 ?_
  rw [rounds_succ]
  go_wp2
  go_ret
  exact ⟨rfl, rfl⟩
set_option maxRecDepth 100000 in
theorem apart_some (b off c : Nat) (ps : List Nat) (w : World) (hn : ps.length ≤ 1025) (hr : FR w b off ps) (hfin : ∀ p ∈ ps, Fl.Fin p) (hap : Fl.Apart ps) :
    Calls Talg.prog 27 #[.slice (some ⟨b, off, none⟩) ps.length c] w fun e w' => e = .returned (.bool true) ∧ w' = w := by
  have HSp := hide (fun i j h1 h2 => sp_ends (hfin _ (Fl.getD_mem (Nat.lt_trans h1 h2))) (hfin _ (Fl.getD_mem h2)) (apart_ne hap i (Nat.lt_trans h1 h2)) (apart_ne hap j h2) (apart_get hap i j h1 h2))
  have HFin := hide hfin
  have HNe := hide (apart_ne hap)
  clear hfin hap
  go_enter Talg.func27, Talg.ntmps27
  go_wp2
  go_loop [3, 4] (fun l i => ∃ (k : Nat) (last : Int), k ≤ ps.length ∧ i = .int .i64 k ∧ l = .int .i64 last ∧ -5000 ≤ last ∧ last ≤ 5000 ∧ Hid (∀ j, k ≤ j → j < ps.length → last < loAt (ps.getD j 0))) (fun _ i => ps.length - (intOf i).toNat)
  case atStart => exact ⟨0, -5000, by omega, rfl, rfl, by omega, by omega, fun j _ _ => by have := at_bd (ps.getD j 0); omega⟩
  case round =>
    obtain ⟨k, last, hk, rfl, rfl, hl1, hl2, HL⟩ := hrel
    by_cases hlt : k < ps.length
    · have hcell := hr k hlt
      have hlast := HL.out k (Nat.le_refl _) hlt
      have HN := hide (fun j (h1 : k + 1 ≤ j) (h2 : j < ps.length) => HSp.out k j h1 h2)
      have hxf := HFin.out _ (Fl.getD_mem hlt)
      have hx0 := HNe.out k hlt
      generalize ps.getD k 0 = x at *
      have HS := hide (fun wx => split_any x hxf.1 wx)
      have HE := hide (fun wx => ends_any (manOf x) (by have := man_lt x; omega) wx)
      have hc : clsOf x = 1 := (fin_parts hxf hx0).1
      have hb := exp_bd x
      have b1 := highTo_ge (manOf x) 64
      have b2 := lowTo_ge (manOf x) 64
      have b3 := highTo_lt (manOf x) 64 (by omega)
      have b4 := lowTo_lt (manOf x) 64 (by omega)
      unfold loAt at hlast
      unfold hiAt at HN
      rw [hc] at HS
      have hd : decide (lowTo (manOf x) 64 + expOf x ≤ last) = false := by simp; omega
      clear hxf hx0 hc HL
      generalize negOf x = ng at *
      generalize expOf x = ex at *
      generalize manOf x = m at *
      generalize highTo m 64 = hi at *
      generalize lowTo m 64 = lo at *
      obtain ⟨hb1, hb2⟩ := hb
      go_wp2_with (first | (go_at_call 57; refine (Hid.out HS _).mono ?_; rintro e w' ⟨rfl, rfl⟩) | (go_at_call 59; refine (Hid.out HE _).mono ?_; rintro e w' ⟨rfl, rfl⟩))
      go_round
      case rel => exact ⟨k + 1, hi + ex, by omega, by go_num, rfl, by omega, by omega, HN.out⟩
      case measure => simp [intOf]; omega
    · go_wp2
      go_ret
      exact ⟨rfl, rfl⟩
theorem apart_own (base : Nat) (v : Value) (ps : List Nat) (w : World) (ho : Own w base v ps) (hn : ps.length ≤ 1025) (hfin : ∀ p ∈ ps, Fl.Fin p) (hap : Fl.Apart ps) :
    Calls Talg.prog 27 #[v] w fun e w' => e = .returned (.bool true) ∧ w' = w := by
  rcases ho.shape with ⟨rfl, rfl⟩ | ⟨g, c, rfl, _, hg⟩
  · exact apart_nil w none 0
  · exact apart_some g 0 c ps w hn ho.fr.2 hfin hap
end Go.Proofs.Ygctal
