import Derived.Test.YgctalSo
namespace Go.Proofs.Ygctal
open Go.RowKit
set_option maxHeartbeats 4000000
set_option linter.unusedVariables false
set_option linter.unusedSimpArgs false
attribute [local go_sem] run_store_complex

/-! shadow.Stage. -/
theorem gb_below {w w' : World} (h : Below w.heap.size w w') (row : Option Nat) : w.grownBy w' row := ⟨h.os, h.tape, h.output, h.size, fun k hk _ => h.block k hk⟩
theorem gb_alloc (w : World) (o : Obj) (row : Option Nat) : w.grownBy (w.alloc o) row := gb_below ((Below.refl _ _).alloc (Nat.le_refl _) o) row
theorem tab_same {w w' : World} {gt k m : Nat} (h : ∃ cs, Blk w gt 28 cs ∧ cs.length = m ∧ TabTo k m cs) (e : w'.heap[gt]? = w.heap[gt]?) : ∃ cs, Blk w' gt 28 cs ∧ cs.length = m ∧ TabTo k m cs := by
  obtain ⟨cs, h1, h2⟩ := h
  exact ⟨cs, by unfold Blk at *; rw [e]; exact h1, h2⟩
theorem gb_new {w w' w'' : World} {gx g : Nat} (h : w.grownBy w' (some gx)) (hg : w.heap.size ≤ g) (h2 : w'.grownBy w'' (some g)) : w.grownBy w'' (some gx) :=
  ⟨h2.os.trans h.os, h2.tape.trans h.tape, h2.output.trans h.output, Nat.le_trans h.size h2.size, fun k hk hn => (h2.block k (Nat.lt_of_lt_of_le hk h.size) (fun e => by have := Option.some.inj e; omega)).trans (h.block k hk hn)⟩
theorem cmul_fin {x y : Nat × Nat} (hx1 : Fl.Sm 1036 x.1) (hx2 : Fl.Sm 1036 x.2) (hy1 : Fl.Sm 1024 y.1) (hy2 : Fl.Sm 1024 y.2) : Fl.Fin (Fl.cmul x y).1 ∧ Fl.Fin (Fl.cmul x y).2 := by
  obtain ⟨_, s1⟩ := Fl.mul_sm hx1 hy1 (by omega) (by omega) (by omega)
  obtain ⟨_, s2⟩ := Fl.mul_sm hx2 hy2 (by omega) (by omega) (by omega)
  obtain ⟨_, s3⟩ := Fl.mul_sm hx1 hy2 (by omega) (by omega) (by omega)
  obtain ⟨_, s4⟩ := Fl.mul_sm hx2 hy1 (by omega) (by omega) (by omega)
  unfold Fl.cmul
  dsimp only
  rw [Fl.fs_eq (s1.fin (by omega)) (s2.fin (by omega)), Fl.fa_eq (s3.fin (by omega)) (s4.fin (by omega))]
  exact ⟨(Fl.sm_sum s1 s2 (by omega) (by omega)).2, (Fl.sm_sum s3 s4 (by omega) (by omega)).1⟩
theorem csum_add {a b c d : Nat} (ha : Fl.Fin a) (hb : Fl.Fin b) (hc : Fl.Fin c) (hd : Fl.Fin d) : cSumBits .add .f64 a b c d = some (Fl.fa a c, Fl.fa b d) := by
  unfold cSumBits
  rw [show floatBits .add .f64 a c = some (Fl.fa a c) from Fl.add_fa ha hc, show floatBits .add .f64 b d = some (Fl.fa b d) from Fl.add_fa hb hd]
  rfl
theorem csum_sub {a b c d : Nat} (ha : Fl.Fin a) (hb : Fl.Fin b) (hc : Fl.Fin c) (hd : Fl.Fin d) : cSumBits .sub .f64 a b c d = some (Fl.fs a c, Fl.fs b d) := by
  unfold cSumBits
  rw [show floatBits .sub .f64 a c = some (Fl.fs a c) from Fl.sub_fs ha hc, show floatBits .sub .f64 b d = some (Fl.fs b d) from Fl.sub_fs hb hd]
  rfl
theorem jnd_lt {a b o : Nat} {p : Bool} (ha : a < 18446744073709551616) (hb : b < 18446744073709551616) (ho : o < 2417851639229258349412352) : jnd a b o p < 340282366920938463463374607431768211456 := by
  unfold jnd spr
  split <;> omega
theorem mx_step2 {α : Type} {P P1 : Nat → Bool} {f g : Nat → α} {p q : Nat} {a b : α} (hp : f p = a) (hq : f q = b) (h : ∀ i, P1 i ↔ P i ∨ i = p ∨ i = q) (i : Nat) : (if i = q then b else if i = p then a else mx P f g i) = mx P1 f g i := by
  rw [← hp, ← hq]
  exact mx_step (n := 0) h i
structure StI (w wr : World) (gx gt go n k m : Nat) (ow : List Nat) (Z : Nat → Nat × Nat) (E : Nat → Nat) : Prop where
  pt : PtAt wr gx n Z E
  ow : AccB wr go 31 ow
  gb : w.grownBy wr (some gx)
  tab : ∃ cs, Blk wr gt 28 cs ∧ cs.length = m ∧ TabTo k m cs
  sz : go < wr.heap.size
section
variable {w wr wr' : World} {gx gt go n k m : Nat} {ow : List Nat} {Z Z' : Nat → Nat × Nat} {E E' : Nat → Nat}
theorem StI.low (h : StI w wr gx gt go n k m ow Z E) {B : Nat} (hb : Below B wr wr') (h1 : gx < B) (h2 : gt < B) (h3 : go < B) (h4 : w.heap.size ≤ B) : StI w wr' gx gt go n k m ow Z E :=
  ⟨h.pt.same (hb.block gx h1), Blk.below h.ow hb h3, ⟨hb.os.trans h.gb.os, hb.tape.trans h.gb.tape, hb.output.trans h.gb.output, Nat.le_trans h.gb.size hb.size, fun k hk hn => (hb.block k (by omega)).trans (h.gb.block k hk hn)⟩,
    tab_same h.tab (hb.block gt h2), Nat.lt_of_lt_of_le h.sz hb.size⟩
theorem StI.own (h : StI w wr gx gt go n k m ow Z E) (hp : PtAt wr' gx n Z' E') (hg : wr.grownBy wr' (some gx)) (h1 : gx ≠ go) (h2 : gx ≠ gt) (hgt : gt < wr.heap.size) : StI w wr' gx gt go n k m ow Z' E' :=
  ⟨hp, h.ow.grown hg (fun e => h1 (Option.some.inj e)), gb_trans h.gb hg, tab_same h.tab (hg.block gt hgt (fun e => h2 (Option.some.inj e).symm)), Nat.lt_of_lt_of_le h.sz hg.size⟩
theorem StI.congr (h : StI w wr gx gt go n k m ow Z E) (hz : ∀ i, i < n → Z i = Z' i) (he : ∀ i, i < n → E i = E' i) : StI w wr gx gt go n k m ow Z' E' := ⟨h.pt.congr hz he, h.ow, h.gb, h.tab, h.sz⟩
end
set_option maxRecDepth 1000000 in
theorem stage_s (k t gx gt most : Nat) (Z0 : Nat → Nat × Nat) (E0 : Nat → Nat) (w : World) (h1 : 1 ≤ k) (h11 : k ≤ 11) (ht1 : 1 ≤ t) (htk : t ≤ k) (hmost : most < 281474976710656)
    (hP : PtAt w gx (p2 k) Z0 E0) (hT : TabRow w gt k) (hgx : gx < w.heap.size) (hgt : gt < w.heap.size) (hne : gx ≠ gt)
    (hZ : ∀ i, i < p2 k → Fl.Sm 1036 (Z0 i).1 ∧ Fl.Sm 1036 (Z0 i).2) (hE : ∀ i, i < p2 k → E0 i < 18446744073709551616) :
    Calls Talg.prog 14 #[.slice (some ⟨gx, 0, none⟩) (p2 k) (p2 k), .slice (some ⟨gt, 0, none⟩) (p2 (k - 1)) (p2 (k - 1)), .int .u8 (t : Int), .int .u64 (most : Int)] w fun e w' =>
      e = .returned (.tuple #[]) ∧ PtAt w' gx (p2 k) (FZ k (p2 (t - 1)) (p2 (k - t)) Z0) (FE k (p2 (t - 1)) (p2 (k - t)) (most * 4294967296 + 1) E0) ∧ w.grownBy w' (some gx) := by
  obtain ⟨r, HR⟩ : ∃ r, Hid (t = r + 1) := ⟨t - 1, by show t = _; omega⟩
  obtain ⟨d, HD⟩ : ∃ d, Hid (k = t + d) := ⟨k - t, by show k = _; omega⟩
  have er : t - 1 = r := by have := HR.out; omega
  have ed : k - t = d := by have := HD.out; omega
  rw [er, ed]
  have HP := hide hP
  have HT := hide hT
  have HZ := hide hZ
  have HE := hide hE
  have HH := hide (hf_p2 r (by omega))
  have hn := p2_le (show k ≤ 11 by omega)
  rw [p2_11] at hn
  have HK := hide (show p2 k = 2 * p2 (k - 1) by rw [← p2_succ]; congr 1; omega)
  have HS := hide (show p2 (k - 1) = p2 r * p2 d by rw [← p2_add]; congr 1; omega)
  have hh0 := p2_pos r
  have hs0 := p2_pos d
  have HL := hide (fun wx => level_s k h11 wx)
  have HU := hide (fun wx => units_any most (by omega) wx)
  have HRt := hide (fun i (hi : i < p2 (k - 1)) => Fl.rt_ok k i h1 h11 hi)
  have hd1 : decide ((k : Int) < 1) = false := by simp; omega
  have hd2 : decide ((t : Int) < 1) = false := by simp; omega
  have hd3 : decide ((k : Int) < t) = false := by simp; omega
  have hd4 : decide (k < t) = false := by simp; omega
  have e1 : IntKind.u8.wrap ((t : Int) - 1) = (r : Int) := by rw [IntKind.wrap_u8]; omega
  have e2 : (k : Int) - t = (d : Int) := by omega
  have s1 := shl_p2 r (by omega)
  have s2 := shl_p2 d (by omega)
  have hm : 2 * p2 (k - 1) = p2 k := HK.out.symm
  have hln : (((p2 k : Nat) : Int) == 2 * ((p2 (k - 1) : Nat) : Int)) = true := by simp; omega
  have hmn : p2 (k - 1) ≤ 1024 := by omega
  have HTab := hide (show ∃ cs, Blk w gt 28 cs ∧ cs.length = p2 (k - 1) ∧ TabTo k (p2 (k - 1)) cs from HT.out)
  clear hP hT hZ hE er ed hm HT
  generalize p2 (k - 1) = m at *
  generalize p2 k = n at *
  generalize p2 r = h at *
  generalize p2 d = st at *
  go_enter Talg.func14, Talg.ntmps14
  go_wp2_with fail
  refine (HL.out _).mono ?_
  rintro e wx ⟨rfl, hwx⟩
  subst wx
  clear hln
  go_wp2_with fail
  rotate_left
  · exact absurd (show (n : Int) = 2 * (m : Int) by have := HK.out; omega) (by assumption)
  rename (n : Int) = 2 * (m : Int) => hnm0
  clear hnm0
  have hr62 : min r 64 = r := by have := HR.out; omega
  go_quiet (fail)
  go_wp2_with fail
  rw [s1, s2]
  clear s1 s2 hr62 e1 e2 hd1 hd2 hd3 hd4 HL
  have HP1 := hide (HP.out.drewN nq)
  have HG1 := hide (gb_drewN w nq (some gx))
  have HTab1 := hide (show ∃ cs, Blk (w.drewN nq) gt 28 cs ∧ cs.length = m ∧ TabTo k m cs from HTab.out)
  have hgx1 : gx < (w.drewN nq).heap.size := hgx
  have hsw : w.heap.size ≤ (w.drewN nq).heap.size := Nat.le_refl _
  have hgt1 : gt < (w.drewN nq).heap.size := hgt
  clear HP HTab
  generalize w.drewN nq = w1 at *
  refine (HU.out _).mono ?_
  rintro e w2 ⟨ow, rfl, hoz, hb2⟩
  have hlo : ow.length = 68 := hoz.1
  have HOz := hide hoz
  have HP2 := hide ((HP1.out.same (hb2.block gx hgx1)).same (w' := w2.alloc (.cells Talg.zeroCells31 31)) (Below.heap_alloc _ _ _ (Nat.lt_of_lt_of_le hgx1 hb2.size)))
  have hsz2 := hb2.size
  have HG2 := hide (gb_trans HG1.out (gb_trans (gb_below hb2 (some gx)) (gb_alloc w2 (.cells Talg.zeroCells31 31) (some gx))))
  have HTab2 := hide (tab_same HTab1.out ((Below.heap_alloc _ (.cells Talg.zeroCells31 31) _ (Nat.lt_of_lt_of_le hgt1 hb2.size)).trans (hb2.block gt hgt1)))
  have HO2 := hide (AccB.new w2)
  clear HP1 HG1 HTab1 hoz hb2 HU
  go_wp2_with (refine wpList_store_row rfl 31 _ _ rfl w2.heap.size (accArr ow) rfl rfl 31 (accArr zeros68) HO2.out.heap (by rw [accArr_size, hlo]; exact acc_info) (by rw [accArr_size, accArr_size, hlo]; rfl) (accArr_one _) ?_)
  have HO3 := hide (HO2.out.setRow ow)
  have HP3 := hide (HP2.out.same (w' := (w2.alloc (.cells Talg.zeroCells31 31)).setRow w2.heap.size (accArr ow)) (setRow_other _ _ _ _ (by omega)))
  have HG3 := hide (show w.grownBy ((w2.alloc (.cells Talg.zeroCells31 31)).setRow w2.heap.size (accArr ow)) (some gx) from gb_new HG2.out (by omega) (gb_setRow _ w2.heap.size (accArr ow)))
  have HTab3 := hide (tab_same HTab2.out (setRow_other (w2.alloc (.cells Talg.zeroCells31 31)) w2.heap.size gt (accArr ow) (by omega)))
  have hgo1 : gx < w2.heap.size := by omega
  have hgo2 : gt < w2.heap.size := by omega
  have HZo := hide (show AccOf ow ((most * 4294967296 + 1 : Nat) : Int) from HOz.out)
  have ho := Blk.lt HO3.out
  clear HO2 HP2 HG2 HTab2 HOz
  generalize (w2.alloc (.cells Talg.zeroCells31 31)).setRow w2.heap.size (accArr ow) = w3 at *
  generalize w2.heap.size = go at *
  have hob : most * 4294967296 + 1 < 2417851639229258349412352 := by omega
  generalize hoo : most * 4294967296 + 1 = o at *
  have HOo := hide hoo
  clear hoo
  have HSt := hide (show StI w w3 gx gt go n k m ow Z0 E0 from ⟨HP3.out, HO3.out, HG3.out, HTab3.out, ho⟩)
  clear HP3 HO3 HG3 HTab3 ho
  have hgow : w.heap.size ≤ go := by omega
  have hgow3 := HSt.out.sz
  have HSt0 := hide (HSt.out.congr (Z' := mx (Pr h 0 0) (FZ k h st Z0) Z0) (E' := mx (Pr h 0 0) (FE k h st o E0) E0) (fun i _ => (mx_no (pr_zero i HH.out)).symm) (fun i _ => (mx_no (pr_zero i HH.out)).symm))
  have HS2 := hide (show n = 2 * h * st by rw [HK.out, HS.out, Nat.mul_assoc])
  have hhn : h ≤ m := by rw [HS.out]; exact Nat.le_mul_of_pos_right h hs0
  have hnm : n = 2 * m := HK.out
  have HN0 := hide (show n % (2 * h) = 0 by rw [HS2.out]; exact Nat.mul_mod_right _ _)
  clear HSt hgx1 hgt1 hsz2 hsw hlo
  go_loopw [12] (fun i wr => ∃ j : Nat, j ≤ h ∧ i = .int .i64 j ∧ Hid (StI w wr gx gt go n k m ow (mx (Pr h j j) (FZ k h st Z0) Z0) (mx (Pr h j j) (FE k h st o E0) E0))) (fun i _ => h - (intOf i).toNat)
  case atStart => exact ⟨0, by omega, rfl, HSt0⟩
  case round =>
    clear HSt0 hgow3
    obtain ⟨j, hj, rfl, HI⟩ := hrel
    by_cases hlt : j < h
    · have HQl : j * st < m := by rw [HS.out]; exact Nat.mul_lt_mul_of_pos_right hlt hs0
      obtain ⟨q0, HQ0⟩ : ∃ q0, Hid (q0 = j * st) := ⟨_, rfl⟩
      have hq0 : (j : Int) * (st : Int) = (q0 : Int) := by rw [HQ0.out, Int.natCast_mul]
      have hq1 : q0 < m := by rw [HQ0.out]; exact HQl
      have hcz : wr.cell? ⟨gt, q0, none⟩ = some (.complex .f64 (Fl.rt k q0).1 (Fl.rt k q0).2) := by
        obtain ⟨cs, c1, c2, c3⟩ := HI.out.tab
        rw [c1.cell]; exact c3 q0 hq1
      have hok := HRt.out q0 hq1
      have HSm := hide (And.intro hok.1 hok.2.1)
      clear HQl hok
      have HZr := hide (show Fl.rt k q0 = Fl.rt k q0 from rfl)
      generalize hzz : Fl.rt k q0 = z at *
      have HZz := hide hzz
      clear hzz HZr
      have szA : ((wr.alloc (.cells Talg.zeroCells31 31)).alloc (.cells Talg.zeroCells31 31)).heap.size = wr.heap.size + 1 + 1 := by simp
      have szB : (((wr.alloc (.cells Talg.zeroCells31 31)).alloc (.cells Talg.zeroCells31 31)).alloc (.cells Talg.zeroCells31 31)).heap.size = wr.heap.size + 1 + 1 + 1 := by simp
      have HA1 := hide (((AccB.new wr).alloc (.cells Talg.zeroCells31 31)).alloc (.cells Talg.zeroCells31 31))
      have hA2 := (AccB.new (wr.alloc (.cells Talg.zeroCells31 31))).alloc (.cells Talg.zeroCells31 31)
      rw [show (wr.alloc (.cells Talg.zeroCells31 31)).heap.size = wr.heap.size + 1 from by simp] at hA2
      have HA2 := hide hA2
      have hA3 := AccB.new ((wr.alloc (.cells Talg.zeroCells31 31)).alloc (.cells Talg.zeroCells31 31))
      rw [szA] at hA3
      have HA3 := hide hA3
      have hgw := HI.out.sz
      have HI2 := hide (HI.out.low ((((Below.refl wr.heap.size wr).alloc (Nat.le_refl _) (.cells Talg.zeroCells31 31)).alloc (by simp) (.cells Talg.zeroCells31 31)).alloc (by simp; omega) (.cells Talg.zeroCells31 31)) (by omega) (by omega) hgw (by omega))
      clear hA2 hA3 szA HI
      go_wp2_with fail
      generalize ((wr.alloc (.cells Talg.zeroCells31 31)).alloc (.cells Talg.zeroCells31 31)).alloc (.cells Talg.zeroCells31 31) = w4 at *
      generalize wr.heap.size = gu at *
      have HX0 := hide (show ∃ u v e : Nat, u < 18446744073709551616 ∧ v < 18446744073709551616 ∧ e < 340282366920938463463374607431768211456 ∧ RT w4 gu u ∧ RT w4 (gu + 1) v ∧ RT w4 (gu + 1 + 1) e ∧ (j ≠ j → e = jnd u v o (Fl.plainB z)) from ⟨0, 0, 0, by omega, by omega, by omega, RT.of (e := 0) HA1.out, RT.of (e := 0) HA2.out, RT.of (e := 0) HA3.out, fun hh => absurd rfl hh⟩)
      have HM0 := hide (show j % (2 * h) = j from Nat.mod_eq_of_lt (by omega))
      have hsz4 : gu + 1 + 1 < w4.heap.size := by omega
      clear HA1 HA2 HA3 szB hcz hq0
      go_loopw [17] (fun i wx => ∃ s : Nat, i = .int .i64 s ∧ s < n + 2 * h ∧ Hid (s % (2 * h) = j) ∧ Hid (StI w wx gx gt go n k m ow (mx (Pr h j s) (FZ k h st Z0) Z0) (mx (Pr h j s) (FE k h st o E0) E0)) ∧ Hid (∃ u v e : Nat, u < 18446744073709551616 ∧ v < 18446744073709551616 ∧ e < 340282366920938463463374607431768211456 ∧ RT wx gu u ∧ RT wx (gu + 1) v ∧ RT wx (gu + 1 + 1) e ∧ (s ≠ j → e = jnd u v o (Fl.plainB z))) ∧ gu + 1 + 1 < wx.heap.size) (fun i _ => n + 2 * h - (intOf i).toNat)
      case atStart => exact ⟨j, rfl, by omega, HM0, HI2, HX0, hsz4⟩
      case round =>
        clear HI2 HX0 HM0 hsz4
        obtain ⟨s, rfl, hsn, HM, HI, HX, hsz⟩ := hrel
        by_cases hls : s < n
        · have hsh : s + h < n := pair_lt HH.out (by rw [HM.out]; exact hlt) HN0.out hls
          obtain ⟨u, v, e, hub, hvb, heb, hRu, hRv, hRe, hue⟩ := HX.out
          have HRu := hide hRu
          have HRv := hide hRv
          have HRe := hide hRe
          have HUE := hide hue
          have hnot := pr_not HH.out HM.out hlt
          have HA := hide (show wr.rangeAt gx (s * 69 + 1) (wv (ew (E0 s))) by have := HI.out.pt.e s hls; rwa [mx_no hnot.1] at this)
          have HB := hide (show wr.rangeAt gx ((s + h) * 69 + 1) (wv (ew (E0 (s + h)))) by have := HI.out.pt.e (s + h) hsh; rwa [mx_no hnot.2] at this)
          have hAb := HE.out s hls
          have hBb := HE.out (s + h) hsh
          clear hRu hRv hRe hue HX
          go_wp2_with fail
          go_quiet (fail)
          go_wp2_with fail
          refine st_r13 _ gx gu (gu + 1) (s * 69) ((s + h) * 69) s j (ew (E0 s)) (ew (E0 (s + h))) (ew u) (ew v) _ (ew_len _) (ew_len _) (ew_len _) (ew_len _) rfl (load_mid (w := wr.drewN nq) (fun j v hv => HA.out j v hv) (ew_len _)) (load_mid (w := wr.drewN nq) (fun j v hv => HRu.out.r j v hv) (ew_len _)) (load_mid (w := wr.drewN nq) (fun j v hv => HB.out j v hv) (ew_len _)) (load_mid (w := wr.drewN nq) (fun j v hv => HRv.out.r j v hv) (ew_len _)) _ _ _ _ _ _ _ _ _ _ _ _ _ _ _ _ _ _ _ _ _ _ _ _ _ _ _ _ _ _ _ _ _ _ _ _ _ _ _ _ _ _ _ _ _ _ _ _ _ _ _ _ _ _ _ _ _ _ _ _ _ _ _ _ _ _ _ _ _ _ _ _ _ _ _ _ _ _ _ _ _ _ _ _ _ _ _ _ _ _ _ _ _ _ _ _ _ _ _ _ _ _ _ _ _ _ _ _ _ _ _ _ _ _ _ _ _ _ _ _ _ _ _ _ _ _ _ _ _ _ _ _ _ _ _ _ _ _ _ ?_
          intro v83 v84 v85 v86 v87 v88 v89 v90 v91 v92 v93 v94 v95 v96 v97 v98 v99 v100 nq2
          cases hbb : (!(decide (s ≠ j) && decide (ew (E0 s) = ew u) && decide (ew (E0 (s + h)) = ew v)))
          · have hbb2 : s ≠ j ∧ ew (E0 s) = ew u ∧ ew (E0 (s + h)) = ew v := by simpa [and_assoc] using hbb
            have HAu := hide (ew_inj (by omega) hbb2.2.1)
            have HBv := hide (ew_inj (by omega) hbb2.2.2)
            obtain ⟨ee, HEE0⟩ : ∃ ee, Hid (ee = e) := ⟨_, rfl⟩
            have HEE := hide (show ee = jnd (E0 s) (E0 (s + h)) o (Fl.plainB z) by rw [HEE0.out, HAu.out, HBv.out]; exact HUE.out hbb2.1)
            have HBl := hide (show Below wr.heap.size wr ((wr.drewN nq).drewN nq2) from Below.drewN (Below.drewN (Below.refl _ _) nq) nq2)
            have HI6 := hide (HI.out.low HBl.out (by omega) (by omega) (by omega) (by omega))
            have HR1 := hide (show RT ((wr.drewN nq).drewN nq2) gu (E0 s) by rw [HAu.out]; exact HRu.out.below HBl.out (by omega))
            have HR2 := hide (show RT ((wr.drewN nq).drewN nq2) (gu + 1) (E0 (s + h)) by rw [HBv.out]; exact HRv.out.below HBl.out (by omega))
            have HR3 := hide (show RT ((wr.drewN nq).drewN nq2) (gu + 1 + 1) ee by rw [HEE0.out]; exact HRe.out.below HBl.out (by omega))
            have hsz6 : gu + 1 + 1 < ((wr.drewN nq).drewN nq2).heap.size := hsz
            clear hbb hbb2 HAu HBv HUE HRu HRv HRe HI HA HB HEE0
            go_wp2_with fail
            generalize (wr.drewN nq).drewN nq2 = w6 at *
            clear HBl
            have hc1 : w6.cell? ⟨gx, s * 69, none⟩ = some (.complex .f64 (Z0 s).1 (Z0 s).2) := by have := HI6.out.pt.z s hls; rwa [mx_no hnot.1] at this
            have hc2 : w6.cell? ⟨gx, (s + h) * 69, none⟩ = some (.complex .f64 (Z0 (s + h)).1 (Z0 (s + h)).2) := by have := HI6.out.pt.z (s + h) hsh; rwa [mx_no hnot.2] at this
            have hf1 := HI6.out.pt.f (s * 69)
            have hf2 := HI6.out.pt.f ((s + h) * 69)
            have hz1 := HZ.out s hls
            have hz2 := HZ.out (s + h) hsh
            have HMul := hide (fun wx => Mul_any (Z0 (s + h)) z hz2.1 hz2.2 HSm.out.1 HSm.out.2 wx)
            have hbf := cmul_fin hz2.1 hz2.2 HSm.out.1 HSm.out.2
            have hadd := fun wx => run_complex_sum (P := Talg.prog) wx .add (.inl rfl) 28 .f64 (Z0 s).1 (Z0 s).2 (Fl.cmul (Z0 (s + h)) z).1 (Fl.cmul (Z0 (s + h)) z).2 _ _ (csum_add (hz1.1.fin (by omega)) (hz1.2.fin (by omega)) hbf.1 hbf.2)
            have hsub := fun wx => run_complex_sum (P := Talg.prog) wx .sub (.inr rfl) 28 .f64 (Z0 s).1 (Z0 s).2 (Fl.cmul (Z0 (s + h)) z).1 (Fl.cmul (Z0 (s + h)) z).2 _ _ (csum_sub (hz1.1.fin (by omega)) (hz1.2.fin (by omega)) hbf.1 hbf.2)
            have HFp := hide (show FZ k h st Z0 s = cadd (Z0 s) (Fl.cmul (Z0 (s + h)) z) by rw [FZ_p HH.out (by rw [HM.out]; exact hlt), HM.out, ← HQ0.out, HZz.out])
            have HFq := hide (show FZ k h st Z0 (s + h) = csub (Z0 s) (Fl.cmul (Z0 (s + h)) z) by rw [FZ_q HH.out (by rw [HM.out]; exact hlt), HM.out, ← HQ0.out, HZz.out])
            have HEp := hide (show FE k h st o E0 s = jnd (E0 s) (E0 (s + h)) o (Fl.plainB z) by rw [FE_p HH.out (by rw [HM.out]; exact hlt), HM.out, ← HQ0.out, HZz.out])
            have HEq := hide (show FE k h st o E0 (s + h) = jnd (E0 s) (E0 (s + h)) o (Fl.plainB z) by rw [FE_q HH.out (by rw [HM.out]; exact hlt), HM.out, ← HQ0.out, HZz.out])
            clear hz1 hz2 hbf hnot
            generalize hzs : Z0 s = zs at *
            generalize hzq : Z0 (s + h) = zq at *
            have HX1 := hide (And.intro hzs hzq)
            clear hzs hzq
            generalize hmm : Fl.cmul zq z = mm at *
            have HX2 := hide hmm
            clear hmm
            go_quiet ((go_at_call 44; exact Calls.quiet_of_same (Hid.out HMul _)))
            go_wp2_with fail
            have HP7 := hide (show PtAt (((w6.drewN nq).setCell ⟨gx, s * 69, none⟩ (.complex .f64 (Fl.fa zs.1 mm.1) (Fl.fa zs.2 mm.2))).setCell ⟨gx, (s + h) * 69, none⟩ (.complex .f64 (Fl.fs zs.1 mm.1) (Fl.fs zs.2 mm.2))) gx n (fun i => if i = s + h then csub zs mm else if i = s then cadd zs mm else mx (Pr h j s) (FZ k h st Z0) Z0 i) (mx (Pr h j s) (FE k h st o E0) E0) from ((HI6.out.pt.drewN nq).setZ hls (cadd zs mm)).setZ hsh (csub zs mm))
            have HG7 := hide (gb_trans (gb_drewN w6 nq (some gx)) (gb_trans (gb_setCell (w6.drewN nq) gx (s * 69) (.complex .f64 (Fl.fa zs.1 mm.1) (Fl.fa zs.2 mm.2))) (gb_setCell ((w6.drewN nq).setCell ⟨gx, s * 69, none⟩ (.complex .f64 (Fl.fa zs.1 mm.1) (Fl.fa zs.2 mm.2))) gx ((s + h) * 69) (.complex .f64 (Fl.fs zs.1 mm.1) (Fl.fs zs.2 mm.2)))))
            have hg6 : gx < w6.heap.size := by omega
            clear hc1 hc2 hf1 hf2 hadd hsub HMul
            generalize ((w6.drewN nq).setCell ⟨gx, s * 69, none⟩ (.complex .f64 (Fl.fa zs.1 mm.1) (Fl.fa zs.2 mm.2))).setCell ⟨gx, (s + h) * 69, none⟩ (.complex .f64 (Fl.fs zs.1 mm.1) (Fl.fs zs.2 mm.2)) = w7 at *
            have HR37 := hide (HR3.out.grown HG7.out (by simp; omega) hsz6)
            refine st_r18 w7 gx (gu + 1 + 1) (s * 69) ((s + h) * 69) (wv (ew ee)) HR37.out.r (HP7.out.there hls) (HP7.out.there hsh) (by omega) (wv_ew_len _) (wv_one _) _ _ _ _ _ _ _ _ _ _ _ _ _ _ _ _ _ _ _ _ _ _ _ _ _ _ _ _ _ _ _ _ _ _ _ _ _ _ _ _ _ _ _ _ _ _ _ _ _ _ _ _ _ _ _ _ _ _ _ _ _ _ _ _ _ _ _ _ _ _ _ _ _ _ _ _ _ _ _ _ _ _ _ _ _ _ _ _ _ _ _ _ _ _ _ _ _ _ _ _ _ _ _ _ _ _ _ _ _ _ _ _ _ _ _ _ _ _ _ _ _ _ _ _ _ _ _ _ _ _ _ _ _ _ _ _ _ _ _ _ _ _ ?_
            intro v137 v138 v139 v140 v141 v142 v143 v144
            have HP8 := hide ((HP7.out.drew.setE hls ee).setE hsh ee)
            have HG8 := hide (gb_trans HG7.out (gb_trans (gb_drew w7 (some gx)) (gb_trans (gb_setCells w7.drew gx (s * 69 + 1) (wv (ew ee))) (gb_setCells _ gx ((s + h) * 69 + 1) (wv (ew ee))))))
            clear HP7 HG7 HR37
            generalize (w7.drew.setCells gx (s * 69 + 1) (wv (ew ee))).setCells gx ((s + h) * 69 + 1) (wv (ew ee)) = w8 at *
            have HI8 := hide (HI6.out.own (Z' := mx (Pr h j (s + 2 * h)) (FZ k h st Z0) Z0) (E' := mx (Pr h j (s + 2 * h)) (FE k h st o E0) E0) (HP8.out.congr (fun i hi => mx_step2 HFp.out HFq.out (fun i => pr_step i HH.out HM.out hlt) i) (fun i hi => mx_step2 (HEp.out.trans HEE.out.symm) (HEq.out.trans HEE.out.symm) (fun i => pr_step i HH.out HM.out hlt) i)) HG8.out (by omega) hne (by omega))
            have HXn := hide (show ∃ u v e : Nat, u < 18446744073709551616 ∧ v < 18446744073709551616 ∧ e < 340282366920938463463374607431768211456 ∧ RT w8 gu u ∧ RT w8 (gu + 1) v ∧ RT w8 (gu + 1 + 1) e ∧ (s + 2 * h ≠ j → e = jnd u v o (Fl.plainB z)) from ⟨E0 s, E0 (s + h), ee, hAb, hBb, by rw [HEE.out]; exact jnd_lt hAb hBb hob, HR1.out.grown HG8.out (by simp; omega) (by omega), HR2.out.grown HG8.out (by simp; omega) (by omega), HR3.out.grown HG8.out (by simp; omega) (by omega), fun _ => HEE.out⟩)
            have hsz8 : gu + 1 + 1 < w8.heap.size := Nat.lt_of_lt_of_le hsz6 HG8.out.size
            have HMn := hide (show (s + 2 * h) % (2 * h) = j by rw [Nat.add_mod_right]; exact HM.out)
            clear HP8 HG8 HI6 HR1 HR2 HR3 HEE HFp HFq HEp HEq HX1 HX2 HM
            go_wp2_with fail
            go_roundw
            case rel => exact ⟨s + 2 * h, by first | rfl | go_num, by omega, HMn, HI8, HXn, hsz8⟩
            case measure => simp [intOf]; omega
          · have HBl := hide (show Below wr.heap.size wr ((wr.drewN nq).drewN nq2) from Below.drewN (Below.drewN (Below.refl _ _) nq) nq2)
            have HI5 := hide (HI.out.low HBl.out (by omega) (by omega) (by omega) (by omega))
            have HR15 := hide (HRu.out.below HBl.out (by omega))
            have HR25 := hide (HRv.out.below HBl.out (by omega))
            have HR35 := hide (HRe.out.below HBl.out (by omega))
            have HA5 := hide (range_below HA.out HBl.out (by omega))
            have HB5 := hide (range_below HB.out HBl.out (by omega))
            have hsz5 : gu + 1 + 1 < ((wr.drewN nq).drewN nq2).heap.size := hsz
            clear hbb HUE HRu HRv HRe HI HA HB HBl
            go_wp2_with fail
            generalize (wr.drewN nq).drewN nq2 = w5 at *
            refine st_r14 w5 gx gu (gu + 1) (s * 69) ((s + h) * 69) (wv (ew (E0 s))) (wv (ew (E0 (s + h)))) HA5.out HB5.out HR15.out.t HR25.out.t (by omega) (by omega) (wv_ew_len _) (wv_ew_len _) (wv_one _) (wv_one _) _ _ _ _ _ _ _ _ _ _ _ _ _ _ _ _ _ _ _ _ _ _ _ _ _ _ _ _ _ _ _ _ _ _ _ _ _ _ _ _ _ _ _ _ _ _ _ _ _ _ _ _ _ _ _ _ _ _ _ _ _ _ _ _ _ _ _ _ _ _ _ _ _ _ _ _ _ _ _ _ _ _ _ _ _ _ _ _ _ _ _ _ _ _ _ _ _ _ _ _ _ _ _ _ _ _ _ _ _ _ _ _ _ _ _ _ _ _ _ _ _ _ _ _ _ _ _ _ _ _ _ _ _ _ _ _ _ _ _ _ _ ?_
            intro v102 v103 v104 v105 v106 v107 v108 v109
            have HBl := hide (show Below gu w5 ((w5.drew.setCells gu 0 (wv (ew (E0 s)))).setCells (gu + 1) 0 (wv (ew (E0 (s + h))))) from below_cells (below_cells (Below.refl _ _).drew 0 _ (Nat.le_refl _)) 0 _ (by omega))
            have HIa := hide (HI5.out.low HBl.out (by omega) (by omega) (by omega) (by omega))
            have HRa1 := hide (show RT ((w5.drew.setCells gu 0 (wv (ew (E0 s)))).setCells (gu + 1) 0 (wv (ew (E0 (s + h))))) gu (E0 s) from (RT.put ((World.there_drew _ _ _ _).2 HR15.out.t)).other (by omega))
            have HRa2 := hide (show RT ((w5.drew.setCells gu 0 (wv (ew (E0 s)))).setCells (gu + 1) 0 (wv (ew (E0 (s + h))))) (gu + 1) (E0 (s + h)) from RT.put (World.there_setCells ((World.there_drew _ _ _ _).2 HR25.out.t) _ _ _))
            have HTa := hide (show ((w5.drew.setCells gu 0 (wv (ew (E0 s)))).setCells (gu + 1) 0 (wv (ew (E0 (s + h))))).there (gu + 1 + 1) 0 68 from World.there_setCells (World.there_setCells ((World.there_drew _ _ _ _).2 HR35.out.t) _ _ _) _ _ _)
            have hsza : gu + 1 + 1 < ((w5.drew.setCells gu 0 (wv (ew (E0 s)))).setCells (gu + 1) 0 (wv (ew (E0 (s + h))))).heap.size := Nat.lt_of_lt_of_le hsz5 HBl.out.size
            clear HI5 HR15 HR25 HR35 HA5 HB5 HBl hsz5
            generalize (w5.drew.setCells gu 0 (wv (ew (E0 s)))).setCells (gu + 1) 0 (wv (ew (E0 (s + h)))) = wa at *
            go_wp2_with fail
            refine st_r15 wa gu (gu + 1) (gu + 1 + 1) go (E0 s) (E0 (s + h)) o (ew (E0 s)) (ew (E0 (s + h))) ow z (HSm.out.1.fin (by omega)) (HSm.out.2.fin (by omega)) HRa1.out.r HRa2.out.r HIa.out.ow HTa.out (by omega) (by omega) (by omega) hsza (ew_acc _ (by omega)) (ew_acc _ (by omega)) HZo.out (by omega) (ew_len _) (ew_len _) _ _ _ _ _ _ _ _ _ _ _ _ _ _ _ _ _ _ _ _ _ _ _ _ _ _ _ _ _ _ _ _ _ _ _ _ _ _ _ _ _ _ _ _ _ _ _ _ _ _ _ _ _ _ _ _ _ _ _ _ _ _ _ _ _ _ _ _ _ _ _ _ _ _ _ _ _ _ _ _ _ _ _ _ _ _ _ _ _ _ _ _ _ _ _ _ _ _ _ _ _ _ _ _ _ _ _ _ _ _ _ _ _ _ _ _ _ _ _ _ _ _ _ _ _ _ _ _ _ _ _ _ _ _ _ _ _ _ _ _ ?_
            intro v110 v111 v112 v113 v114 wb c hbb2 htb hzc
            obtain ⟨ee, HEE⟩ : ∃ ee, Hid (ee = jnd (E0 s) (E0 (s + h)) o (Fl.plainB z)) := ⟨_, rfl⟩
            have hce : c = ew ee := by rw [HEE.out]; exact ew_of hzc (jnd_lt hAb hBb hob)
            subst hce
            have HBl := hide (show Below (gu + 1 + 1) wa (wb.setCells (gu + 1 + 1) 0 (wv (ew ee))) from below_cells hbb2 0 _ (Nat.le_refl _))
            have HI6 := hide (HIa.out.low HBl.out (by omega) (by omega) (by omega) (by omega))
            have HR1 := hide (HRa1.out.below HBl.out (by omega))
            have HR2 := hide (HRa2.out.below HBl.out (by omega))
            have HR3 := hide (show RT (wb.setCells (gu + 1 + 1) 0 (wv (ew ee))) (gu + 1 + 1) ee from RT.put htb)
            have hsz6 : gu + 1 + 1 < (wb.setCells (gu + 1 + 1) 0 (wv (ew ee))).heap.size := Nat.lt_of_lt_of_le hsza HBl.out.size
            clear HIa HRa1 HRa2 HTa hbb2 htb hzc
            go_wp2_with fail
            generalize wb.setCells (gu + 1 + 1) 0 (wv (ew ee)) = w6 at *
            clear HBl
            have hc1 : w6.cell? ⟨gx, s * 69, none⟩ = some (.complex .f64 (Z0 s).1 (Z0 s).2) := by have := HI6.out.pt.z s hls; rwa [mx_no hnot.1] at this
            have hc2 : w6.cell? ⟨gx, (s + h) * 69, none⟩ = some (.complex .f64 (Z0 (s + h)).1 (Z0 (s + h)).2) := by have := HI6.out.pt.z (s + h) hsh; rwa [mx_no hnot.2] at this
            have hf1 := HI6.out.pt.f (s * 69)
            have hf2 := HI6.out.pt.f ((s + h) * 69)
            have hz1 := HZ.out s hls
            have hz2 := HZ.out (s + h) hsh
            have HMul := hide (fun wx => Mul_any (Z0 (s + h)) z hz2.1 hz2.2 HSm.out.1 HSm.out.2 wx)
            have hbf := cmul_fin hz2.1 hz2.2 HSm.out.1 HSm.out.2
            have hadd := fun wx => run_complex_sum (P := Talg.prog) wx .add (.inl rfl) 28 .f64 (Z0 s).1 (Z0 s).2 (Fl.cmul (Z0 (s + h)) z).1 (Fl.cmul (Z0 (s + h)) z).2 _ _ (csum_add (hz1.1.fin (by omega)) (hz1.2.fin (by omega)) hbf.1 hbf.2)
            have hsub := fun wx => run_complex_sum (P := Talg.prog) wx .sub (.inr rfl) 28 .f64 (Z0 s).1 (Z0 s).2 (Fl.cmul (Z0 (s + h)) z).1 (Fl.cmul (Z0 (s + h)) z).2 _ _ (csum_sub (hz1.1.fin (by omega)) (hz1.2.fin (by omega)) hbf.1 hbf.2)
            have HFp := hide (show FZ k h st Z0 s = cadd (Z0 s) (Fl.cmul (Z0 (s + h)) z) by rw [FZ_p HH.out (by rw [HM.out]; exact hlt), HM.out, ← HQ0.out, HZz.out])
            have HFq := hide (show FZ k h st Z0 (s + h) = csub (Z0 s) (Fl.cmul (Z0 (s + h)) z) by rw [FZ_q HH.out (by rw [HM.out]; exact hlt), HM.out, ← HQ0.out, HZz.out])
            have HEp := hide (show FE k h st o E0 s = jnd (E0 s) (E0 (s + h)) o (Fl.plainB z) by rw [FE_p HH.out (by rw [HM.out]; exact hlt), HM.out, ← HQ0.out, HZz.out])
            have HEq := hide (show FE k h st o E0 (s + h) = jnd (E0 s) (E0 (s + h)) o (Fl.plainB z) by rw [FE_q HH.out (by rw [HM.out]; exact hlt), HM.out, ← HQ0.out, HZz.out])
            clear hz1 hz2 hbf hnot
            generalize hzs : Z0 s = zs at *
            generalize hzq : Z0 (s + h) = zq at *
            have HX1 := hide (And.intro hzs hzq)
            clear hzs hzq
            generalize hmm : Fl.cmul zq z = mm at *
            have HX2 := hide hmm
            clear hmm
            go_quiet ((go_at_call 44; exact Calls.quiet_of_same (Hid.out HMul _)))
            go_wp2_with fail
            have HP7 := hide (show PtAt (((w6.drewN nq).setCell ⟨gx, s * 69, none⟩ (.complex .f64 (Fl.fa zs.1 mm.1) (Fl.fa zs.2 mm.2))).setCell ⟨gx, (s + h) * 69, none⟩ (.complex .f64 (Fl.fs zs.1 mm.1) (Fl.fs zs.2 mm.2))) gx n (fun i => if i = s + h then csub zs mm else if i = s then cadd zs mm else mx (Pr h j s) (FZ k h st Z0) Z0 i) (mx (Pr h j s) (FE k h st o E0) E0) from ((HI6.out.pt.drewN nq).setZ hls (cadd zs mm)).setZ hsh (csub zs mm))
            have HG7 := hide (gb_trans (gb_drewN w6 nq (some gx)) (gb_trans (gb_setCell (w6.drewN nq) gx (s * 69) (.complex .f64 (Fl.fa zs.1 mm.1) (Fl.fa zs.2 mm.2))) (gb_setCell ((w6.drewN nq).setCell ⟨gx, s * 69, none⟩ (.complex .f64 (Fl.fa zs.1 mm.1) (Fl.fa zs.2 mm.2))) gx ((s + h) * 69) (.complex .f64 (Fl.fs zs.1 mm.1) (Fl.fs zs.2 mm.2)))))
            have hg6 : gx < w6.heap.size := by omega
            clear hc1 hc2 hf1 hf2 hadd hsub HMul
            generalize ((w6.drewN nq).setCell ⟨gx, s * 69, none⟩ (.complex .f64 (Fl.fa zs.1 mm.1) (Fl.fa zs.2 mm.2))).setCell ⟨gx, (s + h) * 69, none⟩ (.complex .f64 (Fl.fs zs.1 mm.1) (Fl.fs zs.2 mm.2)) = w7 at *
            have HR37 := hide (HR3.out.grown HG7.out (by simp; omega) hsz6)
            refine st_r18 w7 gx (gu + 1 + 1) (s * 69) ((s + h) * 69) (wv (ew ee)) HR37.out.r (HP7.out.there hls) (HP7.out.there hsh) (by omega) (wv_ew_len _) (wv_one _) _ _ _ _ _ _ _ _ _ _ _ _ _ _ _ _ _ _ _ _ _ _ _ _ _ _ _ _ _ _ _ _ _ _ _ _ _ _ _ _ _ _ _ _ _ _ _ _ _ _ _ _ _ _ _ _ _ _ _ _ _ _ _ _ _ _ _ _ _ _ _ _ _ _ _ _ _ _ _ _ _ _ _ _ _ _ _ _ _ _ _ _ _ _ _ _ _ _ _ _ _ _ _ _ _ _ _ _ _ _ _ _ _ _ _ _ _ _ _ _ _ _ _ _ _ _ _ _ _ _ _ _ _ _ _ _ _ _ _ _ _ _ ?_
            intro v137 v138 v139 v140 v141 v142 v143 v144
            have HP8 := hide ((HP7.out.drew.setE hls ee).setE hsh ee)
            have HG8 := hide (gb_trans HG7.out (gb_trans (gb_drew w7 (some gx)) (gb_trans (gb_setCells w7.drew gx (s * 69 + 1) (wv (ew ee))) (gb_setCells _ gx ((s + h) * 69 + 1) (wv (ew ee))))))
            clear HP7 HG7 HR37
            generalize (w7.drew.setCells gx (s * 69 + 1) (wv (ew ee))).setCells gx ((s + h) * 69 + 1) (wv (ew ee)) = w8 at *
            have HI8 := hide (HI6.out.own (Z' := mx (Pr h j (s + 2 * h)) (FZ k h st Z0) Z0) (E' := mx (Pr h j (s + 2 * h)) (FE k h st o E0) E0) (HP8.out.congr (fun i hi => mx_step2 HFp.out HFq.out (fun i => pr_step i HH.out HM.out hlt) i) (fun i hi => mx_step2 (HEp.out.trans HEE.out.symm) (HEq.out.trans HEE.out.symm) (fun i => pr_step i HH.out HM.out hlt) i)) HG8.out (by omega) hne (by omega))
            have HXn := hide (show ∃ u v e : Nat, u < 18446744073709551616 ∧ v < 18446744073709551616 ∧ e < 340282366920938463463374607431768211456 ∧ RT w8 gu u ∧ RT w8 (gu + 1) v ∧ RT w8 (gu + 1 + 1) e ∧ (s + 2 * h ≠ j → e = jnd u v o (Fl.plainB z)) from ⟨E0 s, E0 (s + h), ee, hAb, hBb, by rw [HEE.out]; exact jnd_lt hAb hBb hob, HR1.out.grown HG8.out (by simp; omega) (by omega), HR2.out.grown HG8.out (by simp; omega) (by omega), HR3.out.grown HG8.out (by simp; omega) (by omega), fun _ => HEE.out⟩)
            have hsz8 : gu + 1 + 1 < w8.heap.size := Nat.lt_of_lt_of_le hsz6 HG8.out.size
            have HMn := hide (show (s + 2 * h) % (2 * h) = j by rw [Nat.add_mod_right]; exact HM.out)
            clear HP8 HG8 HI6 HR1 HR2 HR3 HEE HFp HFq HEp HEq HX1 HX2 HM
            go_wp2_with fail
            go_roundw
            case rel => exact ⟨s + 2 * h, by first | rfl | go_num, by omega, HMn, HI8, HXn, hsz8⟩
            case measure => simp [intOf]; omega
        · have HIn := hide (HI.out.congr (Z' := mx (Pr h (j + 1) (j + 1)) (FZ k h st Z0) Z0) (E' := mx (Pr h (j + 1) (j + 1)) (FE k h st o E0) E0) (fun i hi => mx_same (pr_end i HH.out HM.out hlt HN0.out (by omega) hi)) (fun i hi => mx_same (pr_end i HH.out HM.out hlt HN0.out (by omega) hi)))
          clear HI HX HM
          go_wp2_with fail
          go_roundw
          case rel => exact ⟨j + 1, by omega, by go_num, HIn⟩
          case measure => simp [intOf]; omega
    · obtain rfl : j = h := by omega
      have HF := hide (HI.out.pt.congr (Z' := FZ k j st Z0) (E' := FE k j st o E0) (fun i hi => mx_yes (pr_full j i HH.out)) (fun i hi => mx_yes (pr_full j i HH.out)))
      have HGb := hide HI.out.gb
      clear HI
      go_wp2_with fail
      go_end0
      exact ⟨rfl, by rw [HOo.out]; exact HF.out, HGb.out⟩
end Go.Proofs.Ygctal
