import Derived.Test.YgctalSp
namespace Go.Proofs.Ygctal
open Go.RowKit
set_option maxHeartbeats 4000000
set_option linter.unusedVariables false
set_option linter.unusedSimpArgs false
attribute [local go_sem] run_store_complex

/-! fft.Stage. -/
structure CRow (w : World) (g n : Nat) (Z : Nat → Nat × Nat) : Prop where
  z : ∀ i, i < n → w.cell? ⟨g, i, none⟩ = some (cplx (Z i))
  f : ∀ o, w.frozen? ⟨g, o, none⟩ = false
section
variable {w w' : World} {g n : Nat} {Z Z' : Nat → Nat × Nat}
theorem CRow.congr (h : CRow w g n Z) (hz : ∀ i, i < n → Z i = Z' i) : CRow w g n Z' := ⟨fun i hi => by rw [← hz i hi]; exact h.z i hi, h.f⟩
theorem CRow.same (h : CRow w g n Z) (hb : w'.heap[g]? = w.heap[g]?) : CRow w' g n Z :=
  ⟨fun i hi => by rw [World.cell?_of_block (w := w) hb]; exact h.z i hi, fun o => by rw [World.frozen?_of_block (w := w) hb]; exact h.f o⟩
theorem CRow.set (h : CRow w g n Z) {p : Nat} (hp : p < n) (z : Nat × Nat) : CRow (w.setCell ⟨g, p, none⟩ (cplx z)) g n (fun i => if i = p then z else Z i) := by
  refine ⟨fun i hi => ?_, fun o => ?_⟩
  · by_cases e : i = p
    · subst e; rw [if_pos rfl]; exact World.cell?_setCell_same _ _ _ (h.z i hi)
    · rw [if_neg e, World.cell?_setCell_other _ _ _ _ (by intro hh; simp only [Addr.mk.injEq] at hh; omega)]; exact h.z i hi
  · rw [World.frozen?_setCell]; exact h.f o
theorem CRow.drewN (h : CRow w g n Z) (m : Nat) : CRow (w.drewN m) g n Z := h.same rfl
end
theorem mult_le {h s n : Nat} (H : Hf h) (hs : s % (2 * h) = 0) (hn : n % (2 * h) = 0) (hsn : s < n) : s + 2 * h ≤ n := by
  rcases H with rfl | rfl | rfl | rfl | rfl | rfl | rfl | rfl | rfl | rfl | rfl <;> omega
theorem add_mod_lt {h s j : Nat} (H : Hf h) (hs : s % (2 * h) = 0) (hj : j < h) : (s + j) % (2 * h) = j := by
  rcases H with rfl | rfl | rfl | rfl | rfl | rfl | rfl | rfl | rfl | rfl | rfl <;> omega
structure FtI (w wr : World) (gz gt n k m : Nat) (Z : Nat → Nat × Nat) : Prop where
  cr : CRow wr gz n Z
  gb : w.grownBy wr (some gz)
  tab : ∃ cs, Blk wr gt 28 cs ∧ cs.length = m ∧ TabTo k m cs
theorem FtI.congr {w wr : World} {gz gt n k m : Nat} {Z Z' : Nat → Nat × Nat} (h : FtI w wr gz gt n k m Z) (hz : ∀ i, i < n → Z i = Z' i) : FtI w wr gz gt n k m Z' := ⟨h.cr.congr hz, h.gb, h.tab⟩
theorem FtI.own {w wr wr' : World} {gz gt n k m : Nat} {Z Z' : Nat → Nat × Nat} (h : FtI w wr gz gt n k m Z) (hp : CRow wr' gz n Z') (hg : wr.grownBy wr' (some gz)) (h2 : gz ≠ gt) (hgt : gt < wr.heap.size) : FtI w wr' gz gt n k m Z' :=
  ⟨hp, gb_trans h.gb hg, tab_same h.tab (hg.block gt hgt (fun e => h2 (Option.some.inj e).symm))⟩
set_option maxRecDepth 1000000 in
theorem stage_f (k t gz gt : Nat) (Z0 : Nat → Nat × Nat) (w : World) (h1 : 1 ≤ k) (h11 : k ≤ 11) (ht1 : 1 ≤ t) (htk : t ≤ k)
    (hP : CRow w gz (p2 k) Z0) (hT : TabRow w gt k) (hgz : gz < w.heap.size) (hgt : gt < w.heap.size) (hne : gz ≠ gt)
    (hZ : ∀ i, i < p2 k → Fl.Sm 1036 (Z0 i).1 ∧ Fl.Sm 1036 (Z0 i).2) :
    Calls Talg.prog 15 #[.slice (some ⟨gz, 0, none⟩) (p2 k) (p2 k), .slice (some ⟨gt, 0, none⟩) (p2 (k - 1)) (p2 (k - 1)), .int .u8 (t : Int)] w fun e w' =>
      e = .returned (.tuple #[]) ∧ CRow w' gz (p2 k) (FZ k (p2 (t - 1)) (p2 (k - t)) Z0) ∧ w.grownBy w' (some gz) := by
  obtain ⟨r, HR⟩ : ∃ r, Hid (t = r + 1) := ⟨t - 1, by show t = _; omega⟩
  obtain ⟨d, HD⟩ : ∃ d, Hid (k = t + d) := ⟨k - t, by show k = _; omega⟩
  have er : t - 1 = r := by have := HR.out; omega
  have ed : k - t = d := by have := HD.out; omega
  rw [er, ed]
  have HP := hide hP
  have HT := hide hT
  have HZ := hide hZ
  have HH := hide (hf_p2 r (by omega))
  have hn := p2_le (show k ≤ 11 by omega)
  rw [p2_11] at hn
  have HK := hide (show p2 k = 2 * p2 (k - 1) by rw [← p2_succ]; congr 1; omega)
  have HS := hide (show p2 (k - 1) = p2 r * p2 d by rw [← p2_add]; congr 1; omega)
  have hh0 := p2_pos r
  have hs0 := p2_pos d
  have HL := hide (fun wx => level_f k h11 wx)
  have HFt := hide (fun wx => fits_any k (p2 (k - 1)) h1 h11 HK.out wx)
  have HRt := hide (fun i (hi : i < p2 (k - 1)) => Fl.rt_ok k i h1 h11 hi)
  have hd2 : decide ((t : Int) < 1) = false := by simp; omega
  have hd3 : decide ((k : Int) < t) = false := by simp; omega
  have hd4 : decide (k < t) = false := by simp; omega
  have e1 : IntKind.u8.wrap ((t : Int) - 1) = (r : Int) := by rw [IntKind.wrap_u8]; omega
  have e2 : (k : Int) - t = (d : Int) := by omega
  have s1 := shl_p2 r (by omega)
  have s2 := shl_p2 d (by omega)
  have hmn : p2 (k - 1) ≤ 1024 := by have := HK.out; omega
  have hr62 : min r 64 = r := by have := HR.out; omega
  have HTab := hide (show ∃ cs, Blk w gt 28 cs ∧ cs.length = p2 (k - 1) ∧ TabTo k (p2 (k - 1)) cs from HT.out)
  clear hP hT hZ er ed HT
  generalize p2 (k - 1) = m at *
  generalize p2 k = n at *
  generalize p2 r = h at *
  generalize p2 d = st at *
  go_enter Talg.func15, Talg.ntmps15
  go_wp2_with fail
  refine (HL.out _).mono ?_
  rintro e wx ⟨rfl, hwx⟩
  subst wx
  go_wp2_with fail
  refine (HFt.out _).mono ?_
  rintro e wx ⟨rfl, hwx⟩
  subst wx
  go_wp2_with fail
  go_quiet (fail)
  go_wp2_with fail
  rw [s1, s2]
  have hnm : n = 2 * m := HK.out
  have HS2 := hide (show n = 2 * h * st by rw [HK.out, HS.out, Nat.mul_assoc])
  have hhn : h ≤ m := by rw [HS.out]; exact Nat.le_mul_of_pos_right h hs0
  have HN0 := hide (show n % (2 * h) = 0 by rw [HS2.out]; exact Nat.mul_mod_right _ _)
  have HI0 := hide (show FtI w (w.drewN nq) gz gt n k m (mx (Pf h 0 0) (FZ k h st Z0) Z0) from ⟨(HP.out.drewN nq).congr (fun i _ => (mx_no (by simp only [pf_iff]; omega)).symm), gb_drewN w nq (some gz), HTab.out⟩)
  have HM0 := hide (show 0 % (2 * h) = 0 from Nat.zero_mod _)
  clear s1 s2 hr62 e1 e2 hd2 hd3 hd4 HL HFt HP HTab
  generalize w.drewN nq = w1 at *
  go_loopw [9] (fun i wr => ∃ s : Nat, i = .int .i64 s ∧ s ≤ n ∧ Hid (s % (2 * h) = 0) ∧ Hid (FtI w wr gz gt n k m (mx (Pf h s 0) (FZ k h st Z0) Z0))) (fun i _ => n - (intOf i).toNat)
  case atStart => exact ⟨0, rfl, by omega, HM0, HI0⟩
  case round =>
    clear HI0 HM0
    obtain ⟨s, rfl, hsn, HM, HI⟩ := hrel
    by_cases hls : s < n
    · have hs2 : s + 2 * h ≤ n := mult_le HH.out HM.out HN0.out hls
      go_wp2_with fail
      go_loopw [10] (fun i wx => ∃ j : Nat, i = .int .i64 j ∧ j ≤ h ∧ Hid (FtI w wx gz gt n k m (mx (Pf h s j) (FZ k h st Z0) Z0))) (fun i _ => h - (intOf i).toNat)
      case atStart => exact ⟨0, rfl, by omega, HI⟩
      case round =>
        clear HI
        obtain ⟨j, rfl, hj, HI⟩ := hrel
        by_cases hlt : j < h
        · have hp : s + j < n := by omega
          have hq : s + j + h < n := by omega
          have HQl : j * st < m := by rw [HS.out]; exact Nat.mul_lt_mul_of_pos_right hlt hs0
          obtain ⟨q0, HQ0⟩ : ∃ q0, Hid (q0 = j * st) := ⟨_, rfl⟩
          have hq0 : (j : Int) * (st : Int) = (q0 : Int) := by rw [HQ0.out, Int.natCast_mul]
          have hq1 : q0 < m := by rw [HQ0.out]; exact HQl
          have hcz : wr.cell? ⟨gt, q0, none⟩ = some (.complex .f64 (Fl.rt k q0).1 (Fl.rt k q0).2) := by
            obtain ⟨cs, c1, c2, c3⟩ := HI.out.tab
            rw [c1.cell]; exact c3 q0 hq1
          have hok := HRt.out q0 hq1
          have hnot := pf_not HH.out HM.out hlt
          have hc1 : wr.cell? ⟨gz, s + j, none⟩ = some (.complex .f64 (Z0 (s + j)).1 (Z0 (s + j)).2) := by have := HI.out.cr.z (s + j) hp; rwa [mx_no hnot.1] at this
          have hc2 : wr.cell? ⟨gz, s + j + h, none⟩ = some (.complex .f64 (Z0 (s + j + h)).1 (Z0 (s + j + h)).2) := by have := HI.out.cr.z (s + j + h) hq; rwa [mx_no hnot.2] at this
          have hf1 := HI.out.cr.f (s + j)
          have hf2 := HI.out.cr.f (s + j + h)
          have hz1 := HZ.out (s + j) hp
          have hz2 := HZ.out (s + j + h) hq
          have hmod := add_mod_lt HH.out HM.out hlt
          have HFp := hide (show FZ k h st Z0 (s + j) = cadd (Z0 (s + j)) (Fl.cmul (Z0 (s + j + h)) (Fl.rt k q0)) by rw [FZ_p HH.out (by rw [hmod]; exact hlt), hmod, ← HQ0.out])
          have HFq := hide (show FZ k h st Z0 (s + j + h) = csub (Z0 (s + j)) (Fl.cmul (Z0 (s + j + h)) (Fl.rt k q0)) by rw [FZ_q HH.out (by rw [hmod]; exact hlt), hmod, ← HQ0.out])
          have HMul := hide (fun wx => Mul_any (Z0 (s + j + h)) (Fl.rt k q0) hz2.1 hz2.2 hok.1 hok.2.1 wx)
          have hbf := cmul_fin hz2.1 hz2.2 hok.1 hok.2.1
          have hadd := fun wx => run_complex_sum (P := Talg.prog) wx .add (.inl rfl) 28 .f64 (Z0 (s + j)).1 (Z0 (s + j)).2 (Fl.cmul (Z0 (s + j + h)) (Fl.rt k q0)).1 (Fl.cmul (Z0 (s + j + h)) (Fl.rt k q0)).2 _ _ (csum_add (hz1.1.fin (by omega)) (hz1.2.fin (by omega)) hbf.1 hbf.2)
          have hsub := fun wx => run_complex_sum (P := Talg.prog) wx .sub (.inr rfl) 28 .f64 (Z0 (s + j)).1 (Z0 (s + j)).2 (Fl.cmul (Z0 (s + j + h)) (Fl.rt k q0)).1 (Fl.cmul (Z0 (s + j + h)) (Fl.rt k q0)).2 _ _ (csum_sub (hz1.1.fin (by omega)) (hz1.2.fin (by omega)) hbf.1 hbf.2)
          have hgt2 : gt < wr.heap.size := Nat.lt_of_lt_of_le hgt HI.out.gb.size
          clear hz1 hz2 hbf hnot hok HQl hmod
          generalize Fl.rt k q0 = z at *
          generalize Z0 (s + j) = zs at *
          generalize Z0 (s + j + h) = zq at *
          generalize Fl.cmul zq z = mm at *
          go_wp2_with fail
          go_quiet ((go_at_call 44; exact Calls.quiet_of_same (Hid.out HMul _)))
          go_wp2_with fail
          have HCn := hide (show CRow (((wr.drewN nq).setCell ⟨gz, s + j, none⟩ (.complex .f64 (Fl.fa zs.1 mm.1) (Fl.fa zs.2 mm.2))).setCell ⟨gz, s + j + h, none⟩ (.complex .f64 (Fl.fs zs.1 mm.1) (Fl.fs zs.2 mm.2))) gz n (fun i => if i = s + j + h then csub zs mm else if i = s + j then cadd zs mm else mx (Pf h s j) (FZ k h st Z0) Z0 i) from ((HI.out.cr.drewN nq).set hp (cadd zs mm)).set hq (csub zs mm))
          have HGn := hide (gb_trans (gb_drewN wr nq (some gz)) (gb_trans (gb_setCell (wr.drewN nq) gz (s + j) (.complex .f64 (Fl.fa zs.1 mm.1) (Fl.fa zs.2 mm.2))) (gb_setCell ((wr.drewN nq).setCell ⟨gz, s + j, none⟩ (.complex .f64 (Fl.fa zs.1 mm.1) (Fl.fa zs.2 mm.2))) gz (s + j + h) (.complex .f64 (Fl.fs zs.1 mm.1) (Fl.fs zs.2 mm.2)))))
          go_roundw
          case rel => exact ⟨j + 1, by go_num, by omega, HI.out.own (HCn.out.congr (fun i hi => mx_step2 HFp.out HFq.out (fun i => pf_step i HH.out HM.out hlt) i)) HGn.out hne hgt2⟩
          case measure => simp [intOf]; omega
        · obtain rfl : j = h := by omega
          have HIn := hide (HI.out.congr (Z' := mx (Pf j (s + 2 * j) 0) (FZ k j st Z0) Z0) (fun i hi => mx_same (pf_next i HH.out HM.out)))
          have HMn := hide (show (s + 2 * j) % (2 * j) = 0 by rw [Nat.add_mod_right]; exact HM.out)
          clear HI HM
          go_wp2_with fail
          go_roundw
          case rel => exact ⟨s + 2 * j, by first | rfl | go_num, by omega, HMn, HIn⟩
          case measure => simp [intOf]; omega
    · have HF := hide (HI.out.cr.congr (Z' := FZ k h st Z0) (fun i hi => mx_yes (pf_end i HH.out HM.out HN0.out (by omega) hi)))
      have HGb := hide HI.out.gb
      clear HI HM
      go_wp2_with fail
      go_end0
      exact ⟨rfl, HF.out, HGb.out⟩
end Go.Proofs.Ygctal
