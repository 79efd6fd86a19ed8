import Derived.Test.YgctalSu
namespace Go.Proofs.Ygctal
open Go.RowKit
set_option maxHeartbeats 4000000
set_option linter.unusedVariables false
set_option linter.unusedSimpArgs false
attribute [local go_sem] run_store_complex

/-! ShadowBounds. -/
theorem Talg.infoP : (Talg.prog.info? 33).map (fun i => (i.size, i.bytes)) = some (69, 560) := by kernel_rfl
theorem Talg.zeroP : ∃ i z, Talg.prog.info? 33 = some i ∧ i.zero = some z ∧ i.size = 69 ∧ i.bytes = 560 := by
  cases h : Talg.prog.info? 33 with
  | none => have := Talg.infoP; rw [h] at this; cases this
  | some i =>
    have h2 := Talg.infoP
    rw [h] at h2
    simp only [Option.map_some, Option.some.injEq, Prod.mk.injEq] at h2
    have h3 : ((Talg.prog.info? 33).bind (·.zero)).isSome = true := by kernel_rfl
    rw [h] at h3
    obtain ⟨z, hz⟩ := Option.isSome_iff_exists.1 h3
    exact ⟨i, z, rfl, hz, h2.1, h2.2⟩
theorem mk_pts (n : Nat) (hn : n ≤ 2048) : ∃ X : Array Value, X.size = n * 69 ∧ ∀ wx : World, (Instr.makeSlice 27 (.int .i64 (n : Int)) (.int .i64 (n : Int))).run Talg.prog wx = .ok (.slice (some ⟨wx.heap.size, 0, none⟩) n n) (wx.alloc (.cells X 33)) := by
  obtain ⟨iP, zP, hi1, hi2, hi3, hi4⟩ := Talg.zeroP
  refine ⟨madeCells zP.cells (n * 69), size_madeCells _ _, fun wx => ?_⟩
  have := run_make (P := Talg.prog) wx 27 33 iP zP Talg.underlying27 hi1 hi2 .i64 .i64 (n : Int) (n : Int) (by omega) (by omega) (by rw [hi4]; omega) (by omega)
  rw [hi3, Int.toNat_natCast] at this
  exact this
theorem mk_cs (n : Nat) (hn : n ≤ 2048) : ∃ C : Array Value, C.size = n ∧ ∀ wx : World, (Instr.makeSlice 25 (.int .i64 (n : Int)) (.int .i64 (n : Int))).run Talg.prog wx = .ok (.slice (some ⟨wx.heap.size, 0, none⟩) n n) (wx.alloc (.cells C 28)) := by
  obtain ⟨iC, hj, hj0, hj1, hj2⟩ := info_parts Talg.infoC
  refine ⟨madeCells #[.complex .f64 0 0] n, size_madeCells _ _, fun wx => ?_⟩
  have := run_make (P := Talg.prog) wx 25 28 iC (.complex .f64 0 0) Talg.underlying25 hj hj0 .i64 .i64 (n : Int) (n : Int) (by omega) (by omega) (by rw [hj2]; omega) (by omega)
  rw [hj1, Int.toNat_natCast, Nat.mul_one] at this
  exact this
def Zf (E : Nat → Nat) (i : Nat) : Nat × Nat := (floatOfInt .f64 ((E i % 1024 : Nat) : Int), floatOfInt .f64 (i : Int))
theorem there_cell2 {w : World} {g o n g' o' : Nat} {v : Value} (h : w.there g o n) : (w.setCell ⟨g', o', none⟩ v).there g o n := by
  have := World.there_setCells h g' o' [v]
  exact this
theorem there_cell {w : World} {g o n g' o' : Nat} {v : Value} (h : w.there g o n) (_ : g ≠ g') : (w.setCell ⟨g', o', none⟩ v).there g o n := there_cell2 h
theorem mask32 (a : Nat) (ha : a < 18446744073709551616) : bits .and .u64 (a : Int) 4294967295 = ((a % 4294967296 : Nat) : Int) := by
  have := bits_and_u64_nat a 4294967295 ha (by omega)
  rw [show ((4294967295 : Nat) : Int) = 4294967295 from rfl] at this
  rw [this, show (4294967295 : Nat) = 2 ^ 32 - 1 from rfl, Nat.and_two_pow_sub_one_eq_mod]
theorem mask14 (a : Nat) (ha : a < 18446744073709551616) : bits .and .u64 (a : Int) 16383 = ((a % 16384 : Nat) : Int) := by
  have := bits_and_u64_nat a 16383 ha (by omega)
  rw [show ((16383 : Nat) : Int) = 16383 from rfl] at this
  rw [this, show (16383 : Nat) = 2 ^ 14 - 1 from rfl, Nat.and_two_pow_sub_one_eq_mod]
/-- Add of a new box. -/
theorem addBox_any (gw : Nat) (a c : List Nat) (z u : Int) (w : World) (hA : AccB w gw 31 a) (za : AccOf a z) (zc : AccOf c u) :
    Calls Talg.prog 16 #[.pointer (some ⟨gw, 0, none⟩), .pointer (some ⟨w.heap.size, 0, none⟩)] (w.alloc (.cells (accArr c) 31)) fun e w' => e = .returned (.tuple #[]) ∧ ∃ a', AccB w' gw 31 a' ∧ AccOf a' (z + u) ∧ Below gw w w' := by
  have hlt := Blk.lt hA
  refine (addAcc_any gw 31 w.heap.size 31 a c z u _ (hA.alloc _) (AccB.boxed w c 31) (by omega) za zc).mono ?_
  rintro e w' ⟨rfl, a', h1, h2, h3⟩
  exact ⟨rfl, a', h1, h2, ((Below.refl gw w).alloc (by omega) _).grown h3 (by simp; omega) (fun q hq => by simp at hq; omega)⟩
structure MI (w wr : World) (gx gz gt k n i : Nat) (Z : Nat → Nat × Nat) (E : Nat → Nat) : Prop where
  pt : PtAt wr gx i Z E
  tx : wr.there gx 0 (n * 69)
  cr : CRow wr gz i Z
  tz : wr.there gz 0 n
  bel : Below w.heap.size w wr
  tab : TabRow wr gt k
theorem blk_there {w : World} {g T : Nat} {cs : List Value} (h : Blk w g T cs) : w.there g 0 cs.length := by
  intro j hj
  rw [Nat.zero_add, h.cell, List.getElem?_eq_getElem hj]
  exact ⟨rfl, h.free j⟩
theorem mi_init {w w1 wr : World} {gx gz k n : Nat} {X C : Array Value} {Z : Nat → Nat × Nat} {E : Nat → Nat} (hb : Below w.heap.size w w1) (hT : TabRow w1 w.heap.size k) (hgt : w.heap.size < w1.heap.size) (hbel : Below w1.heap.size w1 wr)
    (hx : Blk wr gx 33 X.toList) (hX : X.size = n * 69) (hz : Blk wr gz 28 C.toList) (hC : C.size = n) : MI w wr gx gz w.heap.size k n 0 Z E := by
  refine ⟨⟨fun i hi => by omega, fun i hi => by omega, hx.free⟩, ?_, ⟨fun i hi => by omega, hz.free⟩, ?_, hb.trans (hbel.mono (by omega)), tab_same hT (hbel.block _ hgt)⟩
  · have := blk_there hx; rwa [Array.length_toList, hX] at this
  · have := blk_there hz; rwa [Array.length_toList, hC] at this
theorem there_sub {w : World} {g o n o' n' : Nat} (h : w.there g o n) (h1 : o ≤ o') (h2 : o' + n' ≤ o + n) : w.there g o' n' := by
  intro j hj
  have := h (o' + j - o) (by omega)
  rwa [show o + (o' + j - o) = o' + j from by omega] at this
/-- A point laid. -/
theorem PtAt.put {w : World} {g i : Nat} {Z : Nat → Nat × Nat} {E : Nat → Nat} (h : PtAt w g i Z E) (ht : w.there g (i * 69) 69) (hE : E i < 18446744073709551616) : PtAt (w.setCells g (i * 69) (cplx (Z i) :: wv (one68 (E i) 0))) g (i + 1) Z E := by
  have hl : (cplx (Z i) :: wv (one68 (E i) 0)).length = 69 := by simp [wv_len, one68_len]
  have hew : one68 (E i) 0 = ew (E i) := by unfold ew; rw [Nat.mod_eq_of_lt hE, Nat.div_eq_of_lt hE]
  have hs := World.rangeAt_setCells_same w g (i * 69) (cplx (Z i) :: wv (one68 (E i) 0)) (by rw [hl]; exact ht)
  refine ⟨fun j hj => ?_, fun j hj => ?_, fun o => ?_⟩
  · by_cases e : j = i
    · subst e; exact hs 0 _ rfl
    · rw [World.cell?_setCells_out g _ _ w _ (fun _ _ => by rw [hl]; show j * 69 < i * 69 ∨ i * 69 + 69 ≤ j * 69; omega)]
      exact h.z j (by omega)
  · by_cases e : j = i
    · subst e
      intro q v hv
      have := hs (q + 1) v (by rw [← hew] at hv; exact hv)
      rwa [show j * 69 + (q + 1) = j * 69 + 1 + q from by omega] at this
    · exact World.rangeAt_setCells_apart (h.e j (by omega)) _ _ _ (by rw [wv_ew_len, hl]; right; omega)
  · rw [World.frozen?_setCells]; exact h.f o
theorem CRow.put {w : World} {g i : Nat} {Z : Nat → Nat × Nat} (h : CRow w g i Z) (ht : (w.cell? ⟨g, i, none⟩).isSome = true) : CRow (w.setCell ⟨g, i, none⟩ (cplx (Z i))) g (i + 1) Z := by
  obtain ⟨u, hu⟩ := Option.isSome_iff_exists.1 ht
  refine ⟨fun j hj => ?_, fun o => ?_⟩
  · by_cases e : j = i
    · subst e; exact World.cell?_setCell_same _ _ _ hu
    · rw [World.cell?_setCell_other _ _ _ _ (by intro hh; simp only [Addr.mk.injEq] at hh; omega)]; exact h.z j (by omega)
  · rw [World.frozen?_setCell]; exact h.f o
theorem mask48 (a : Nat) (ha : a < 18446744073709551616) : bits .and .u64 (a : Int) 281474976710655 = ((a % 281474976710656 : Nat) : Int) := by
  have := bits_and_u64_nat a 281474976710655 ha (by omega)
  rw [show ((281474976710655 : Nat) : Int) = 281474976710655 from rfl] at this
  rw [this, show (281474976710655 : Nat) = 2 ^ 48 - 1 from rfl, Nat.and_two_pow_sub_one_eq_mod]
set_option maxRecDepth 1000000 in
theorem shadowBounds_some (b off len cap a1 a2 : Nat) (E0 : Nat → Nat) (w : World) (hl0 : 0 < len) (hlc : len ≤ cap) (hcm : cap ≤ maxLen) (ha1 : a1 < 18446744073709551616) (ha2 : a2 < 256) (hb : b < w.heap.size)
    (hc : ∀ i, i < len → w.cell? ⟨b, off + i, none⟩ = some (.int .u64 ((E0 i : Nat) : Int))) (hE : ∀ i, i < len → E0 i < 18446744073709551616) :
    Calls Talg.prog 3 #[.slice (some ⟨b, off, none⟩) len cap, .int .u64 (a1 : Int), .int .u8 (a2 : Int)] w fun e w' => e = .returned (.bool true) ∧ Below w.heap.size w w' := by
  have HC := hide hc
  have HE := hide hE
  clear hc hE
  go_enter Talg.func3, Talg.ntmps3
  go_wp2_with fail
  refine (cut_some len hl0 _).mono ?_
  rintro e wx ⟨⟨k, hk, hpk, rfl⟩, hwx⟩
  subst wx
  by_cases hk1 : k < 1
  · have hd : decide ((k : Int) < 1) = true := by simp; omega
    go_wp2
    go_ret
    exact ⟨rfl, Below.refl _ _⟩
  · have hd : decide ((k : Int) < 1) = false := by simp; omega
    obtain ⟨r, HR⟩ : ∃ r, Hid (r = a2 % k) := ⟨_, rfl⟩
    have hrk : r < k := by rw [HR.out]; exact Nat.mod_lt _ (by omega)
    obtain ⟨t, HT⟩ : ∃ t, Hid (t = r + 1) := ⟨_, rfl⟩
    obtain ⟨mo, HMo⟩ : ∃ mo, Hid (mo = a1 % 281474976710656) := ⟨_, rfl⟩
    have hmo : mo < 281474976710656 := by rw [HMo.out]; exact Nat.mod_lt _ (by decide)
    have e1 : IntKind.u8.wrap (k : Int) = (k : Int) := by rw [IntKind.wrap_u8]; omega
    have e2 : (a2 : Int) % (k : Int) = (r : Int) := by rw [HR.out]; rfl
    have e3 : IntKind.u8.wrap ((r : Int) + 1) = (t : Int) := by rw [IntKind.wrap_u8, HT.out]; omega
    have e4 : bits .and .u64 (a1 : Int) 281474976710655 = (mo : Int) := by rw [HMo.out]; exact mask48 a1 ha1
    have s1 := shl_p2 k (by omega)
    have HTb := hide (fun wx => table_any k (by omega) hk wx)
    have hn := p2_le hk
    rw [p2_11] at hn
    go_wp2_with fail
    obtain ⟨X, hX, hmk1⟩ := mk_pts (p2 k) hn
    obtain ⟨C, hC, hmk2⟩ := mk_cs (p2 k) hn
    refine (HTb.out _).mono ?_
    rintro e w1 ⟨rfl, hTab, hbel1⟩
    have HTab1 := hide hTab
    have HBel1 := hide hbel1
    have hgt1 : w.heap.size < w1.heap.size := by obtain ⟨cs, c1, _⟩ := hTab; exact c1.lt
    clear hTab hbel1 HTb e1 e2 e3 e4 hd
    go_wp2_with fail
    generalize hnk : p2 k = n at *
    have HNk := hide hnk
    clear hnk
    go_region
    · have HM0 := hide (show MI w (((w1.alloc (.cells X 33)).alloc (.cells C 28)).drew) w1.heap.size (w1.heap.size + 1) w.heap.size k n 0 (Zf E0) E0 from mi_init HBel1.out HTab1.out hgt1 (((Below.refl w1.heap.size w1).alloc (Nat.le_refl _) _).alloc (by simp) _).drew ((Blk.new w1 X 33).alloc _) hX (by have := Blk.new (w1.alloc (.cells X 33)) C 28; rw [show (w1.alloc (.cells X 33)).heap.size = w1.heap.size + 1 from by simp] at this; exact this) hC)
      have hsx : w1.heap.size < (((w1.alloc (.cells X 33)).alloc (.cells C 28)).drew).heap.size := by simp; omega
      have hsz : w1.heap.size + 1 < (((w1.alloc (.cells X 33)).alloc (.cells C 28)).drew).heap.size := by simp
      generalize ((w1.alloc (.cells X 33)).alloc (.cells C 28)).drew = w2 at *
      generalize hgz : w1.heap.size + 1 = gz at *
      generalize hgx : w1.heap.size = gx at *
      have hne : gx ≠ gz := by omega
      have hgwx : w.heap.size < gx := by omega
      have hgwz : w.heap.size < gz := by omega
      clear hgz hgx HBel1 HTab1 hX hC hmk1 hmk2 hgt1 s1 hcm
      go_wp2_with fail
      go_loopw [12] (fun iv wr => ∃ i : Nat, iv = .int .i64 i ∧ i ≤ n ∧ Hid (MI w wr gx gz w.heap.size k n i (Zf E0) E0) ∧ gx < wr.heap.size ∧ gz < wr.heap.size) (fun iv _ => n - (intOf iv).toNat)
      case atStart => exact ⟨0, rfl, by omega, HM0, hsx, hsz⟩
      case round =>
        clear HM0 hsx hsz
        obtain ⟨i, rfl, hin, HM, hsx, hsz⟩ := hrel
        by_cases hlt : i < n
        · have hil : i < len := by omega
          have hce := (HM.out.bel.cell (p := ⟨b, off + i, none⟩) hb).trans (HC.out i hil)
          have hEi := HE.out i hil
          obtain ⟨v0, hv0⟩ := Option.isSome_iff_exists.1 (show (wr.cell? ⟨gz, i, none⟩).isSome = true by have := (HM.out.tz i hlt).1; rwa [Nat.zero_add] at this)
          have hf0 := HM.out.cr.f i
          have hq : ((E0 i : Nat) : Int) % 1024 = ((E0 i % 1024 : Nat) : Int) := rfl
          have HZ1 := hide (show Zf E0 i = (floatOfInt .f64 ((E0 i % 1024 : Nat) : Int), floatOfInt .f64 (i : Int)) from rfl)
          generalize hqq : E0 i % 1024 = q at *
          clear hqq
          generalize hz1 : floatOfInt .f64 (q : Int) = zr at *
          generalize hz2 : floatOfInt .f64 (i : Int) = zm at *
          have HZi := hide (show wr.cell? ⟨gz, i, none⟩ = some v0 from hv0)
          go_wp2_with fail
          have HC12 := hide (show (wr.setCell ⟨gz, i, none⟩ (.complex .f64 zr zm)).cell? ⟨gz, i, none⟩ = some (.complex .f64 zr zm) from World.cell?_setCell_same _ _ _ HZi.out)
          have HE12 := hide (show (wr.setCell ⟨gz, i, none⟩ (.complex .f64 zr zm)).cell? ⟨b, off + i, none⟩ = some (.int .u64 ((E0 i : Nat) : Int)) from (World.cell?_setCell_other _ _ _ _ (by intro hh; simp only [Addr.mk.injEq] at hh; omega)).trans hce)
          have HT12 := hide (show (wr.setCell ⟨gz, i, none⟩ (.complex .f64 zr zm)).there gx (i * 69) 69 from there_sub (there_cell HM.out.tx hne) (by omega) (by omega))
          have HP12 := hide (show PtAt (wr.setCell ⟨gz, i, none⟩ (.complex .f64 zr zm)).drew gx i (Zf E0) E0 from (HM.out.pt.same (w' := wr.setCell ⟨gz, i, none⟩ (.complex .f64 zr zm)) (Below.heap_setCell _ _ _ _ hne)).drew)
          have HCR := hide (show CRow (wr.setCell ⟨gz, i, none⟩ (.complex .f64 zr zm)) gz (i + 1) (Zf E0) by have := HM.out.cr.put (by rw [HZi.out]; rfl); rw [HZ1.out] at this; exact this)
          have HTX := hide (there_cell HM.out.tx hne (v := .complex .f64 zr zm) (o' := i))
          have HTZ := hide (there_cell2 HM.out.tz (g' := gz) (v := .complex .f64 zr zm) (o' := i))
          have HBL := hide (HM.out.bel.setCell (p := ⟨gz, i, none⟩) (by show w.heap.size ≤ gz; omega) (.complex .f64 zr zm))
          have HTB := hide (show TabRow (wr.setCell ⟨gz, i, none⟩ (.complex .f64 zr zm)) w.heap.size k from tab_same HM.out.tab (Below.heap_setCell _ _ _ _ (by show w.heap.size ≠ gz; omega)))
          have hsx2 : gx < (wr.setCell ⟨gz, i, none⟩ (.complex .f64 zr zm)).heap.size := by simpa [World.setCell] using hsx
          have hsz2 : gz < (wr.setCell ⟨gz, i, none⟩ (.complex .f64 zr zm)).heap.size := by simpa [World.setCell] using hsz
          clear HM hce hv0 hf0 hq hz1 hz2 HZi
          generalize wr.setCell ⟨gz, i, none⟩ (.complex .f64 zr zm) = w3 at *
          refine sb_r12 w3 b off len cap gx gz n i (E0 i) (zr, zm) hlt hil HC12.out HE12.out HT12.out (Ne.symm hne) (by omega) _ _ _ _ _ _ _ _ _ _ _ _ _ _ _ _ _ _ _ _ _ _ _ _ _ _ _ _ _ _ _ _ _ _ _ _ _ _ _ _ _ _ _ _ _ _ _ _ _ _ _ _ _ _ _ _ _ _ _ _ _ _ _ _ _ _ _ _ _ _ _ _ _ _ _ _ _ _ _ _ _ _ _ _ _ _ _ _ _ _ _ _ _ _ _ _ _ _ _ _ _ _ _ _ _ _ _ _ _ _ _ _ _ _ _ _ _ _ _ _ _ _ _ _ _ _ _ _ _ _ _ _ _ _ _ _ _ _ _ _ _ _ _ _ _ _ _ _ _ _ _ _ _ _ _ _ _ _ _ _ _ _ _ _ _ _ _ _ _ _ _ _ _ _ _ _ _ _ _ _ _ ?_
          intro v60 v61 v62 v63 v64 v65 v66 v67 v68 v69 v70 v71 v72
          have HMn := hide (show MI w (w3.drew.setCells gx (i * 69) (cplx (zr, zm) :: wv (one68 (E0 i) 0))) gx gz w.heap.size k n (i + 1) (Zf E0) E0 from ⟨by have := HP12.out.put ((World.there_drew _ _ _ _).2 HT12.out) hEi; rw [HZ1.out] at this; exact this, World.there_setCells ((World.there_drew _ _ _ _).2 HTX.out) _ _ _, (HCR.out.same (w' := w3.drew) rfl).same (heap_setCells _ _ _ _ _ (Ne.symm hne)), World.there_setCells ((World.there_drew _ _ _ _).2 HTZ.out) _ _ _, below_cells HBL.out.drew _ _ (by omega), tab_same HTB.out (heap_setCells _ _ _ _ _ (by omega))⟩)
          have hsx3 : gx < (w3.drew.setCells gx (i * 69) (cplx (zr, zm) :: wv (one68 (E0 i) 0))).heap.size := by rw [size_setCells]; exact hsx2
          have hsz3 : gz < (w3.drew.setCells gx (i * 69) (cplx (zr, zm) :: wv (one68 (E0 i) 0))).heap.size := by rw [size_setCells]; exact hsz2
          clear HC12 HE12 HT12 HP12 HCR HTX HTZ HBL HTB hsx2 hsz2 HZ1
          generalize w3.drew.setCells gx (i * 69) (cplx (zr, zm) :: wv (one68 (E0 i) 0)) = w4 at *
          go_wp2_with fail
          go_roundw
          case rel => exact ⟨i + 1, by go_num, by omega, HMn, hsx3, hsz3⟩
          case measure => simp [intOf]; omega
        · have hdone : True := trivial
          clear hdone
          have hni : n = i := by omega
          subst hni
          have htr := HT.out
          have hSS := stage_s k t gx w.heap.size mo (Zf E0) E0 wr (by omega) hk (by omega) (by omega) hmo (by rw [HNk.out]; exact HM.out.pt) HM.out.tab hsx (by omega) (by omega) (fun i hi => ⟨flt_sm _ (by omega), flt_sm i (by rw [HNk.out] at hi; omega)⟩) (fun i hi => HE.out i (by rw [HNk.out] at hi; omega))
          rw [HNk.out, show t - 1 = r from by omega] at hSS
          have HSS := hide hSS
          have HCr := hide HM.out.cr
          have HTb := hide HM.out.tab
          have HBw := hide HM.out.bel
          clear hSS HM htr
          go_wp2_with fail
          refine (Hid.out HSS).mono ?_
          rintro e w4 ⟨rfl, hp4, hg4⟩
          have HP4 := hide hp4
          have HR4 := hide (HCr.out.same (hg4.block gz hsz (fun e => hne (Option.some.inj e).symm)))
          have HT4 := hide (show TabRow w4 w.heap.size k from tab_same HTb.out (hg4.block w.heap.size (by omega) (fun e => by have := Option.some.inj e; omega)))
          have HB4 := hide (HBw.out.grown hg4 HBw.out.size (fun q hq => by simp at hq; omega))
          have hs4x : gx < w4.heap.size := Nat.lt_of_lt_of_le hsx hg4.size
          have hs4z : gz < w4.heap.size := Nat.lt_of_lt_of_le hsz hg4.size
          clear hp4 hg4 HSS HCr HTb HBw hsx hsz
          have htr := HT.out
          have hFF := stage_f k t gz w.heap.size (Zf E0) w4 (by omega) hk (by omega) (by omega) (by rw [HNk.out]; exact HR4.out) HT4.out hs4z (by omega) (by omega) (fun i hi => ⟨flt_sm _ (by omega), flt_sm i (by rw [HNk.out] at hi; omega)⟩)
          rw [HNk.out, show t - 1 = r from by omega] at hFF
          have HFF := hide hFF
          clear hFF htr
          go_wp2_with fail
          refine (Hid.out HFF).mono ?_
          rintro e w5 ⟨rfl, hc5, hg5⟩
          have HR5 := hide hc5
          have HP5 := hide (HP4.out.same (hg5.block gx hs4x (fun e => hne (Option.some.inj e))))
          have HB5 := hide (HB4.out.grown hg5 HB4.out.size (fun q hq => by simp at hq; omega))
          have hs5x : gx < w5.heap.size := Nat.lt_of_lt_of_le hs4x hg5.size
          have hs5z : gz < w5.heap.size := Nat.lt_of_lt_of_le hs4z hg5.size
          have hs5w := HB5.out.size
          clear hc5 hg5 HFF HR4 HT4 HB4 HP4 hs4x hs4z
          have htr := HT.out
          have e1 : IntKind.u8.wrap ((t : Int) - 1) = (r : Int) := by rw [IntKind.wrap_u8]; omega
          have s1 := shl_p2 r (by omega)
          have hr62 : min r 64 = r := by omega
          have HH := hide (hf_p2 r (by omega))
          have HAM := hide (fun p (hp : p < 2048) => and_mod (r := r) (p := p) (by omega) hp)
          have HNS := hide (show n = 2 * p2 r * p2 (k - t) by rw [← HNk.out, Nat.mul_assoc, ← p2_add, ← p2_succ]; congr 1; omega)
          have hh0 := p2_pos r
          have hs0 := p2_pos (k - t)
          have HRt := hide (fun i (hi : i < p2 (k - 1)) => Fl.rt_ok k i (by omega) hk hi)
          have HKm := hide (show p2 (k - 1) = p2 r * p2 (k - t) by rw [← p2_add]; congr 1; omega)
          have HN2 := hide (show p2 k = 2 * p2 r * p2 (k - t) by rw [Nat.mul_assoc, ← p2_add, ← p2_succ]; congr 1; omega)
          generalize p2 r = h at *
          generalize p2 (k - t) = st at *
          have HN0 := hide (show n % (2 * h) = 0 by rw [HNS.out]; exact Nat.mul_mod_right _ _)
          have hhn : 2 * h ≤ n := by rw [HNS.out]; exact Nat.le_mul_of_pos_right _ hs0
          clear htr HT
          go_wp2_with fail
          rw [s1]
          clear e1 s1 hr62
          have HBl0 := hide (Below.refl w5.heap.size w5)
          go_loopw [14] (fun iv wr => ∃ i : Nat, iv = .int .i64 i ∧ i ≤ n ∧ Hid (Below w5.heap.size w5 wr)) (fun iv _ => n - (intOf iv).toNat)
          case atStart => exact ⟨0, rfl, Nat.zero_le _, HBl0⟩
          case round =>
            clear HBl0
            obtain ⟨i, rfl, hin, HBl⟩ := hrel
            have hbs := HBl.out.size
            by_cases hlt : i < n
            · obtain ⟨pp, HPP⟩ : ∃ pp, Hid (pp = pb h i) := ⟨_, rfl⟩
              have hpl : pp ≤ i := by rw [HPP.out]; exact pb_le i HH.out
              have hph : pp + h < n := by rw [HPP.out]; exact pb_lt HH.out HN0.out hlt
              have e1 : bits .andNot .i64 (i : Int) (h : Int) = (pp : Int) := by rw [HPP.out]; exact andNot_pb HH.out (by omega)
              obtain ⟨jj, HJJ⟩ : ∃ jj, Hid (jj = pp % h) := ⟨_, rfl⟩
              have e4 : bits .and .i64 (pp : Int) ((h : Int) - 1) = (jj : Int) := by rw [HJJ.out]; exact HAM.out pp (by omega)
              have hjh : jj < h := by rw [HJJ.out]; exact Nat.mod_lt _ hh0
              have hcv := (HBl.out.cell (p := ⟨b, off + (pp + h), none⟩) (by show b < _; omega)).trans ((HB5.out.cell (p := ⟨b, off + (pp + h), none⟩) hb).trans (HC.out (pp + h) (by omega)))
              have HCp := hide ((HBl.out.cell (p := ⟨b, off + pp, none⟩) (by show b < _; omega)).trans ((HB5.out.cell (p := ⟨b, off + pp, none⟩) hb).trans (HC.out pp (by omega))))
              have hvb := HE.out (pp + h) (by omega)
              have hub := HE.out pp (by omega)
              have hjm : i % h = jj := by rw [HJJ.out, HPP.out]; exact (pb_mod HH.out).1.symm
              have hqm : jj * st < p2 (k - 1) := by rw [HKm.out]; exact Nat.mul_lt_mul_of_pos_right hjh hs0
              have hpi := (HRt.out (jj * st) hqm).2.2
              rw [plain_iff HN2.out hs0] at hpi
              have HFE0 := hide (show FE k h st (mo * 4294967296 + 1) E0 i = jnd (E0 pp) (E0 (pp + h)) (mo * 4294967296 + 1) (jj == 0 || 2 * jj == h) by unfold FE; rw [← HPP.out, hjm, hpi])
              have HFb := hide (show FE k h st (mo * 4294967296 + 1) E0 i < 340282366920938463463374607431768211456 by rw [HFE0.out]; exact jnd_lt hub hvb (by omega))
              clear hjm hqm hpi
              generalize hvv : E0 (pp + h) = v at *
              generalize huu : E0 pp = u at *
              clear hvv huu
              obtain ⟨lo, HLo⟩ : ∃ lo, Hid (lo = v % 4294967296) := ⟨_, rfl⟩
              obtain ⟨hi0, HHi⟩ : ∃ hi0, Hid (hi0 = v / 4294967296) := ⟨_, rfl⟩
              have e2 : bits .and .u64 (v : Int) 4294967295 = (lo : Int) := by rw [HLo.out]; exact mask32 v hvb
              have e3 : (v : Int) / 4294967296 = (hi0 : Int) := by rw [HHi.out]; rfl
              have hlo : lo < 4294967296 := by rw [HLo.out]; exact Nat.mod_lt _ (by decide)
              have hhi : hi0 < 4294967296 := by rw [HHi.out]; omega
              obtain ⟨ow, HOw⟩ : ∃ ow, Hid (ow = mo * 4294967296 % 18446744073709551616) := ⟨_, rfl⟩
              have e5 : IntKind.u64.wrap ((mo : Int) * 4294967296) = (ow : Int) := by rw [HOw.out, IntKind.wrap_u64]; omega
              obtain ⟨x3, HX3⟩ : ∃ x3, Hid (x3 = mo / 4294967296) := ⟨_, rfl⟩
              have e6 : (mo : Int) / 4294967296 = (x3 : Int) := by rw [HX3.out]; rfl
              have HZo := hide (show AccOf (one68 ow x3) ((mo * 4294967296 : Nat) : Int) by have := one68_acc ow x3 (by rw [HOw.out]; omega) (by rw [HX3.out]; omega); rwa [show ow + 18446744073709551616 * x3 = mo * 4294967296 from by rw [HOw.out, HX3.out]; omega] at this)
              clear HOw HX3
              by_cases hj0 : jj = 0
              · have c1 : ((jj : Int) == 0) = true := by simpa using hj0
                have HFE := hide (show FE k h st (mo * 4294967296 + 1) E0 i = v + u + (mo * 4294967296 + 1) by rw [HFE0.out]; unfold jnd; simp [hj0])
                obtain ⟨x1, HX1⟩ : ∃ x1, Hid (x1 = hi0 * 4294967296 % 18446744073709551616) := ⟨_, rfl⟩
                obtain ⟨x2, HX2⟩ : ∃ x2, Hid (x2 = hi0 / 4294967296) := ⟨_, rfl⟩
                have hTB : lo < 18446744073709551616 := by omega
                have hval : lo + hi0 * 4294967296 = v := by rw [HLo.out, HHi.out]; omega
                clear HFE0
                have t1 : IntKind.u64.wrap ((hi0 : Int) * 4294967296) = (x1 : Int) := by rw [HX1.out, IntKind.wrap_u64]; omega
                have t2 : (hi0 : Int) / 4294967296 = (x2 : Int) := by rw [HX2.out]; rfl
                have b1 := zset_one lo
                have b2 := zset_two x1 x2
                have b3 := zset_one u
                have b4 := zset_two ow x3
                have b5 : Talg.zeroCells31.setIfInBounds 0 (.int .u64 1) = accArr (one68 1 0) := zset_one 1
                have HN1 := hide (AccB.new wr)
                have HZ1 := hide (acc_one lo hTB)
                have HZ2 := hide (show AccOf (one68 x1 x2) ((hi0 * 4294967296 : Nat) : Int) by have := one68_acc x1 x2 (by rw [HX1.out]; omega) (by rw [HX2.out]; omega); rwa [show x1 + 18446744073709551616 * x2 = hi0 * 4294967296 from by rw [HX1.out, HX2.out]; omega] at this)
                have hc5 : ∀ wx : World, Below wr.heap.size wr wx → wx.cell? ⟨b, off + pp, none⟩ = some (.int .u64 (u : Int)) := fun wx hx => (hx.cell (p := ⟨b, off + pp, none⟩) (by show b < _; omega)).trans HCp.out
                have HC5 := hide hc5
                clear hc5 HX1 HX2
                go_wp2_with (refine wpList_store_row rfl 31 _ _ rfl wr.heap.size (accArr (one68 lo 0)) rfl rfl 31 (accArr zeros68) HN1.out.heap (by rw [accArr_size, one68_len]; exact acc_info) (by rw [accArr_size, accArr_size, one68_len]; rfl) (accArr_one _) ?_)
                have HW6 := hide (HN1.out.setRow (one68 lo 0))
                have HB6 := hide (((Below.refl wr.heap.size wr).alloc (Nat.le_refl _) (.cells Talg.zeroCells31 31)).grown (gb_setRow _ wr.heap.size (accArr (one68 lo 0))) (by simp) (fun q hq => by simp at hq; omega))
                have hs6 : ((wr.alloc (.cells Talg.zeroCells31 31)).setRow wr.heap.size (accArr (one68 lo 0))).heap.size = wr.heap.size + 1 := by simp
                clear HN1
                generalize (wr.alloc (.cells Talg.zeroCells31 31)).setRow wr.heap.size (accArr (one68 lo 0)) = w6 at *
                rw [← hs6]
                clear hs6
                refine (addBox_any wr.heap.size _ _ _ _ w6 HW6.out HZ1.out HZ2.out).mono ?_
                rintro e w7 ⟨rfl, a7, hA7, hz7, hb7⟩
                have HW7 := hide hA7
                have HZ7 := hide hz7
                have HB7 := hide (HB6.out.trans hb7)
                have hcp7 := HC5.out _ HB7.out
                clear hA7 hz7 hb7 HW6 HB6 HZ1 HZ2
                go_wp2_with fail
                refine (addBox_any wr.heap.size _ _ _ _ w7 HW7.out HZ7.out (acc_one u hub)).mono ?_
                rintro e w8 ⟨rfl, a8, hA8, hz8, hb8⟩
                have HW8 := hide hA8
                have HZ8 := hide hz8
                have HB8 := hide (HB7.out.trans hb8)
                clear hA8 hz8 hb8 HW7 HB7 HZ7 hcp7
                go_wp2_with fail
                refine (addBox_any wr.heap.size _ _ _ _ w8 HW8.out HZ8.out HZo.out).mono ?_
                rintro e w9 ⟨rfl, a9, hA9, hz9, hb9⟩
                have HW9 := hide hA9
                have HZ9 := hide hz9
                have HB9 := hide (HB8.out.trans hb9)
                clear hA9 hz9 hb9 HW8 HB8 HZ8
                go_wp2_with fail
                refine (addBox_any wr.heap.size _ _ _ _ w9 HW9.out HZ9.out (acc_one 1 (by omega))).mono ?_
                rintro e w10 ⟨rfl, a10, hA10, hz10, hb10⟩
                have hsum : ((lo : Nat) : Int) + ((hi0 * 4294967296 : Nat) : Int) + (u : Int) + ((mo * 4294967296 : Nat) : Int) + ((1 : Nat) : Int) = ((FE k h st (mo * 4294967296 + 1) E0 i : Nat) : Int) := by rw [HFE.out]; omega
                rw [hsum] at hz10
                have hae := ew_of hz10 HFb.out
                subst hae
                have HW10 := hide hA10
                have HB10 := hide (HB9.out.trans hb10)
                clear hA10 hz10 hb10 HW9 HB9 HZ9 hsum HC5
                go_wp2_with fail
                have HB10w := hide (HBl.out.trans (HB10.out.mono (by omega)))
                have HP10 := hide (HP5.out.same (HB10w.out.block gx (by omega)))
                have HR10 := hide (HR5.out.same (HB10w.out.block gz (by omega)))
                have hL1 := load_mid (HP10.out.e i hlt) (ew_len _)
                have hL2 := load_mid (acc_range HW10.out) (ew_len _)
                refine sb_r33 w10 gx gz wr.heap.size n i (FZ k h st (Zf E0) i) (accArr (ew (FE k h st (mo * 4294967296 + 1) E0 i))) hlt hL1 hL2 (fun wx => by rw [neq_acc _ _ (ew_len _) (ew_len _)]; simp) (HP10.out.z i hlt) (HR10.out.z i hlt) _ _ _ _ _ _ _ _ _ _ _ _ _ _ _ _ _ _ _ _ _ _ _ _ _ _ _ _ _ _ _ _ _ _ _ _ _ _ _ _ _ _ _ _ _ _ _ _ _ _ _ _ _ _ _ _ _ _ _ _ _ _ _ _ _ _ _ _ _ _ _ _ _ _ _ _ _ _ _ _ _ _ _ _ _ _ _ _ _ _ _ _ _ _ _ _ _ _ _ _ _ _ _ _ _ _ _ _ _ _ _ _ _ _ _ _ _ _ _ _ _ _ _ _ _ _ _ _ _ _ _ _ _ _ _ _ _ _ _ _ _ _ _ _ _ _ _ _ _ _ _ _ _ _ _ _ _ _ _ _ _ _ _ _ _ _ _ _ _ _ _ _ _ _ _ _ _ _ _ _ _ ?_
                intro v157 v158 v159 v160 v161 v162 v163 v164 v165 v166 v167 v168 v169 v170 v171 v172 v173 v174 v175 v176 v177 v178 v179 v180 v181 v182 v183 nd
                have HBn := hide (Below.drewN HB10w.out nd)
                clear HB10w HP10 HR10 HW10 HB10 hL1 hL2
                generalize w10.drewN nd = w11 at *
                go_wp2_with fail
                go_roundw
                case rel => exact ⟨i + 1, by go_num, by omega, HBn⟩
                case measure => simp [intOf]; omega
              · have c1 : ((jj : Int) == 0) = false := by simpa using hj0
                by_cases hj2 : 2 * jj = h
                · have c2 : (2 * (jj : Int) == (h : Int)) = true := by simp; omega
                  have c3 : 2 * (jj : Int) = (h : Int) := by omega
                  have HFE := hide (show FE k h st (mo * 4294967296 + 1) E0 i = v + u + (mo * 4294967296 + 1) by rw [HFE0.out]; unfold jnd; simp [hj2])
                  obtain ⟨x1, HX1⟩ : ∃ x1, Hid (x1 = hi0 * 4294967296 % 18446744073709551616) := ⟨_, rfl⟩
                  obtain ⟨x2, HX2⟩ : ∃ x2, Hid (x2 = hi0 / 4294967296) := ⟨_, rfl⟩
                  have hTB : lo < 18446744073709551616 := by omega
                  have hval : lo + hi0 * 4294967296 = v := by rw [HLo.out, HHi.out]; omega
                  clear HFE0
                  have t1 : IntKind.u64.wrap ((hi0 : Int) * 4294967296) = (x1 : Int) := by rw [HX1.out, IntKind.wrap_u64]; omega
                  have t2 : (hi0 : Int) / 4294967296 = (x2 : Int) := by rw [HX2.out]; rfl
                  have b1 := zset_one lo
                  have b2 := zset_two x1 x2
                  have b3 := zset_one u
                  have b4 := zset_two ow x3
                  have b5 : Talg.zeroCells31.setIfInBounds 0 (.int .u64 1) = accArr (one68 1 0) := zset_one 1
                  have HN1 := hide (AccB.new wr)
                  have HZ1 := hide (acc_one lo hTB)
                  have HZ2 := hide (show AccOf (one68 x1 x2) ((hi0 * 4294967296 : Nat) : Int) by have := one68_acc x1 x2 (by rw [HX1.out]; omega) (by rw [HX2.out]; omega); rwa [show x1 + 18446744073709551616 * x2 = hi0 * 4294967296 from by rw [HX1.out, HX2.out]; omega] at this)
                  have hc5 : ∀ wx : World, Below wr.heap.size wr wx → wx.cell? ⟨b, off + pp, none⟩ = some (.int .u64 (u : Int)) := fun wx hx => (hx.cell (p := ⟨b, off + pp, none⟩) (by show b < _; omega)).trans HCp.out
                  have HC5 := hide hc5
                  clear hc5 HX1 HX2
                  go_wp2_with (refine wpList_store_row rfl 31 _ _ rfl wr.heap.size (accArr (one68 lo 0)) rfl rfl 31 (accArr zeros68) HN1.out.heap (by rw [accArr_size, one68_len]; exact acc_info) (by rw [accArr_size, accArr_size, one68_len]; rfl) (accArr_one _) ?_)
                  have HW6 := hide (HN1.out.setRow (one68 lo 0))
                  have HB6 := hide (((Below.refl wr.heap.size wr).alloc (Nat.le_refl _) (.cells Talg.zeroCells31 31)).grown (gb_setRow _ wr.heap.size (accArr (one68 lo 0))) (by simp) (fun q hq => by simp at hq; omega))
                  have hs6 : ((wr.alloc (.cells Talg.zeroCells31 31)).setRow wr.heap.size (accArr (one68 lo 0))).heap.size = wr.heap.size + 1 := by simp
                  clear HN1
                  generalize (wr.alloc (.cells Talg.zeroCells31 31)).setRow wr.heap.size (accArr (one68 lo 0)) = w6 at *
                  rw [← hs6]
                  clear hs6
                  refine (addBox_any wr.heap.size _ _ _ _ w6 HW6.out HZ1.out HZ2.out).mono ?_
                  rintro e w7 ⟨rfl, a7, hA7, hz7, hb7⟩
                  have HW7 := hide hA7
                  have HZ7 := hide hz7
                  have HB7 := hide (HB6.out.trans hb7)
                  have hcp7 := HC5.out _ HB7.out
                  clear hA7 hz7 hb7 HW6 HB6 HZ1 HZ2
                  go_wp2_with fail
                  refine (addBox_any wr.heap.size _ _ _ _ w7 HW7.out HZ7.out (acc_one u hub)).mono ?_
                  rintro e w8 ⟨rfl, a8, hA8, hz8, hb8⟩
                  have HW8 := hide hA8
                  have HZ8 := hide hz8
                  have HB8 := hide (HB7.out.trans hb8)
                  clear hA8 hz8 hb8 HW7 HB7 HZ7 hcp7
                  go_wp2_with fail
                  refine (addBox_any wr.heap.size _ _ _ _ w8 HW8.out HZ8.out HZo.out).mono ?_
                  rintro e w9 ⟨rfl, a9, hA9, hz9, hb9⟩
                  have HW9 := hide hA9
                  have HZ9 := hide hz9
                  have HB9 := hide (HB8.out.trans hb9)
                  clear hA9 hz9 hb9 HW8 HB8 HZ8
                  go_wp2_with fail
                  refine (addBox_any wr.heap.size _ _ _ _ w9 HW9.out HZ9.out (acc_one 1 (by omega))).mono ?_
                  rintro e w10 ⟨rfl, a10, hA10, hz10, hb10⟩
                  have hsum : ((lo : Nat) : Int) + ((hi0 * 4294967296 : Nat) : Int) + (u : Int) + ((mo * 4294967296 : Nat) : Int) + ((1 : Nat) : Int) = ((FE k h st (mo * 4294967296 + 1) E0 i : Nat) : Int) := by rw [HFE.out]; omega
                  rw [hsum] at hz10
                  have hae := ew_of hz10 HFb.out
                  subst hae
                  have HW10 := hide hA10
                  have HB10 := hide (HB9.out.trans hb10)
                  clear hA10 hz10 hb10 HW9 HB9 HZ9 hsum HC5
                  go_wp2_with fail
                  have HB10w := hide (HBl.out.trans (HB10.out.mono (by omega)))
                  have HP10 := hide (HP5.out.same (HB10w.out.block gx (by omega)))
                  have HR10 := hide (HR5.out.same (HB10w.out.block gz (by omega)))
                  have hL1 := load_mid (HP10.out.e i hlt) (ew_len _)
                  have hL2 := load_mid (acc_range HW10.out) (ew_len _)
                  refine sb_r33 w10 gx gz wr.heap.size n i (FZ k h st (Zf E0) i) (accArr (ew (FE k h st (mo * 4294967296 + 1) E0 i))) hlt hL1 hL2 (fun wx => by rw [neq_acc _ _ (ew_len _) (ew_len _)]; simp) (HP10.out.z i hlt) (HR10.out.z i hlt) _ _ _ _ _ _ _ _ _ _ _ _ _ _ _ _ _ _ _ _ _ _ _ _ _ _ _ _ _ _ _ _ _ _ _ _ _ _ _ _ _ _ _ _ _ _ _ _ _ _ _ _ _ _ _ _ _ _ _ _ _ _ _ _ _ _ _ _ _ _ _ _ _ _ _ _ _ _ _ _ _ _ _ _ _ _ _ _ _ _ _ _ _ _ _ _ _ _ _ _ _ _ _ _ _ _ _ _ _ _ _ _ _ _ _ _ _ _ _ _ _ _ _ _ _ _ _ _ _ _ _ _ _ _ _ _ _ _ _ _ _ _ _ _ _ _ _ _ _ _ _ _ _ _ _ _ _ _ _ _ _ _ _ _ _ _ _ _ _ _ _ _ _ _ _ _ _ _ _ _ _ ?_
                  intro v157 v158 v159 v160 v161 v162 v163 v164 v165 v166 v167 v168 v169 v170 v171 v172 v173 v174 v175 v176 v177 v178 v179 v180 v181 v182 v183 nd
                  have HBn := hide (Below.drewN HB10w.out nd)
                  clear HB10w HP10 HR10 HW10 HB10 hL1 hL2
                  generalize w10.drewN nd = w11 at *
                  go_wp2_with fail
                  go_roundw
                  case rel => exact ⟨i + 1, by go_num, by omega, HBn⟩
                  case measure => simp [intOf]; omega
                · have c2 : (2 * (jj : Int) == (h : Int)) = false := by simp; omega
                  have c3 : ¬ 2 * (jj : Int) = (h : Int) := by omega
                  have HFE := hide (show FE k h st (mo * 4294967296 + 1) E0 i = spr v + u + (mo * 4294967296 + 1) by rw [HFE0.out]; unfold jnd; simp [hj0, hj2])
                  have c4 : ((jj : Int) != 0) = true := by simp; omega
                  have c5 : (2 * (jj : Int) != (h : Int)) = true := by simp; omega
                  obtain ⟨m1, HM1⟩ : ∃ x, Hid (x = lo * 23171) := ⟨_, rfl⟩
                  obtain ⟨m2, HM2⟩ : ∃ x, Hid (x = m1 + 16384) := ⟨_, rfl⟩
                  obtain ⟨m3, HM3⟩ : ∃ x, Hid (x = m2 - 1) := ⟨_, rfl⟩
                  obtain ⟨g1, HG1⟩ : ∃ x, Hid (x = hi0 * 23171) := ⟨_, rfl⟩
                  obtain ⟨g2, HG2⟩ : ∃ x, Hid (x = g1 % 16384) := ⟨_, rfl⟩
                  obtain ⟨g3, HG3⟩ : ∃ x, Hid (x = g2 * 4294967296) := ⟨_, rfl⟩
                  obtain ⟨m4, HM4⟩ : ∃ x, Hid (x = m3 + g3) := ⟨_, rfl⟩
                  obtain ⟨LO, HLO⟩ : ∃ x, Hid (x = m4 / 16384) := ⟨_, rfl⟩
                  obtain ⟨HI, HHI⟩ : ∃ x, Hid (x = g1 / 16384) := ⟨_, rfl⟩
                  have a1 : IntKind.u64.wrap ((lo : Int) * 23171) = (m1 : Int) := by rw [HM1.out, IntKind.wrap_u64]; omega
                  have a1' : (lo : Int) * 23171 = (m1 : Int) := by rw [HM1.out]; omega
                  have hm1 : m1 < 140737488355328 := by rw [HM1.out]; omega
                  have a2 : IntKind.u64.wrap ((m1 : Int) + 16384) = (m2 : Int) := by rw [HM2.out, IntKind.wrap_u64]; omega
                  have a2' : (m1 : Int) + 16384 = (m2 : Int) := by rw [HM2.out]; omega
                  have hm2 : m2 = m1 + 16384 := HM2.out
                  have a3 : IntKind.u64.wrap ((m2 : Int) - 1) = (m3 : Int) := by rw [HM3.out, IntKind.wrap_u64]; omega
                  have a3' : (m2 : Int) - 1 = (m3 : Int) := by rw [HM3.out]; omega
                  have hm3 : m3 = m2 - 1 := HM3.out
                  have a4 : IntKind.u64.wrap ((hi0 : Int) * 23171) = (g1 : Int) := by rw [HG1.out, IntKind.wrap_u64]; omega
                  have a4' : (hi0 : Int) * 23171 = (g1 : Int) := by rw [HG1.out]; omega
                  have hg1 : g1 < 140737488355328 := by rw [HG1.out]; omega
                  have a5 : bits .and .u64 (g1 : Int) 16383 = (g2 : Int) := by rw [HG2.out]; exact mask14 g1 (by omega)
                  have hg2 : g2 < 16384 := by rw [HG2.out]; exact Nat.mod_lt _ (by decide)
                  have a6 : IntKind.u64.wrap ((g2 : Int) * 4294967296) = (g3 : Int) := by rw [HG3.out, IntKind.wrap_u64]; omega
                  have a6' : (g2 : Int) * 4294967296 = (g3 : Int) := by rw [HG3.out]; omega
                  have hg3 : g3 = g2 * 4294967296 := HG3.out
                  have a7 : IntKind.u64.wrap ((m3 : Int) + (g3 : Int)) = (m4 : Int) := by rw [HM4.out, IntKind.wrap_u64]; omega
                  have a8 : (m4 : Int) / 16384 = (LO : Int) := by rw [HLO.out]; rfl
                  have a9 : (g1 : Int) / 16384 = (HI : Int) := by rw [HHI.out]; rfl
                  have a7' : (m3 : Int) + (g3 : Int) = (m4 : Int) := by rw [HM4.out]; omega
                  have hm4 : m4 = m3 + g3 := HM4.out
                  have hm4b : m4 < 18446744073709551616 := by omega
                  have hg3b : g3 < 18446744073709551616 := by omega
                  have hm3b : m3 < 18446744073709551616 := by omega
                  have hm2b : m2 < 18446744073709551616 := by omega
                  have hTB : LO < 18446744073709551616 := by rw [HLO.out]; omega
                  have hHI : HI < 18446744073709551616 := by rw [HHI.out]; omega
                  have hval : LO + HI * 4294967296 = spr v := by
                    rw [← want_spr v hvb, HLO.out, HHI.out, hm4, hm3, hm2, hg3, HG2.out, HG1.out, HM1.out, HLo.out, HHi.out]
                    congr 3
                  clear hm2 hm3 hg3 hm4 HFE0
                  obtain ⟨x1, HX1⟩ : ∃ x1, Hid (x1 = HI * 4294967296 % 18446744073709551616) := ⟨_, rfl⟩
                  obtain ⟨x2, HX2⟩ : ∃ x2, Hid (x2 = HI / 4294967296) := ⟨_, rfl⟩
                  have t1 : IntKind.u64.wrap ((HI : Int) * 4294967296) = (x1 : Int) := by rw [HX1.out, IntKind.wrap_u64]; omega
                  have t2 : (HI : Int) / 4294967296 = (x2 : Int) := by rw [HX2.out]; rfl
                  have b1 := zset_one LO
                  have b2 := zset_two x1 x2
                  have b3 := zset_one u
                  have b4 := zset_two ow x3
                  have b5 : Talg.zeroCells31.setIfInBounds 0 (.int .u64 1) = accArr (one68 1 0) := zset_one 1
                  have HN1 := hide (AccB.new wr)
                  have HZ1 := hide (acc_one LO hTB)
                  have HZ2 := hide (show AccOf (one68 x1 x2) ((HI * 4294967296 : Nat) : Int) by have := one68_acc x1 x2 (by rw [HX1.out]; omega) (by rw [HX2.out]; omega); rwa [show x1 + 18446744073709551616 * x2 = HI * 4294967296 from by rw [HX1.out, HX2.out]; omega] at this)
                  have hc5 : ∀ wx : World, Below wr.heap.size wr wx → wx.cell? ⟨b, off + pp, none⟩ = some (.int .u64 (u : Int)) := fun wx hx => (hx.cell (p := ⟨b, off + pp, none⟩) (by show b < _; omega)).trans HCp.out
                  have HC5 := hide hc5
                  clear hc5 HX1 HX2
                  go_wp2_with (refine wpList_store_row rfl 31 _ _ rfl wr.heap.size (accArr (one68 LO 0)) rfl rfl 31 (accArr zeros68) HN1.out.heap (by rw [accArr_size, one68_len]; exact acc_info) (by rw [accArr_size, accArr_size, one68_len]; rfl) (accArr_one _) ?_)
                  have HW6 := hide (HN1.out.setRow (one68 LO 0))
                  have HB6 := hide (((Below.refl wr.heap.size wr).alloc (Nat.le_refl _) (.cells Talg.zeroCells31 31)).grown (gb_setRow _ wr.heap.size (accArr (one68 LO 0))) (by simp) (fun q hq => by simp at hq; omega))
                  have hs6 : ((wr.alloc (.cells Talg.zeroCells31 31)).setRow wr.heap.size (accArr (one68 LO 0))).heap.size = wr.heap.size + 1 := by simp
                  clear HN1
                  generalize (wr.alloc (.cells Talg.zeroCells31 31)).setRow wr.heap.size (accArr (one68 LO 0)) = w6 at *
                  rw [← hs6]
                  clear hs6
                  refine (addBox_any wr.heap.size _ _ _ _ w6 HW6.out HZ1.out HZ2.out).mono ?_
                  rintro e w7 ⟨rfl, a7, hA7, hz7, hb7⟩
                  have HW7 := hide hA7
                  have HZ7 := hide hz7
                  have HB7 := hide (HB6.out.trans hb7)
                  have hcp7 := HC5.out _ HB7.out
                  clear hA7 hz7 hb7 HW6 HB6 HZ1 HZ2
                  go_wp2_with fail
                  refine (addBox_any wr.heap.size _ _ _ _ w7 HW7.out HZ7.out (acc_one u hub)).mono ?_
                  rintro e w8 ⟨rfl, a8, hA8, hz8, hb8⟩
                  have HW8 := hide hA8
                  have HZ8 := hide hz8
                  have HB8 := hide (HB7.out.trans hb8)
                  clear hA8 hz8 hb8 HW7 HB7 HZ7 hcp7
                  go_wp2_with fail
                  refine (addBox_any wr.heap.size _ _ _ _ w8 HW8.out HZ8.out HZo.out).mono ?_
                  rintro e w9 ⟨rfl, a9, hA9, hz9, hb9⟩
                  have HW9 := hide hA9
                  have HZ9 := hide hz9
                  have HB9 := hide (HB8.out.trans hb9)
                  clear hA9 hz9 hb9 HW8 HB8 HZ8
                  go_wp2_with fail
                  refine (addBox_any wr.heap.size _ _ _ _ w9 HW9.out HZ9.out (acc_one 1 (by omega))).mono ?_
                  rintro e w10 ⟨rfl, a10, hA10, hz10, hb10⟩
                  have hsum : ((LO : Nat) : Int) + ((HI * 4294967296 : Nat) : Int) + (u : Int) + ((mo * 4294967296 : Nat) : Int) + ((1 : Nat) : Int) = ((FE k h st (mo * 4294967296 + 1) E0 i : Nat) : Int) := by rw [HFE.out]; omega
                  rw [hsum] at hz10
                  have hae := ew_of hz10 HFb.out
                  subst hae
                  have HW10 := hide hA10
                  have HB10 := hide (HB9.out.trans hb10)
                  clear hA10 hz10 hb10 HW9 HB9 HZ9 hsum HC5
                  go_wp2_with fail
                  have HB10w := hide (HBl.out.trans (HB10.out.mono (by omega)))
                  have HP10 := hide (HP5.out.same (HB10w.out.block gx (by omega)))
                  have HR10 := hide (HR5.out.same (HB10w.out.block gz (by omega)))
                  have hL1 := load_mid (HP10.out.e i hlt) (ew_len _)
                  have hL2 := load_mid (acc_range HW10.out) (ew_len _)
                  refine sb_r33 w10 gx gz wr.heap.size n i (FZ k h st (Zf E0) i) (accArr (ew (FE k h st (mo * 4294967296 + 1) E0 i))) hlt hL1 hL2 (fun wx => by rw [neq_acc _ _ (ew_len _) (ew_len _)]; simp) (HP10.out.z i hlt) (HR10.out.z i hlt) _ _ _ _ _ _ _ _ _ _ _ _ _ _ _ _ _ _ _ _ _ _ _ _ _ _ _ _ _ _ _ _ _ _ _ _ _ _ _ _ _ _ _ _ _ _ _ _ _ _ _ _ _ _ _ _ _ _ _ _ _ _ _ _ _ _ _ _ _ _ _ _ _ _ _ _ _ _ _ _ _ _ _ _ _ _ _ _ _ _ _ _ _ _ _ _ _ _ _ _ _ _ _ _ _ _ _ _ _ _ _ _ _ _ _ _ _ _ _ _ _ _ _ _ _ _ _ _ _ _ _ _ _ _ _ _ _ _ _ _ _ _ _ _ _ _ _ _ _ _ _ _ _ _ _ _ _ _ _ _ _ _ _ _ _ _ _ _ _ _ _ _ _ _ _ _ _ _ _ _ _ ?_
                  intro v157 v158 v159 v160 v161 v162 v163 v164 v165 v166 v167 v168 v169 v170 v171 v172 v173 v174 v175 v176 v177 v178 v179 v180 v181 v182 v183 nd
                  have HBn := hide (Below.drewN HB10w.out nd)
                  clear HB10w HP10 HR10 HW10 HB10 hL1 hL2
                  generalize w10.drewN nd = w11 at *
                  go_wp2_with fail
                  go_roundw
                  case rel => exact ⟨i + 1, by go_num, by omega, HBn⟩
                  case measure => simp [intOf]; omega
            · go_wp2_with fail
              go_ret
              exact ⟨rfl, HB5.out.trans (HBl.out.mono (by omega))⟩
    · have HM0 := hide (show MI w (((w1.alloc (.cells C 28)).alloc (.cells X 33)).drew) (w1.heap.size + 1) w1.heap.size w.heap.size k n 0 (Zf E0) E0 from mi_init HBel1.out HTab1.out hgt1 (((Below.refl w1.heap.size w1).alloc (Nat.le_refl _) _).alloc (by simp) _).drew (by have := Blk.new (w1.alloc (.cells C 28)) X 33; rw [show (w1.alloc (.cells C 28)).heap.size = w1.heap.size + 1 from by simp] at this; exact this) hX ((Blk.new w1 C 28).alloc _) hC)
      have hsx : w1.heap.size + 1 < (((w1.alloc (.cells C 28)).alloc (.cells X 33)).drew).heap.size := by simp
      have hsz : w1.heap.size < (((w1.alloc (.cells C 28)).alloc (.cells X 33)).drew).heap.size := by simp; omega
      generalize ((w1.alloc (.cells C 28)).alloc (.cells X 33)).drew = w2 at *
      generalize hgz : w1.heap.size + 1 = gx at *
      generalize hgx : w1.heap.size = gz at *
      have hne : gx ≠ gz := by omega
      have hgwx : w.heap.size < gx := by omega
      have hgwz : w.heap.size < gz := by omega
      clear hgz hgx HBel1 HTab1 hX hC hmk1 hmk2 hgt1 s1 hcm
      go_wp2_with fail
      go_loopw [12] (fun iv wr => ∃ i : Nat, iv = .int .i64 i ∧ i ≤ n ∧ Hid (MI w wr gx gz w.heap.size k n i (Zf E0) E0) ∧ gx < wr.heap.size ∧ gz < wr.heap.size) (fun iv _ => n - (intOf iv).toNat)
      case atStart => exact ⟨0, rfl, by omega, HM0, hsx, hsz⟩
      case round =>
        clear HM0 hsx hsz
        obtain ⟨i, rfl, hin, HM, hsx, hsz⟩ := hrel
        by_cases hlt : i < n
        · have hil : i < len := by omega
          have hce := (HM.out.bel.cell (p := ⟨b, off + i, none⟩) hb).trans (HC.out i hil)
          have hEi := HE.out i hil
          obtain ⟨v0, hv0⟩ := Option.isSome_iff_exists.1 (show (wr.cell? ⟨gz, i, none⟩).isSome = true by have := (HM.out.tz i hlt).1; rwa [Nat.zero_add] at this)
          have hf0 := HM.out.cr.f i
          have hq : ((E0 i : Nat) : Int) % 1024 = ((E0 i % 1024 : Nat) : Int) := rfl
          have HZ1 := hide (show Zf E0 i = (floatOfInt .f64 ((E0 i % 1024 : Nat) : Int), floatOfInt .f64 (i : Int)) from rfl)
          generalize hqq : E0 i % 1024 = q at *
          clear hqq
          generalize hz1 : floatOfInt .f64 (q : Int) = zr at *
          generalize hz2 : floatOfInt .f64 (i : Int) = zm at *
          have HZi := hide (show wr.cell? ⟨gz, i, none⟩ = some v0 from hv0)
          go_wp2_with fail
          have HC12 := hide (show (wr.setCell ⟨gz, i, none⟩ (.complex .f64 zr zm)).cell? ⟨gz, i, none⟩ = some (.complex .f64 zr zm) from World.cell?_setCell_same _ _ _ HZi.out)
          have HE12 := hide (show (wr.setCell ⟨gz, i, none⟩ (.complex .f64 zr zm)).cell? ⟨b, off + i, none⟩ = some (.int .u64 ((E0 i : Nat) : Int)) from (World.cell?_setCell_other _ _ _ _ (by intro hh; simp only [Addr.mk.injEq] at hh; omega)).trans hce)
          have HT12 := hide (show (wr.setCell ⟨gz, i, none⟩ (.complex .f64 zr zm)).there gx (i * 69) 69 from there_sub (there_cell HM.out.tx hne) (by omega) (by omega))
          have HP12 := hide (show PtAt (wr.setCell ⟨gz, i, none⟩ (.complex .f64 zr zm)).drew gx i (Zf E0) E0 from (HM.out.pt.same (w' := wr.setCell ⟨gz, i, none⟩ (.complex .f64 zr zm)) (Below.heap_setCell _ _ _ _ hne)).drew)
          have HCR := hide (show CRow (wr.setCell ⟨gz, i, none⟩ (.complex .f64 zr zm)) gz (i + 1) (Zf E0) by have := HM.out.cr.put (by rw [HZi.out]; rfl); rw [HZ1.out] at this; exact this)
          have HTX := hide (there_cell HM.out.tx hne (v := .complex .f64 zr zm) (o' := i))
          have HTZ := hide (there_cell2 HM.out.tz (g' := gz) (v := .complex .f64 zr zm) (o' := i))
          have HBL := hide (HM.out.bel.setCell (p := ⟨gz, i, none⟩) (by show w.heap.size ≤ gz; omega) (.complex .f64 zr zm))
          have HTB := hide (show TabRow (wr.setCell ⟨gz, i, none⟩ (.complex .f64 zr zm)) w.heap.size k from tab_same HM.out.tab (Below.heap_setCell _ _ _ _ (by show w.heap.size ≠ gz; omega)))
          have hsx2 : gx < (wr.setCell ⟨gz, i, none⟩ (.complex .f64 zr zm)).heap.size := by simpa [World.setCell] using hsx
          have hsz2 : gz < (wr.setCell ⟨gz, i, none⟩ (.complex .f64 zr zm)).heap.size := by simpa [World.setCell] using hsz
          clear HM hce hv0 hf0 hq hz1 hz2 HZi
          generalize wr.setCell ⟨gz, i, none⟩ (.complex .f64 zr zm) = w3 at *
          refine sb_r12 w3 b off len cap gx gz n i (E0 i) (zr, zm) hlt hil HC12.out HE12.out HT12.out (Ne.symm hne) (by omega) _ _ _ _ _ _ _ _ _ _ _ _ _ _ _ _ _ _ _ _ _ _ _ _ _ _ _ _ _ _ _ _ _ _ _ _ _ _ _ _ _ _ _ _ _ _ _ _ _ _ _ _ _ _ _ _ _ _ _ _ _ _ _ _ _ _ _ _ _ _ _ _ _ _ _ _ _ _ _ _ _ _ _ _ _ _ _ _ _ _ _ _ _ _ _ _ _ _ _ _ _ _ _ _ _ _ _ _ _ _ _ _ _ _ _ _ _ _ _ _ _ _ _ _ _ _ _ _ _ _ _ _ _ _ _ _ _ _ _ _ _ _ _ _ _ _ _ _ _ _ _ _ _ _ _ _ _ _ _ _ _ _ _ _ _ _ _ _ _ _ _ _ _ _ _ _ _ _ _ _ _ ?_
          intro v60 v61 v62 v63 v64 v65 v66 v67 v68 v69 v70 v71 v72
          have HMn := hide (show MI w (w3.drew.setCells gx (i * 69) (cplx (zr, zm) :: wv (one68 (E0 i) 0))) gx gz w.heap.size k n (i + 1) (Zf E0) E0 from ⟨by have := HP12.out.put ((World.there_drew _ _ _ _).2 HT12.out) hEi; rw [HZ1.out] at this; exact this, World.there_setCells ((World.there_drew _ _ _ _).2 HTX.out) _ _ _, (HCR.out.same (w' := w3.drew) rfl).same (heap_setCells _ _ _ _ _ (Ne.symm hne)), World.there_setCells ((World.there_drew _ _ _ _).2 HTZ.out) _ _ _, below_cells HBL.out.drew _ _ (by omega), tab_same HTB.out (heap_setCells _ _ _ _ _ (by omega))⟩)
          have hsx3 : gx < (w3.drew.setCells gx (i * 69) (cplx (zr, zm) :: wv (one68 (E0 i) 0))).heap.size := by rw [size_setCells]; exact hsx2
          have hsz3 : gz < (w3.drew.setCells gx (i * 69) (cplx (zr, zm) :: wv (one68 (E0 i) 0))).heap.size := by rw [size_setCells]; exact hsz2
          clear HC12 HE12 HT12 HP12 HCR HTX HTZ HBL HTB hsx2 hsz2 HZ1
          generalize w3.drew.setCells gx (i * 69) (cplx (zr, zm) :: wv (one68 (E0 i) 0)) = w4 at *
          go_wp2_with fail
          go_roundw
          case rel => exact ⟨i + 1, by go_num, by omega, HMn, hsx3, hsz3⟩
          case measure => simp [intOf]; omega
        · have hdone : True := trivial
          clear hdone
          have hni : n = i := by omega
          subst hni
          have htr := HT.out
          have hSS := stage_s k t gx w.heap.size mo (Zf E0) E0 wr (by omega) hk (by omega) (by omega) hmo (by rw [HNk.out]; exact HM.out.pt) HM.out.tab hsx (by omega) (by omega) (fun i hi => ⟨flt_sm _ (by omega), flt_sm i (by rw [HNk.out] at hi; omega)⟩) (fun i hi => HE.out i (by rw [HNk.out] at hi; omega))
          rw [HNk.out, show t - 1 = r from by omega] at hSS
          have HSS := hide hSS
          have HCr := hide HM.out.cr
          have HTb := hide HM.out.tab
          have HBw := hide HM.out.bel
          clear hSS HM htr
          go_wp2_with fail
          refine (Hid.out HSS).mono ?_
          rintro e w4 ⟨rfl, hp4, hg4⟩
          have HP4 := hide hp4
          have HR4 := hide (HCr.out.same (hg4.block gz hsz (fun e => hne (Option.some.inj e).symm)))
          have HT4 := hide (show TabRow w4 w.heap.size k from tab_same HTb.out (hg4.block w.heap.size (by omega) (fun e => by have := Option.some.inj e; omega)))
          have HB4 := hide (HBw.out.grown hg4 HBw.out.size (fun q hq => by simp at hq; omega))
          have hs4x : gx < w4.heap.size := Nat.lt_of_lt_of_le hsx hg4.size
          have hs4z : gz < w4.heap.size := Nat.lt_of_lt_of_le hsz hg4.size
          clear hp4 hg4 HSS HCr HTb HBw hsx hsz
          have htr := HT.out
          have hFF := stage_f k t gz w.heap.size (Zf E0) w4 (by omega) hk (by omega) (by omega) (by rw [HNk.out]; exact HR4.out) HT4.out hs4z (by omega) (by omega) (fun i hi => ⟨flt_sm _ (by omega), flt_sm i (by rw [HNk.out] at hi; omega)⟩)
          rw [HNk.out, show t - 1 = r from by omega] at hFF
          have HFF := hide hFF
          clear hFF htr
          go_wp2_with fail
          refine (Hid.out HFF).mono ?_
          rintro e w5 ⟨rfl, hc5, hg5⟩
          have HR5 := hide hc5
          have HP5 := hide (HP4.out.same (hg5.block gx hs4x (fun e => hne (Option.some.inj e))))
          have HB5 := hide (HB4.out.grown hg5 HB4.out.size (fun q hq => by simp at hq; omega))
          have hs5x : gx < w5.heap.size := Nat.lt_of_lt_of_le hs4x hg5.size
          have hs5z : gz < w5.heap.size := Nat.lt_of_lt_of_le hs4z hg5.size
          have hs5w := HB5.out.size
          clear hc5 hg5 HFF HR4 HT4 HB4 HP4 hs4x hs4z
          have htr := HT.out
          have e1 : IntKind.u8.wrap ((t : Int) - 1) = (r : Int) := by rw [IntKind.wrap_u8]; omega
          have s1 := shl_p2 r (by omega)
          have hr62 : min r 64 = r := by omega
          have HH := hide (hf_p2 r (by omega))
          have HAM := hide (fun p (hp : p < 2048) => and_mod (r := r) (p := p) (by omega) hp)
          have HNS := hide (show n = 2 * p2 r * p2 (k - t) by rw [← HNk.out, Nat.mul_assoc, ← p2_add, ← p2_succ]; congr 1; omega)
          have hh0 := p2_pos r
          have hs0 := p2_pos (k - t)
          have HRt := hide (fun i (hi : i < p2 (k - 1)) => Fl.rt_ok k i (by omega) hk hi)
          have HKm := hide (show p2 (k - 1) = p2 r * p2 (k - t) by rw [← p2_add]; congr 1; omega)
          have HN2 := hide (show p2 k = 2 * p2 r * p2 (k - t) by rw [Nat.mul_assoc, ← p2_add, ← p2_succ]; congr 1; omega)
          generalize p2 r = h at *
          generalize p2 (k - t) = st at *
          have HN0 := hide (show n % (2 * h) = 0 by rw [HNS.out]; exact Nat.mul_mod_right _ _)
          have hhn : 2 * h ≤ n := by rw [HNS.out]; exact Nat.le_mul_of_pos_right _ hs0
          clear htr HT
          go_wp2_with fail
          rw [s1]
          clear e1 s1 hr62
          have HBl0 := hide (Below.refl w5.heap.size w5)
          go_loopw [14] (fun iv wr => ∃ i : Nat, iv = .int .i64 i ∧ i ≤ n ∧ Hid (Below w5.heap.size w5 wr)) (fun iv _ => n - (intOf iv).toNat)
          case atStart => exact ⟨0, rfl, Nat.zero_le _, HBl0⟩
          case round =>
            clear HBl0
            obtain ⟨i, rfl, hin, HBl⟩ := hrel
            have hbs := HBl.out.size
            by_cases hlt : i < n
            · obtain ⟨pp, HPP⟩ : ∃ pp, Hid (pp = pb h i) := ⟨_, rfl⟩
              have hpl : pp ≤ i := by rw [HPP.out]; exact pb_le i HH.out
              have hph : pp + h < n := by rw [HPP.out]; exact pb_lt HH.out HN0.out hlt
              have e1 : bits .andNot .i64 (i : Int) (h : Int) = (pp : Int) := by rw [HPP.out]; exact andNot_pb HH.out (by omega)
              obtain ⟨jj, HJJ⟩ : ∃ jj, Hid (jj = pp % h) := ⟨_, rfl⟩
              have e4 : bits .and .i64 (pp : Int) ((h : Int) - 1) = (jj : Int) := by rw [HJJ.out]; exact HAM.out pp (by omega)
              have hjh : jj < h := by rw [HJJ.out]; exact Nat.mod_lt _ hh0
              have hcv := (HBl.out.cell (p := ⟨b, off + (pp + h), none⟩) (by show b < _; omega)).trans ((HB5.out.cell (p := ⟨b, off + (pp + h), none⟩) hb).trans (HC.out (pp + h) (by omega)))
              have HCp := hide ((HBl.out.cell (p := ⟨b, off + pp, none⟩) (by show b < _; omega)).trans ((HB5.out.cell (p := ⟨b, off + pp, none⟩) hb).trans (HC.out pp (by omega))))
              have hvb := HE.out (pp + h) (by omega)
              have hub := HE.out pp (by omega)
              have hjm : i % h = jj := by rw [HJJ.out, HPP.out]; exact (pb_mod HH.out).1.symm
              have hqm : jj * st < p2 (k - 1) := by rw [HKm.out]; exact Nat.mul_lt_mul_of_pos_right hjh hs0
              have hpi := (HRt.out (jj * st) hqm).2.2
              rw [plain_iff HN2.out hs0] at hpi
              have HFE0 := hide (show FE k h st (mo * 4294967296 + 1) E0 i = jnd (E0 pp) (E0 (pp + h)) (mo * 4294967296 + 1) (jj == 0 || 2 * jj == h) by unfold FE; rw [← HPP.out, hjm, hpi])
              have HFb := hide (show FE k h st (mo * 4294967296 + 1) E0 i < 340282366920938463463374607431768211456 by rw [HFE0.out]; exact jnd_lt hub hvb (by omega))
              clear hjm hqm hpi
              generalize hvv : E0 (pp + h) = v at *
              generalize huu : E0 pp = u at *
              clear hvv huu
              obtain ⟨lo, HLo⟩ : ∃ lo, Hid (lo = v % 4294967296) := ⟨_, rfl⟩
              obtain ⟨hi0, HHi⟩ : ∃ hi0, Hid (hi0 = v / 4294967296) := ⟨_, rfl⟩
              have e2 : bits .and .u64 (v : Int) 4294967295 = (lo : Int) := by rw [HLo.out]; exact mask32 v hvb
              have e3 : (v : Int) / 4294967296 = (hi0 : Int) := by rw [HHi.out]; rfl
              have hlo : lo < 4294967296 := by rw [HLo.out]; exact Nat.mod_lt _ (by decide)
              have hhi : hi0 < 4294967296 := by rw [HHi.out]; omega
              obtain ⟨ow, HOw⟩ : ∃ ow, Hid (ow = mo * 4294967296 % 18446744073709551616) := ⟨_, rfl⟩
              have e5 : IntKind.u64.wrap ((mo : Int) * 4294967296) = (ow : Int) := by rw [HOw.out, IntKind.wrap_u64]; omega
              obtain ⟨x3, HX3⟩ : ∃ x3, Hid (x3 = mo / 4294967296) := ⟨_, rfl⟩
              have e6 : (mo : Int) / 4294967296 = (x3 : Int) := by rw [HX3.out]; rfl
              have HZo := hide (show AccOf (one68 ow x3) ((mo * 4294967296 : Nat) : Int) by have := one68_acc ow x3 (by rw [HOw.out]; omega) (by rw [HX3.out]; omega); rwa [show ow + 18446744073709551616 * x3 = mo * 4294967296 from by rw [HOw.out, HX3.out]; omega] at this)
              clear HOw HX3
              by_cases hj0 : jj = 0
              · have c1 : ((jj : Int) == 0) = true := by simpa using hj0
                have HFE := hide (show FE k h st (mo * 4294967296 + 1) E0 i = v + u + (mo * 4294967296 + 1) by rw [HFE0.out]; unfold jnd; simp [hj0])
                obtain ⟨x1, HX1⟩ : ∃ x1, Hid (x1 = hi0 * 4294967296 % 18446744073709551616) := ⟨_, rfl⟩
                obtain ⟨x2, HX2⟩ : ∃ x2, Hid (x2 = hi0 / 4294967296) := ⟨_, rfl⟩
                have hTB : lo < 18446744073709551616 := by omega
                have hval : lo + hi0 * 4294967296 = v := by rw [HLo.out, HHi.out]; omega
                clear HFE0
                have t1 : IntKind.u64.wrap ((hi0 : Int) * 4294967296) = (x1 : Int) := by rw [HX1.out, IntKind.wrap_u64]; omega
                have t2 : (hi0 : Int) / 4294967296 = (x2 : Int) := by rw [HX2.out]; rfl
                have b1 := zset_one lo
                have b2 := zset_two x1 x2
                have b3 := zset_one u
                have b4 := zset_two ow x3
                have b5 : Talg.zeroCells31.setIfInBounds 0 (.int .u64 1) = accArr (one68 1 0) := zset_one 1
                have HN1 := hide (AccB.new wr)
                have HZ1 := hide (acc_one lo hTB)
                have HZ2 := hide (show AccOf (one68 x1 x2) ((hi0 * 4294967296 : Nat) : Int) by have := one68_acc x1 x2 (by rw [HX1.out]; omega) (by rw [HX2.out]; omega); rwa [show x1 + 18446744073709551616 * x2 = hi0 * 4294967296 from by rw [HX1.out, HX2.out]; omega] at this)
                have hc5 : ∀ wx : World, Below wr.heap.size wr wx → wx.cell? ⟨b, off + pp, none⟩ = some (.int .u64 (u : Int)) := fun wx hx => (hx.cell (p := ⟨b, off + pp, none⟩) (by show b < _; omega)).trans HCp.out
                have HC5 := hide hc5
                clear hc5 HX1 HX2
                go_wp2_with (refine wpList_store_row rfl 31 _ _ rfl wr.heap.size (accArr (one68 lo 0)) rfl rfl 31 (accArr zeros68) HN1.out.heap (by rw [accArr_size, one68_len]; exact acc_info) (by rw [accArr_size, accArr_size, one68_len]; rfl) (accArr_one _) ?_)
                have HW6 := hide (HN1.out.setRow (one68 lo 0))
                have HB6 := hide (((Below.refl wr.heap.size wr).alloc (Nat.le_refl _) (.cells Talg.zeroCells31 31)).grown (gb_setRow _ wr.heap.size (accArr (one68 lo 0))) (by simp) (fun q hq => by simp at hq; omega))
                have hs6 : ((wr.alloc (.cells Talg.zeroCells31 31)).setRow wr.heap.size (accArr (one68 lo 0))).heap.size = wr.heap.size + 1 := by simp
                clear HN1
                generalize (wr.alloc (.cells Talg.zeroCells31 31)).setRow wr.heap.size (accArr (one68 lo 0)) = w6 at *
                rw [← hs6]
                clear hs6
                refine (addBox_any wr.heap.size _ _ _ _ w6 HW6.out HZ1.out HZ2.out).mono ?_
                rintro e w7 ⟨rfl, a7, hA7, hz7, hb7⟩
                have HW7 := hide hA7
                have HZ7 := hide hz7
                have HB7 := hide (HB6.out.trans hb7)
                have hcp7 := HC5.out _ HB7.out
                clear hA7 hz7 hb7 HW6 HB6 HZ1 HZ2
                go_wp2_with fail
                refine (addBox_any wr.heap.size _ _ _ _ w7 HW7.out HZ7.out (acc_one u hub)).mono ?_
                rintro e w8 ⟨rfl, a8, hA8, hz8, hb8⟩
                have HW8 := hide hA8
                have HZ8 := hide hz8
                have HB8 := hide (HB7.out.trans hb8)
                clear hA8 hz8 hb8 HW7 HB7 HZ7 hcp7
                go_wp2_with fail
                refine (addBox_any wr.heap.size _ _ _ _ w8 HW8.out HZ8.out HZo.out).mono ?_
                rintro e w9 ⟨rfl, a9, hA9, hz9, hb9⟩
                have HW9 := hide hA9
                have HZ9 := hide hz9
                have HB9 := hide (HB8.out.trans hb9)
                clear hA9 hz9 hb9 HW8 HB8 HZ8
                go_wp2_with fail
                refine (addBox_any wr.heap.size _ _ _ _ w9 HW9.out HZ9.out (acc_one 1 (by omega))).mono ?_
                rintro e w10 ⟨rfl, a10, hA10, hz10, hb10⟩
                have hsum : ((lo : Nat) : Int) + ((hi0 * 4294967296 : Nat) : Int) + (u : Int) + ((mo * 4294967296 : Nat) : Int) + ((1 : Nat) : Int) = ((FE k h st (mo * 4294967296 + 1) E0 i : Nat) : Int) := by rw [HFE.out]; omega
                rw [hsum] at hz10
                have hae := ew_of hz10 HFb.out
                subst hae
                have HW10 := hide hA10
                have HB10 := hide (HB9.out.trans hb10)
                clear hA10 hz10 hb10 HW9 HB9 HZ9 hsum HC5
                go_wp2_with fail
                have HB10w := hide (HBl.out.trans (HB10.out.mono (by omega)))
                have HP10 := hide (HP5.out.same (HB10w.out.block gx (by omega)))
                have HR10 := hide (HR5.out.same (HB10w.out.block gz (by omega)))
                have hL1 := load_mid (HP10.out.e i hlt) (ew_len _)
                have hL2 := load_mid (acc_range HW10.out) (ew_len _)
                refine sb_r33 w10 gx gz wr.heap.size n i (FZ k h st (Zf E0) i) (accArr (ew (FE k h st (mo * 4294967296 + 1) E0 i))) hlt hL1 hL2 (fun wx => by rw [neq_acc _ _ (ew_len _) (ew_len _)]; simp) (HP10.out.z i hlt) (HR10.out.z i hlt) _ _ _ _ _ _ _ _ _ _ _ _ _ _ _ _ _ _ _ _ _ _ _ _ _ _ _ _ _ _ _ _ _ _ _ _ _ _ _ _ _ _ _ _ _ _ _ _ _ _ _ _ _ _ _ _ _ _ _ _ _ _ _ _ _ _ _ _ _ _ _ _ _ _ _ _ _ _ _ _ _ _ _ _ _ _ _ _ _ _ _ _ _ _ _ _ _ _ _ _ _ _ _ _ _ _ _ _ _ _ _ _ _ _ _ _ _ _ _ _ _ _ _ _ _ _ _ _ _ _ _ _ _ _ _ _ _ _ _ _ _ _ _ _ _ _ _ _ _ _ _ _ _ _ _ _ _ _ _ _ _ _ _ _ _ _ _ _ _ _ _ _ _ _ _ _ _ _ _ _ _ ?_
                intro v157 v158 v159 v160 v161 v162 v163 v164 v165 v166 v167 v168 v169 v170 v171 v172 v173 v174 v175 v176 v177 v178 v179 v180 v181 v182 v183 nd
                have HBn := hide (Below.drewN HB10w.out nd)
                clear HB10w HP10 HR10 HW10 HB10 hL1 hL2
                generalize w10.drewN nd = w11 at *
                go_wp2_with fail
                go_roundw
                case rel => exact ⟨i + 1, by go_num, by omega, HBn⟩
                case measure => simp [intOf]; omega
              · have c1 : ((jj : Int) == 0) = false := by simpa using hj0
                by_cases hj2 : 2 * jj = h
                · have c2 : (2 * (jj : Int) == (h : Int)) = true := by simp; omega
                  have c3 : 2 * (jj : Int) = (h : Int) := by omega
                  have HFE := hide (show FE k h st (mo * 4294967296 + 1) E0 i = v + u + (mo * 4294967296 + 1) by rw [HFE0.out]; unfold jnd; simp [hj2])
                  obtain ⟨x1, HX1⟩ : ∃ x1, Hid (x1 = hi0 * 4294967296 % 18446744073709551616) := ⟨_, rfl⟩
                  obtain ⟨x2, HX2⟩ : ∃ x2, Hid (x2 = hi0 / 4294967296) := ⟨_, rfl⟩
                  have hTB : lo < 18446744073709551616 := by omega
                  have hval : lo + hi0 * 4294967296 = v := by rw [HLo.out, HHi.out]; omega
                  clear HFE0
                  have t1 : IntKind.u64.wrap ((hi0 : Int) * 4294967296) = (x1 : Int) := by rw [HX1.out, IntKind.wrap_u64]; omega
                  have t2 : (hi0 : Int) / 4294967296 = (x2 : Int) := by rw [HX2.out]; rfl
                  have b1 := zset_one lo
                  have b2 := zset_two x1 x2
                  have b3 := zset_one u
                  have b4 := zset_two ow x3
                  have b5 : Talg.zeroCells31.setIfInBounds 0 (.int .u64 1) = accArr (one68 1 0) := zset_one 1
                  have HN1 := hide (AccB.new wr)
                  have HZ1 := hide (acc_one lo hTB)
                  have HZ2 := hide (show AccOf (one68 x1 x2) ((hi0 * 4294967296 : Nat) : Int) by have := one68_acc x1 x2 (by rw [HX1.out]; omega) (by rw [HX2.out]; omega); rwa [show x1 + 18446744073709551616 * x2 = hi0 * 4294967296 from by rw [HX1.out, HX2.out]; omega] at this)
                  have hc5 : ∀ wx : World, Below wr.heap.size wr wx → wx.cell? ⟨b, off + pp, none⟩ = some (.int .u64 (u : Int)) := fun wx hx => (hx.cell (p := ⟨b, off + pp, none⟩) (by show b < _; omega)).trans HCp.out
                  have HC5 := hide hc5
                  clear hc5 HX1 HX2
                  go_wp2_with (refine wpList_store_row rfl 31 _ _ rfl wr.heap.size (accArr (one68 lo 0)) rfl rfl 31 (accArr zeros68) HN1.out.heap (by rw [accArr_size, one68_len]; exact acc_info) (by rw [accArr_size, accArr_size, one68_len]; rfl) (accArr_one _) ?_)
                  have HW6 := hide (HN1.out.setRow (one68 lo 0))
                  have HB6 := hide (((Below.refl wr.heap.size wr).alloc (Nat.le_refl _) (.cells Talg.zeroCells31 31)).grown (gb_setRow _ wr.heap.size (accArr (one68 lo 0))) (by simp) (fun q hq => by simp at hq; omega))
                  have hs6 : ((wr.alloc (.cells Talg.zeroCells31 31)).setRow wr.heap.size (accArr (one68 lo 0))).heap.size = wr.heap.size + 1 := by simp
                  clear HN1
                  generalize (wr.alloc (.cells Talg.zeroCells31 31)).setRow wr.heap.size (accArr (one68 lo 0)) = w6 at *
                  rw [← hs6]
                  clear hs6
                  refine (addBox_any wr.heap.size _ _ _ _ w6 HW6.out HZ1.out HZ2.out).mono ?_
                  rintro e w7 ⟨rfl, a7, hA7, hz7, hb7⟩
                  have HW7 := hide hA7
                  have HZ7 := hide hz7
                  have HB7 := hide (HB6.out.trans hb7)
                  have hcp7 := HC5.out _ HB7.out
                  clear hA7 hz7 hb7 HW6 HB6 HZ1 HZ2
                  go_wp2_with fail
                  refine (addBox_any wr.heap.size _ _ _ _ w7 HW7.out HZ7.out (acc_one u hub)).mono ?_
                  rintro e w8 ⟨rfl, a8, hA8, hz8, hb8⟩
                  have HW8 := hide hA8
                  have HZ8 := hide hz8
                  have HB8 := hide (HB7.out.trans hb8)
                  clear hA8 hz8 hb8 HW7 HB7 HZ7 hcp7
                  go_wp2_with fail
                  refine (addBox_any wr.heap.size _ _ _ _ w8 HW8.out HZ8.out HZo.out).mono ?_
                  rintro e w9 ⟨rfl, a9, hA9, hz9, hb9⟩
                  have HW9 := hide hA9
                  have HZ9 := hide hz9
                  have HB9 := hide (HB8.out.trans hb9)
                  clear hA9 hz9 hb9 HW8 HB8 HZ8
                  go_wp2_with fail
                  refine (addBox_any wr.heap.size _ _ _ _ w9 HW9.out HZ9.out (acc_one 1 (by omega))).mono ?_
                  rintro e w10 ⟨rfl, a10, hA10, hz10, hb10⟩
                  have hsum : ((lo : Nat) : Int) + ((hi0 * 4294967296 : Nat) : Int) + (u : Int) + ((mo * 4294967296 : Nat) : Int) + ((1 : Nat) : Int) = ((FE k h st (mo * 4294967296 + 1) E0 i : Nat) : Int) := by rw [HFE.out]; omega
                  rw [hsum] at hz10
                  have hae := ew_of hz10 HFb.out
                  subst hae
                  have HW10 := hide hA10
                  have HB10 := hide (HB9.out.trans hb10)
                  clear hA10 hz10 hb10 HW9 HB9 HZ9 hsum HC5
                  go_wp2_with fail
                  have HB10w := hide (HBl.out.trans (HB10.out.mono (by omega)))
                  have HP10 := hide (HP5.out.same (HB10w.out.block gx (by omega)))
                  have HR10 := hide (HR5.out.same (HB10w.out.block gz (by omega)))
                  have hL1 := load_mid (HP10.out.e i hlt) (ew_len _)
                  have hL2 := load_mid (acc_range HW10.out) (ew_len _)
                  refine sb_r33 w10 gx gz wr.heap.size n i (FZ k h st (Zf E0) i) (accArr (ew (FE k h st (mo * 4294967296 + 1) E0 i))) hlt hL1 hL2 (fun wx => by rw [neq_acc _ _ (ew_len _) (ew_len _)]; simp) (HP10.out.z i hlt) (HR10.out.z i hlt) _ _ _ _ _ _ _ _ _ _ _ _ _ _ _ _ _ _ _ _ _ _ _ _ _ _ _ _ _ _ _ _ _ _ _ _ _ _ _ _ _ _ _ _ _ _ _ _ _ _ _ _ _ _ _ _ _ _ _ _ _ _ _ _ _ _ _ _ _ _ _ _ _ _ _ _ _ _ _ _ _ _ _ _ _ _ _ _ _ _ _ _ _ _ _ _ _ _ _ _ _ _ _ _ _ _ _ _ _ _ _ _ _ _ _ _ _ _ _ _ _ _ _ _ _ _ _ _ _ _ _ _ _ _ _ _ _ _ _ _ _ _ _ _ _ _ _ _ _ _ _ _ _ _ _ _ _ _ _ _ _ _ _ _ _ _ _ _ _ _ _ _ _ _ _ _ _ _ _ _ _ ?_
                  intro v157 v158 v159 v160 v161 v162 v163 v164 v165 v166 v167 v168 v169 v170 v171 v172 v173 v174 v175 v176 v177 v178 v179 v180 v181 v182 v183 nd
                  have HBn := hide (Below.drewN HB10w.out nd)
                  clear HB10w HP10 HR10 HW10 HB10 hL1 hL2
                  generalize w10.drewN nd = w11 at *
                  go_wp2_with fail
                  go_roundw
                  case rel => exact ⟨i + 1, by go_num, by omega, HBn⟩
                  case measure => simp [intOf]; omega
                · have c2 : (2 * (jj : Int) == (h : Int)) = false := by simp; omega
                  have c3 : ¬ 2 * (jj : Int) = (h : Int) := by omega
                  have HFE := hide (show FE k h st (mo * 4294967296 + 1) E0 i = spr v + u + (mo * 4294967296 + 1) by rw [HFE0.out]; unfold jnd; simp [hj0, hj2])
                  have c4 : ((jj : Int) != 0) = true := by simp; omega
                  have c5 : (2 * (jj : Int) != (h : Int)) = true := by simp; omega
                  obtain ⟨m1, HM1⟩ : ∃ x, Hid (x = lo * 23171) := ⟨_, rfl⟩
                  obtain ⟨m2, HM2⟩ : ∃ x, Hid (x = m1 + 16384) := ⟨_, rfl⟩
                  obtain ⟨m3, HM3⟩ : ∃ x, Hid (x = m2 - 1) := ⟨_, rfl⟩
                  obtain ⟨g1, HG1⟩ : ∃ x, Hid (x = hi0 * 23171) := ⟨_, rfl⟩
                  obtain ⟨g2, HG2⟩ : ∃ x, Hid (x = g1 % 16384) := ⟨_, rfl⟩
                  obtain ⟨g3, HG3⟩ : ∃ x, Hid (x = g2 * 4294967296) := ⟨_, rfl⟩
                  obtain ⟨m4, HM4⟩ : ∃ x, Hid (x = m3 + g3) := ⟨_, rfl⟩
                  obtain ⟨LO, HLO⟩ : ∃ x, Hid (x = m4 / 16384) := ⟨_, rfl⟩
                  obtain ⟨HI, HHI⟩ : ∃ x, Hid (x = g1 / 16384) := ⟨_, rfl⟩
                  have a1 : IntKind.u64.wrap ((lo : Int) * 23171) = (m1 : Int) := by rw [HM1.out, IntKind.wrap_u64]; omega
                  have a1' : (lo : Int) * 23171 = (m1 : Int) := by rw [HM1.out]; omega
                  have hm1 : m1 < 140737488355328 := by rw [HM1.out]; omega
                  have a2 : IntKind.u64.wrap ((m1 : Int) + 16384) = (m2 : Int) := by rw [HM2.out, IntKind.wrap_u64]; omega
                  have a2' : (m1 : Int) + 16384 = (m2 : Int) := by rw [HM2.out]; omega
                  have hm2 : m2 = m1 + 16384 := HM2.out
                  have a3 : IntKind.u64.wrap ((m2 : Int) - 1) = (m3 : Int) := by rw [HM3.out, IntKind.wrap_u64]; omega
                  have a3' : (m2 : Int) - 1 = (m3 : Int) := by rw [HM3.out]; omega
                  have hm3 : m3 = m2 - 1 := HM3.out
                  have a4 : IntKind.u64.wrap ((hi0 : Int) * 23171) = (g1 : Int) := by rw [HG1.out, IntKind.wrap_u64]; omega
                  have a4' : (hi0 : Int) * 23171 = (g1 : Int) := by rw [HG1.out]; omega
                  have hg1 : g1 < 140737488355328 := by rw [HG1.out]; omega
                  have a5 : bits .and .u64 (g1 : Int) 16383 = (g2 : Int) := by rw [HG2.out]; exact mask14 g1 (by omega)
                  have hg2 : g2 < 16384 := by rw [HG2.out]; exact Nat.mod_lt _ (by decide)
                  have a6 : IntKind.u64.wrap ((g2 : Int) * 4294967296) = (g3 : Int) := by rw [HG3.out, IntKind.wrap_u64]; omega
                  have a6' : (g2 : Int) * 4294967296 = (g3 : Int) := by rw [HG3.out]; omega
                  have hg3 : g3 = g2 * 4294967296 := HG3.out
                  have a7 : IntKind.u64.wrap ((m3 : Int) + (g3 : Int)) = (m4 : Int) := by rw [HM4.out, IntKind.wrap_u64]; omega
                  have a8 : (m4 : Int) / 16384 = (LO : Int) := by rw [HLO.out]; rfl
                  have a9 : (g1 : Int) / 16384 = (HI : Int) := by rw [HHI.out]; rfl
                  have a7' : (m3 : Int) + (g3 : Int) = (m4 : Int) := by rw [HM4.out]; omega
                  have hm4 : m4 = m3 + g3 := HM4.out
                  have hm4b : m4 < 18446744073709551616 := by omega
                  have hg3b : g3 < 18446744073709551616 := by omega
                  have hm3b : m3 < 18446744073709551616 := by omega
                  have hm2b : m2 < 18446744073709551616 := by omega
                  have hTB : LO < 18446744073709551616 := by rw [HLO.out]; omega
                  have hHI : HI < 18446744073709551616 := by rw [HHI.out]; omega
                  have hval : LO + HI * 4294967296 = spr v := by
                    rw [← want_spr v hvb, HLO.out, HHI.out, hm4, hm3, hm2, hg3, HG2.out, HG1.out, HM1.out, HLo.out, HHi.out]
                    congr 3
                  clear hm2 hm3 hg3 hm4 HFE0
                  obtain ⟨x1, HX1⟩ : ∃ x1, Hid (x1 = HI * 4294967296 % 18446744073709551616) := ⟨_, rfl⟩
                  obtain ⟨x2, HX2⟩ : ∃ x2, Hid (x2 = HI / 4294967296) := ⟨_, rfl⟩
                  have t1 : IntKind.u64.wrap ((HI : Int) * 4294967296) = (x1 : Int) := by rw [HX1.out, IntKind.wrap_u64]; omega
                  have t2 : (HI : Int) / 4294967296 = (x2 : Int) := by rw [HX2.out]; rfl
                  have b1 := zset_one LO
                  have b2 := zset_two x1 x2
                  have b3 := zset_one u
                  have b4 := zset_two ow x3
                  have b5 : Talg.zeroCells31.setIfInBounds 0 (.int .u64 1) = accArr (one68 1 0) := zset_one 1
                  have HN1 := hide (AccB.new wr)
                  have HZ1 := hide (acc_one LO hTB)
                  have HZ2 := hide (show AccOf (one68 x1 x2) ((HI * 4294967296 : Nat) : Int) by have := one68_acc x1 x2 (by rw [HX1.out]; omega) (by rw [HX2.out]; omega); rwa [show x1 + 18446744073709551616 * x2 = HI * 4294967296 from by rw [HX1.out, HX2.out]; omega] at this)
                  have hc5 : ∀ wx : World, Below wr.heap.size wr wx → wx.cell? ⟨b, off + pp, none⟩ = some (.int .u64 (u : Int)) := fun wx hx => (hx.cell (p := ⟨b, off + pp, none⟩) (by show b < _; omega)).trans HCp.out
                  have HC5 := hide hc5
                  clear hc5 HX1 HX2
                  go_wp2_with (refine wpList_store_row rfl 31 _ _ rfl wr.heap.size (accArr (one68 LO 0)) rfl rfl 31 (accArr zeros68) HN1.out.heap (by rw [accArr_size, one68_len]; exact acc_info) (by rw [accArr_size, accArr_size, one68_len]; rfl) (accArr_one _) ?_)
                  have HW6 := hide (HN1.out.setRow (one68 LO 0))
                  have HB6 := hide (((Below.refl wr.heap.size wr).alloc (Nat.le_refl _) (.cells Talg.zeroCells31 31)).grown (gb_setRow _ wr.heap.size (accArr (one68 LO 0))) (by simp) (fun q hq => by simp at hq; omega))
                  have hs6 : ((wr.alloc (.cells Talg.zeroCells31 31)).setRow wr.heap.size (accArr (one68 LO 0))).heap.size = wr.heap.size + 1 := by simp
                  clear HN1
                  generalize (wr.alloc (.cells Talg.zeroCells31 31)).setRow wr.heap.size (accArr (one68 LO 0)) = w6 at *
                  rw [← hs6]
                  clear hs6
                  refine (addBox_any wr.heap.size _ _ _ _ w6 HW6.out HZ1.out HZ2.out).mono ?_
                  rintro e w7 ⟨rfl, a7, hA7, hz7, hb7⟩
                  have HW7 := hide hA7
                  have HZ7 := hide hz7
                  have HB7 := hide (HB6.out.trans hb7)
                  have hcp7 := HC5.out _ HB7.out
                  clear hA7 hz7 hb7 HW6 HB6 HZ1 HZ2
                  go_wp2_with fail
                  refine (addBox_any wr.heap.size _ _ _ _ w7 HW7.out HZ7.out (acc_one u hub)).mono ?_
                  rintro e w8 ⟨rfl, a8, hA8, hz8, hb8⟩
                  have HW8 := hide hA8
                  have HZ8 := hide hz8
                  have HB8 := hide (HB7.out.trans hb8)
                  clear hA8 hz8 hb8 HW7 HB7 HZ7 hcp7
                  go_wp2_with fail
                  refine (addBox_any wr.heap.size _ _ _ _ w8 HW8.out HZ8.out HZo.out).mono ?_
                  rintro e w9 ⟨rfl, a9, hA9, hz9, hb9⟩
                  have HW9 := hide hA9
                  have HZ9 := hide hz9
                  have HB9 := hide (HB8.out.trans hb9)
                  clear hA9 hz9 hb9 HW8 HB8 HZ8
                  go_wp2_with fail
                  refine (addBox_any wr.heap.size _ _ _ _ w9 HW9.out HZ9.out (acc_one 1 (by omega))).mono ?_
                  rintro e w10 ⟨rfl, a10, hA10, hz10, hb10⟩
                  have hsum : ((LO : Nat) : Int) + ((HI * 4294967296 : Nat) : Int) + (u : Int) + ((mo * 4294967296 : Nat) : Int) + ((1 : Nat) : Int) = ((FE k h st (mo * 4294967296 + 1) E0 i : Nat) : Int) := by rw [HFE.out]; omega
                  rw [hsum] at hz10
                  have hae := ew_of hz10 HFb.out
                  subst hae
                  have HW10 := hide hA10
                  have HB10 := hide (HB9.out.trans hb10)
                  clear hA10 hz10 hb10 HW9 HB9 HZ9 hsum HC5
                  go_wp2_with fail
                  have HB10w := hide (HBl.out.trans (HB10.out.mono (by omega)))
                  have HP10 := hide (HP5.out.same (HB10w.out.block gx (by omega)))
                  have HR10 := hide (HR5.out.same (HB10w.out.block gz (by omega)))
                  have hL1 := load_mid (HP10.out.e i hlt) (ew_len _)
                  have hL2 := load_mid (acc_range HW10.out) (ew_len _)
                  refine sb_r33 w10 gx gz wr.heap.size n i (FZ k h st (Zf E0) i) (accArr (ew (FE k h st (mo * 4294967296 + 1) E0 i))) hlt hL1 hL2 (fun wx => by rw [neq_acc _ _ (ew_len _) (ew_len _)]; simp) (HP10.out.z i hlt) (HR10.out.z i hlt) _ _ _ _ _ _ _ _ _ _ _ _ _ _ _ _ _ _ _ _ _ _ _ _ _ _ _ _ _ _ _ _ _ _ _ _ _ _ _ _ _ _ _ _ _ _ _ _ _ _ _ _ _ _ _ _ _ _ _ _ _ _ _ _ _ _ _ _ _ _ _ _ _ _ _ _ _ _ _ _ _ _ _ _ _ _ _ _ _ _ _ _ _ _ _ _ _ _ _ _ _ _ _ _ _ _ _ _ _ _ _ _ _ _ _ _ _ _ _ _ _ _ _ _ _ _ _ _ _ _ _ _ _ _ _ _ _ _ _ _ _ _ _ _ _ _ _ _ _ _ _ _ _ _ _ _ _ _ _ _ _ _ _ _ _ _ _ _ _ _ _ _ _ _ _ _ _ _ _ _ _ ?_
                  intro v157 v158 v159 v160 v161 v162 v163 v164 v165 v166 v167 v168 v169 v170 v171 v172 v173 v174 v175 v176 v177 v178 v179 v180 v181 v182 v183 nd
                  have HBn := hide (Below.drewN HB10w.out nd)
                  clear HB10w HP10 HR10 HW10 HB10 hL1 hL2
                  generalize w10.drewN nd = w11 at *
                  go_wp2_with fail
                  go_roundw
                  case rel => exact ⟨i + 1, by go_num, by omega, HBn⟩
                  case measure => simp [intOf]; omega
            · go_wp2_with fail
              go_ret
              exact ⟨rfl, HB5.out.trans (HBl.out.mono (by omega))⟩
end Go.Proofs.Ygctal
