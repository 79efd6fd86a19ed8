import Derived.Test.YgctalDoorLRa
import Derived.BigQuiet
import Derived.BigRegion
namespace Go.Proofs.YgctalDoor
open Go.RowKit
set_option maxHeartbeats 4000000
set_option linter.unusedVariables false
attribute [local go_sem] run_store_float

/-! ExactForgetsOrder: Exact and Fsum are unchanged when two terms change places. -/
def swp (fs : List Nat) (p q : Nat) : List Nat := (fs.set p (fs.getD q 0)).set q (fs.getD p 0)
/-- The function f answers a word of which R tells. -/
def Ans (R : Nat → Prop) (f g : Nat) (fs : List Nat) : Prop :=
  ∀ w : World, FR w g 0 fs → g < w.heap.size → Tab w → Calls Talg.prog f #[.slice (some ⟨g, 0, none⟩) fs.length fs.length] w fun e w' => ∃ x, R x ∧ e = .returned (.float .f64 x) ∧ Below w.heap.size w w'

set_option maxRecDepth 100000 in
theorem exactForgets_at (R : Nat → Prop) (a0 : Option Addr) (len0 cap0 : Nat) (i j : Nat) (hi : i < 65536) (hj : j < 65536) (fs : List Nat) (w : World)
    (HF : Hid (FloatsLeft w a0 len0 cap0 1024 fs)) (hT : Tab w) (hn0 : 0 < fs.length) (hn : fs.length ≤ 1024)
    (h1 : Ans R 13 w.heap.size fs) (h2 : Ans R 12 w.heap.size fs)
    (h3 : Ans R 13 w.heap.size (swp fs (i % fs.length) (j % fs.length))) (h4 : Ans R 12 w.heap.size (swp fs (i % fs.length) (j % fs.length)))
    (hS : ∀ x y, R x → R y → ∀ w, Calls Talg.prog 10 #[.float .f64 x, .float .f64 y] w fun e w' => e = .returned (.bool true) ∧ w' = w) :
    Calls Talg.prog 4 #[.slice a0 len0 cap0, .int .u16 (i : Int), .int .u16 (j : Int)] w fun e w' => e = .returned (.bool true) ∧ Below w.heap.size w w' := by
  have HT := hide hT
  have H1 := hide h1
  have H2 := hide h2
  have H3 := hide h3
  have H4 := hide h4
  have HS := hide hS
  clear hT h1 h2 h3 h4 hS
  have hne : ((fs.length : Int) == 0) = false := by simpa using (show ¬ fs.length = 0 by omega)
  go_enter Talg.func4, Talg.ntmps4
  go_wp2_with fail
  refine (Hid.out HF).mono ?_
  rintro e w1 ⟨rfl, hB, hbel⟩
  have hlt := hB.lt
  have HB := hide hB
  have HBel := hide hbel
  clear hB hbel
  go_wp2_with fail
  refine (H1.out _ HB.out.fr hlt (HT.out.below HBel.out)).mono ?_
  rintro e w2 ⟨x, hx, rfl, hb2⟩
  have Hx := hide hx
  have hlt2 : w.heap.size < w2.heap.size := by have := hb2.size; omega
  have HB2 := hide (HB.out.below hb2 hlt)
  have HBel2 := hide (HBel.out.trans (hb2.mono (by omega)))
  clear hb2 hx HB HBel
  go_wp2_with fail
  refine (H2.out _ HB2.out.fr hlt2 (HT.out.below HBel2.out)).mono ?_
  rintro e w3 ⟨y, hy, rfl, hb3⟩
  have Hy := hide hy
  have hlt3 : w.heap.size < w3.heap.size := by have := hb3.size; omega
  have HB3 := hide (HB2.out.below hb3 hlt2)
  have HBel3 := hide (HBel2.out.trans (hb3.mono (by omega)))
  clear hb3 hy HB2 HBel2
  go_wp2_with fail
  go_quiet (fail)
  go_wp2_with fail
  have HB4 := hide (HB3.out.drewN nq)
  have HBel4 := hide (Below.drewN HBel3.out nq)
  clear HB3 HBel3
  have hlt4 : w.heap.size < (w3.drewN nq).heap.size := hlt3
  generalize w3.drewN nq = w4 at HB4 HBel4 hlt4 ⊢
  have ei : (i : Int) % (fs.length : Int) = ((i % fs.length : Nat) : Int) := rfl
  have ej : (j : Int) % (fs.length : Int) = ((j % fs.length : Nat) : Int) := rfl
  rw [ei, ej]
  have hp : i % fs.length < fs.length := Nat.mod_lt _ hn0
  have hq : j % fs.length < fs.length := Nat.mod_lt _ hn0
  clear ei ej
  generalize i % fs.length = p at *
  generalize j % fs.length = q at *
  have HLn := hide (show (swp fs p q).length = fs.length by simp [swp])
  have HSw := hide (show Blk ((w4.setCell ⟨w.heap.size, p, none⟩ (.float .f64 (fs.getD q 0))).setCell ⟨w.heap.size, q, none⟩ (.float .f64 (fs.getD p 0))) w.heap.size 30 ((swp fs p q).map (.float .f64)) by
    have := (HB4.out.set p (.float .f64 (fs.getD q 0))).set q (.float .f64 (fs.getD p 0))
    simpa [swp, List.map_set] using this)
  have HBel5 := hide ((HBel4.out.setCell (p := ⟨w.heap.size, p, none⟩) (Nat.le_refl _) (.float .f64 (fs.getD q 0))).setCell (p := ⟨w.heap.size, q, none⟩) (Nat.le_refl _) (.float .f64 (fs.getD p 0)))
  have cp := HB4.out.fr p hp
  have cq := HB4.out.fr q hq
  rw [Nat.zero_add] at cp cq
  have fp := HB4.out.free p
  have fq := HB4.out.free q
  have jp : (p : Int) < (fs.length : Int) := by omega
  have jq : (q : Int) < (fs.length : Int) := by omega
  have HT5 := hide (HT.out.below HBel5.out.drew)
  have hlt5 : w.heap.size < (((w4.setCell ⟨w.heap.size, p, none⟩ (.float .f64 (fs.getD q 0))).setCell ⟨w.heap.size, q, none⟩ (.float .f64 (fs.getD p 0))).drew).heap.size := HSw.out.lt
  have HSw5 := hide HSw.out.drew
  have HBel6 := hide HBel5.out.drew
  clear HB4 HBel4 HF H1 H2 HT hlt hlt2 hlt3 hlt4 hi hj hne HSw HBel5
  generalize swp fs p q = ss at *
  generalize fs.getD p 0 = u at *
  generalize fs.getD q 0 = v at *
  generalize fs.length = n at *
  obtain rfl := HLn.out
  clear HLn
  generalize hg : w.heap.size = g at *
  have HG := hide hg
  clear hg
  have cut : ∀ W : World, W = ((w4.setCell ⟨g, p, none⟩ (.float .f64 v)).setCell ⟨g, q, none⟩ (.float .f64 u)).drew → Hid (Tab W) ∧ g < W.heap.size ∧ Hid (Blk W g 30 (ss.map (.float .f64))) ∧ Hid (Below g w W) := by
    rintro W rfl
    exact ⟨HT5, hlt5, HSw5, HBel6⟩
  clear HT5 hlt5 HSw5 HBel6
  by_cases hpq : p = q
  · subst hpq
    obtain rfl : u = v := by simpa using cp.symm.trans cq
    go_region
    obtain ⟨HT5, hlt5, HSw5, HBel6⟩ := cut _ rfl
    clear cut
    generalize ((w4.setCell ⟨g, p, none⟩ (.float .f64 u)).setCell ⟨g, p, none⟩ (.float .f64 u)).drew = W at *
    go_wp2_with fail
    refine (H3.out _ HSw5.out.fr hlt5 HT5.out).mono ?_
    rintro e w6 ⟨x', hx', rfl, hb6⟩
    have HSa := hide (HS.out x x' Hx.out hx')
    have hlt6 : g < w6.heap.size := by have := hb6.size; omega
    have HB6 := hide (HSw5.out.below hb6 hlt5)
    have HBel7 := hide (HBel6.out.trans (hb6.mono (by omega)))
    have HT6 := hide (HT5.out.below hb6)
    clear hb6 hx' HSw5 HBel6
    go_wp2_with fail
    refine (HSa.out _).mono ?_
    rintro e wx ⟨rfl, hwx⟩
    subst wx
    clear HSa
    go_wp2_with fail
    refine (H4.out _ HB6.out.fr hlt6 HT6.out).mono ?_
    rintro e w7 ⟨y', hy', rfl, hb7⟩
    have HSa := hide (HS.out y y' Hy.out hy')
    have HBel8 := hide (HBel7.out.trans (hb7.mono (by omega)))
    clear hb7 hy'
    go_wp2_with fail
    refine (HSa.out _).mono ?_
    rintro e wx ⟨rfl, hwx⟩
    subst wx
    clear HSa
    go_wp2_with fail
    go_ret
    exact ⟨rfl, by rw [HG.out]; exact HBel8.out⟩
  · go_region
    obtain ⟨HT5, hlt5, HSw5, HBel6⟩ := cut _ rfl
    clear cut
    generalize ((w4.setCell ⟨g, p, none⟩ (.float .f64 v)).setCell ⟨g, q, none⟩ (.float .f64 u)).drew = W at *
    go_wp2_with fail
    refine (H3.out _ HSw5.out.fr hlt5 HT5.out).mono ?_
    rintro e w6 ⟨x', hx', rfl, hb6⟩
    have HSa := hide (HS.out x x' Hx.out hx')
    have hlt6 : g < w6.heap.size := by have := hb6.size; omega
    have HB6 := hide (HSw5.out.below hb6 hlt5)
    have HBel7 := hide (HBel6.out.trans (hb6.mono (by omega)))
    have HT6 := hide (HT5.out.below hb6)
    clear hb6 hx' HSw5 HBel6
    go_wp2_with fail
    refine (HSa.out _).mono ?_
    rintro e wx ⟨rfl, hwx⟩
    subst wx
    clear HSa
    go_wp2_with fail
    refine (H4.out _ HB6.out.fr hlt6 HT6.out).mono ?_
    rintro e w7 ⟨y', hy', rfl, hb7⟩
    have HSa := hide (HS.out y y' Hy.out hy')
    have HBel8 := hide (HBel7.out.trans (hb7.mono (by omega)))
    clear hb7 hy'
    go_wp2_with fail
    refine (HSa.out _).mono ?_
    rintro e wx ⟨rfl, hwx⟩
    subst wx
    clear HSa
    go_wp2_with fail
    go_ret
    exact ⟨rfl, by rw [HG.out]; exact HBel8.out⟩

/-- The exchange leaves the same terms. -/
theorem swp_perm (fs : List Nat) (p q : Nat) (hp : p < fs.length) (hq : q < fs.length) : (swp fs p q).Perm fs := by
  unfold swp
  rw [List.getD_eq_getElem?_getD, List.getD_eq_getElem?_getD, List.getElem?_eq_getElem hp, List.getElem?_eq_getElem hq]
  exact List.set_set_perm hp hq
theorem vSum_perm {a b : List Nat} (h : a.Perm b) : Fl.vSum a = Fl.vSum b := by
  induction h with
  | nil => rfl
  | cons x _ ih => show Fl.V x + _ = Fl.V x + _; rw [ih]
  | swap x y l => show Fl.V y + (Fl.V x + Fl.vSum l) = Fl.V x + (Fl.V y + Fl.vSum l); omega
  | trans _ _ h1 h2 => exact h1.trans h2
theorem each_perm {P : Nat → Prop} {a b : List Nat} (h : a.Perm b) (hb : ∀ i, i < b.length → P (b.getD i 0)) : ∀ i, i < a.length → P (a.getD i 0) := by
  intro i hi
  have hm := h.mem_iff.1 (Fl.getD_mem hi)
  obtain ⟨k, hk, e⟩ := List.getElem_of_mem hm
  have := hb k hk
  rw [List.getD_eq_getElem?_getD, List.getElem?_eq_getElem hk] at this
  rw [← e]
  exact this
theorem any_perm {f : Nat → Bool} {a b : List Nat} (h : a.Perm b) : a.any f = b.any f := by
  rw [Bool.eq_iff_iff, List.any_eq_true, List.any_eq_true]
  exact ⟨fun ⟨x, hx, e⟩ => ⟨x, h.mem_iff.1 hx, e⟩, fun ⟨x, hx, e⟩ => ⟨x, h.mem_iff.2 hx, e⟩⟩

theorem ans_exact_good {g : Nat} {fs : List Nat} (hn : fs.length ≤ 1024) (hw : Wds fs) (had : Fl.Adm fs) {t : Int} (ht : Fl.vSum fs = t) : Ans (fun x => x = Fl.enc false t) 13 g fs := by
  intro w hr hg hT
  refine (exact_some g 0 _ fs w hn hr hg hw had hT).mono ?_
  rintro e w' ⟨rfl, hb⟩
  exact ⟨_, by rw [ht], rfl, hb⟩
theorem ans_fsum_good {g : Nat} {fs : List Nat} (hn : fs.length ≤ 1024) (hw : Wds fs) (had : Fl.Adm fs) {t : Int} (ht : Fl.vSum fs = t) : Ans (fun x => x = Fl.enc false t) 12 g fs := by
  intro w hr hg hT
  refine (fsum_sum_any g 0 _ fs w hn hr hg hw had).mono ?_
  rintro e w' ⟨rfl, hb⟩
  exact ⟨_, by rw [fsum_right had (by omega), ht], rfl, hb⟩
theorem ans_exact_bad {g : Nat} {fs : List Nat} (hn : fs.length ≤ 1024) (hb : fs.any badB = true) : Ans NaNw 13 g fs := by
  intro w hr hg hT
  have h := refused_sum_short _ _ fs.length fs w hn hr
  rw [hb] at h
  refine (exact_bad _ _ _ w h).mono ?_
  rintro e w' ⟨x, hx, rfl, rfl⟩
  exact ⟨x, hx, rfl, (Below.refl _ _).drew⟩
theorem ans_fsum_bad {g : Nat} {fs : List Nat} (hn : fs.length ≤ 1024) (hb : fs.any badB = true) : Ans NaNw 12 g fs := by
  intro w hr hg hT
  have h := refused_shew_short _ _ fs.length fs w hn hr
  rw [hb] at h
  refine (fsum_sum_bad _ _ _ w h).mono ?_
  rintro e w' ⟨x, hx, rfl, rfl⟩
  exact ⟨x, hx, rfl, (Below.refl _ _).drew⟩

theorem exactForgets_none (a0 : Option Addr) (len0 cap0 : Nat) (i j : Nat) (fs : List Nat) (w : World)
    (HF : Hid (FloatsLeft w a0 len0 cap0 1024 fs)) (hn0 : fs.length = 0) :
    Calls Talg.prog 4 #[.slice a0 len0 cap0, .int .u16 (i : Int), .int .u16 (j : Int)] w fun e w' => e = .returned (.bool true) ∧ Below w.heap.size w w' := by
  obtain rfl := List.eq_nil_of_length_eq_zero hn0
  clear hn0
  go_enter Talg.func4, Talg.ntmps4
  go_wp2_with fail
  refine (Hid.out HF).mono ?_
  rintro e w1 ⟨rfl, hB, hbel⟩
  have HBel := hide hbel
  clear hB hbel
  go_wp2_with fail
  go_ret
  exact ⟨rfl, HBel.out⟩

theorem exactForgetsOrder_walk (a0 : Option Addr) (len0 cap0 : Nat) (z0 : List Int) (i j : Nat) (hi : i < 65536) (hj : j < 65536) (w : World) (w0 : IsRow .u64 w a0 len0 cap0 z0) (hT : Tab w) :
    Calls Talg.prog 4 #[.slice a0 len0 cap0, .int .u16 (i : Int), .int .u16 (j : Int)] w fun e w' => e = .returned (.bool true) ∧ Below w.heap.size w w' := by
  have hlen := w0.len 1024
  have hwds := words_wds (k := min len0 1024) w0.wf
  have hfl := floats_any a0 len0 cap0 1024 z0 w w0 (by omega) (by omega)
  have hmn : min len0 1024 ≤ 1024 := Nat.min_le_right _ _
  generalize wordsOf z0 (min len0 1024) = fs at *
  generalize min len0 1024 = n at *
  subst hlen
  by_cases h0 : fs.length = 0
  · exact exactForgets_none a0 len0 cap0 i j fs w (hide hfl) h0
  · have hn0 : 0 < fs.length := by omega
    have hP := swp_perm fs (i % fs.length) (j % fs.length) (Nat.mod_lt _ hn0) (Nat.mod_lt _ hn0)
    have hl : (swp fs (i % fs.length) (j % fs.length)).length ≤ 1024 := by rw [hP.length_eq]; exact hmn
    by_cases hA : Fl.Adm fs
    · exact exactForgets_at (fun x => x = Fl.enc false (Fl.vSum fs)) a0 len0 cap0 i j hi hj fs w (hide hfl) hT hn0 hmn
        (ans_exact_good hmn hwds hA rfl) (ans_fsum_good hmn hwds hA rfl)
        (ans_exact_good hl (each_perm (P := fun x => x < 18446744073709551616) hP hwds) (each_perm (P := Fl.Bd 1) hP hA) (vSum_perm hP)) (ans_fsum_good hl (each_perm (P := fun x => x < 18446744073709551616) hP hwds) (each_perm (P := Fl.Bd 1) hP hA) (vSum_perm hP))
        (by rintro x y rfl rfl wx; exact same_eq _ wx)
    · have hb : fs.any badB = true := by
        cases h : fs.any badB
        · exact absurd ((refused_iff hwds).1 h) hA
        · rfl
      exact exactForgets_at NaNw a0 len0 cap0 i j hi hj fs w (hide hfl) hT hn0 hmn
        (ans_exact_bad hmn hb) (ans_fsum_bad hmn hb)
        (ans_exact_bad hl (by rw [any_perm hP]; exact hb)) (ans_fsum_bad hl (by rw [any_perm hP]; exact hb))
        (fun x y hx hy wx => same_nan x y hx hy wx)
end Go.Proofs.YgctalDoor
