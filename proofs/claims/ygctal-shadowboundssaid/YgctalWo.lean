import Derived.Test.YgctalWr
namespace Go.Proofs.Ygctal
open Go.RowKit
set_option maxHeartbeats 4000000
set_option linter.unusedVariables false

theorem shl_word (lo sh : Nat) : IntKind.u64.wrap ((lo : Int) * 2 ^ sh) = ((lo * 2 ^ sh % Ac.W : Nat) : Int) := by
  rw [IntKind.wrap_u64]
  simp [Ac.W]
theorem or_words (hi lo sh : Nat) (hsh : sh < 64) (hlo : lo < Ac.W) (hhi : hi < Ac.W) :
    bits .or .u64 (((hi * 2 ^ sh % Ac.W : Nat) : Int)) ((lo : Int) / 2 ^ (64 - sh)) = ((hi * 2 ^ sh % Ac.W + lo / 2 ^ (64 - sh) : Nat) : Int) := by
  have hW : Ac.W = 2 ^ (64 - sh) * 2 ^ sh := by rw [← Nat.pow_add, show 64 - sh + sh = 64 from by omega]; rfl
  have h1 : lo / 2 ^ (64 - sh) < 2 ^ sh := by
    rw [Nat.div_lt_iff_lt_mul (Nat.two_pow_pos _), Nat.mul_comm, ← hW]; exact hlo
  have h2 : hi * 2 ^ sh % Ac.W % 2 ^ sh = 0 := by
    rw [hW, Nat.mul_mod_mul_right]; exact Nat.mul_mod_left _ _
  have h3 : hi * 2 ^ sh % Ac.W < Ac.W := Nat.mod_lt _ (by decide)
  have h4 : lo / 2 ^ (64 - sh) < Ac.W := Nat.lt_of_le_of_lt (Nat.div_le_self _ _) hlo
  have := u64_or_nat (hi * 2 ^ sh % Ac.W) (lo / 2 ^ (64 - sh)) h3 h4
  rw [nat_join sh _ _ h2 h1] at this
  rw [show ((lo : Int) / 2 ^ (64 - sh)) = ((lo / 2 ^ (64 - sh) : Nat) : Int) from by simp]
  exact this
theorem q_lt (hi lo sh : Nat) (hsh : sh < 64) (hlo : lo < Ac.W) : hi * 2 ^ sh % Ac.W + lo / 2 ^ (64 - sh) < Ac.W := by
  have hW : Ac.W = 2 ^ (64 - sh) * 2 ^ sh := by rw [← Nat.pow_add, show 64 - sh + sh = 64 from by omega]; rfl
  have h1 : lo / 2 ^ (64 - sh) < 2 ^ sh := by
    rw [Nat.div_lt_iff_lt_mul (Nat.two_pow_pos _), Nat.mul_comm, ← hW]; exact hlo
  have h2 : hi * 2 ^ sh % Ac.W = hi % 2 ^ (64 - sh) * 2 ^ sh := by rw [hW, Nat.mul_mod_mul_right]
  have h3 : hi % 2 ^ (64 - sh) + 1 ≤ 2 ^ (64 - sh) := Nat.mod_lt _ (Nat.two_pow_pos _)
  have h4 := Nat.mul_le_mul_right (2 ^ sh) h3
  rw [Nat.add_mul, Nat.one_mul, ← hW] at h4
  omega
/-- What place leaves. -/
def Placed (w w' : World) (g T : Nat) (ws : List Nat) (N : Int) : Prop :=
  ∃ ws', AccB w' g T ws' ∧ ws'.length = 68 ∧ Ac.Wd ws' ∧ (Ac.accV ws' : Int) = ((Ac.accV ws : Int) + N) % ((Ac.W ^ 68 : Nat) : Int) ∧ w.grownBy w' (some g)

set_option maxRecDepth 1000000 in
theorem place_add (g T i hi lo wd sh : Nat) (ws : List Nat) (w : World) (hA : AccB w g T ws) (hl : ws.length = 68) (hw : Ac.Wd ws) (hi' : i = 64 * wd + sh) (hwd : wd ≤ 65) (hsh : sh < 64) (hlo : lo < Ac.W) (hhi : hi < Ac.W) :
    Calls Talg.prog 58 #[.pointer (some ⟨g, 0, none⟩), .bool false, .int .u64 hi, .int .u64 lo, .int .i64 i] w fun e w' => e = .returned (.tuple #[]) ∧ Placed w w' g T ws (1 * (((hi * Ac.W + lo) * 2 ^ i : Nat) : Int)) := by
  have h1 : (i : Int) / 64 = (wd : Int) := by omega
  have h2 : (i : Int) % 64 = (sh : Int) := by omega
  have hib : i < 4352 := by omega
  have HN := hide (place_N wd sh hi lo _ _ _ hsh hlo hhi rfl rfl rfl)
  rw [← hi'] at HN
  generalize (((hi * Ac.W + lo) * 2 ^ i : Nat) : Int) = N at HN ⊢
  generalize hNN : (1 * N : Int) = N'
  have HNN := hide hNN
  clear hNN
  have hp := shl_word lo sh
  have hq0 := shl_word hi sh
  have hq := or_words hi lo sh hsh hlo hhi
  have hr : (hi : Int) / 2 ^ (64 - sh) = ((hi / 2 ^ (64 - sh) : Nat) : Int) := by simp
  have lp : lo * 2 ^ sh % Ac.W < Ac.W := Nat.mod_lt _ (by decide)
  have lq := q_lt hi lo sh hsh hlo
  have lr : hi / 2 ^ (64 - sh) < Ac.W := Nat.lt_of_le_of_lt (Nat.div_le_self _ _) hhi
  generalize lo * 2 ^ sh % Ac.W = p at *
  generalize hi * 2 ^ sh % Ac.W = q0 at *
  generalize q0 + lo / 2 ^ (64 - sh) = q at *
  generalize hi / 2 ^ (64 - sh) = r at *
  have HLp := hide lp
  have HLq := hide lq
  have HLr := hide lr
  have HR0 := hide (Ac.Run.start (s := 1) hl hw wd)
  have HA := hide hA
  have hl0 := hl
  have hk0 : 0 ≤ 1 := by omega
  have HX0 := hide (hw.get (show wd < ws.length by omega))
  have HC0 := hide (fun nq => (hA.drewN nq).cell (show wd < ws.length by omega))
  generalize hx0 : ws.getD wd 0 = x0 at *
  have HE0 := hide hx0
  clear hx0 hA lp lq lr hlo hhi hi' hl hw
  go_enter Talg.func58, Talg.ntmps58
  go_wp2_with fail
  go_quiet (fail)
  go_wp2_with fail
  have HA0 := hide (HA.out.drewN nq)
  have HG0 := hide (gb_drewN w nq (some g))
  generalize w.drewN nq = w0 at HA0 HG0 ⊢
  have HC0 := hide (HA0.out.cell (show wd < ws.length by omega))
  rw [HE0.out] at HC0
  refine place_r11 w0 g wd x0 p (by omega) HC0.out (HA0.out.free _) _ _ _ _ _ _ _ _ _ _ _ _ _ _ _ _ _ _ _ _ _ _ _ _ _ _ _ _ _ _ _ _ _ _ _ _ _ _ _ _ _ _ _ _ _ _ _ _ _ _ _ _ _ _ _ _ _ _ _ _ _ _ _ _ _ _ _ _ _ _ _ _ _ _ _ _ _ _ _ _ _ _ _ _ _ _ _ _ _ _ _ _ _ _ _ _ _ _ _ _ _ _ _ _ _ _ _ _ _ _ _ _ _ _ _ _ _ _ _ _ _ _ _ _ _ _ _ _ _ _ _ _ _ _ _ _ _ _ _ _ _ _ _ _ _ _ _ _ _ _ _ _ _ _ _ _ _ _ _ _ _ _ _ _ _ _ _ _ _ _ _ _ _ _ _ _ _ _ _ ?_
  intro v110 v111 v112 v113 v114 v115 v116 v117 v118 v119 v120 v121 v122 v123
  have HR1 := hide (HR0.out.step (y := p) (S := addS x0 p 0) (C := addC x0 p 0) (by omega) (addS_lt _ _ _) (addC_le _ _ _ HX0.out HLp.out hk0) (by rw [HE0.out]; exact (add_he _ _ _)))
  have hk1 : addC x0 p 0 ≤ 1 := (addC_le _ _ _ HX0.out HLp.out hk0)
  have HA1 := hide ((HA0.out.set wd (addS x0 p 0)).drew)
  have HG1 := hide (gb_trans HG0.out (gb_trans (gb_setCell w0 g wd (.int .u64 ((addS x0 p 0 : Nat) : Int))) (gb_drew _ (some g))))
  have hl1 : (ws.set wd (addS x0 p 0)).length = 68 := by simpa using hl0
  generalize (w0.setCell ⟨g, wd, none⟩ (.int .u64 ((addS x0 p 0 : Nat) : Int))).drew = w1 at HA1 HG1 ⊢
  have HX1 := hide (HR1.out.wd.get (show wd + 1 < (ws.set wd (addS x0 p 0)).length by omega))
  have HC1 := hide (HA1.out.cell (show wd + 1 < (ws.set wd (addS x0 p 0)).length by omega))
  generalize hx1 : (ws.set wd (addS x0 p 0)).getD (wd + 1) 0 = x1 at *
  have HE1 := hide hx1
  clear hx1
  generalize ws.set wd (addS x0 p 0) = ws1 at *
  generalize addC x0 p 0 = k1 at *
  clear HA0 HR0 HX0 HE0 hk0 HG0 HC0
  go_wp2_with fail
  refine place_r12 w1 g wd x1 q k1 (by omega) hk1 HC1.out (HA1.out.free _) _ _ _ _ _ _ _ _ _ _ _ _ _ _ _ _ _ _ _ _ _ _ _ _ _ _ _ _ _ _ _ _ _ _ _ _ _ _ _ _ _ _ _ _ _ _ _ _ _ _ _ _ _ _ _ _ _ _ _ _ _ _ _ _ _ _ _ _ _ _ _ _ _ _ _ _ _ _ _ _ _ _ _ _ _ _ _ _ _ _ _ _ _ _ _ _ _ _ _ _ _ _ _ _ _ _ _ _ _ _ _ _ _ _ _ _ _ _ _ _ _ _ _ _ _ _ _ _ _ _ _ _ _ _ _ _ _ _ _ _ _ _ _ _ _ _ _ _ _ _ _ _ _ _ _ _ _ _ _ _ _ _ _ _ _ _ _ _ _ _ _ _ _ _ _ _ _ _ ?_
  intro v124 v125 v126 v127 v128 v129 v130 v131 v132 v133 v134 v135 v136 v137 v138 v139 v140
  have HR2 := hide (HR1.out.step (y := q) (S := addS x1 q k1) (C := addC x1 q k1) (by omega) (addS_lt _ _ _) (addC_le _ _ _ HX1.out HLq.out hk1) (by rw [HE1.out]; exact (add_he _ _ _)))
  have hk2 : addC x1 q k1 ≤ 1 := (addC_le _ _ _ HX1.out HLq.out hk1)
  have HA2 := hide ((HA1.out.set (wd + 1) (addS x1 q k1)).drew)
  have HG2 := hide (gb_trans HG1.out (gb_trans (gb_setCell w1 g (wd + 1) (.int .u64 ((addS x1 q k1 : Nat) : Int))) (gb_drew _ (some g))))
  have hl2 : (ws1.set (wd + 1) (addS x1 q k1)).length = 68 := by simpa using hl1
  generalize (w1.setCell ⟨g, wd + 1, none⟩ (.int .u64 ((addS x1 q k1 : Nat) : Int))).drew = w2 at HA2 HG2 ⊢
  have HX2 := hide (HR2.out.wd.get (show wd + 2 < (ws1.set (wd + 1) (addS x1 q k1)).length by omega))
  have HC2 := hide (HA2.out.cell (show wd + 2 < (ws1.set (wd + 1) (addS x1 q k1)).length by omega))
  generalize hx2 : (ws1.set (wd + 1) (addS x1 q k1)).getD (wd + 2) 0 = x2 at *
  have HE2 := hide hx2
  clear hx2
  generalize ws1.set (wd + 1) (addS x1 q k1) = ws2 at *
  generalize addC x1 q k1 = k2 at *
  clear HA1 HR1 HX1 HE1 hk1 HG1 HC1
  go_wp2_with fail
  refine place_r13 w2 g wd x2 r k2 (by omega) hk2 HC2.out (HA2.out.free _) _ _ _ _ _ _ _ _ _ _ _ _ _ _ _ _ _ _ _ _ _ _ _ _ _ _ _ _ _ _ _ _ _ _ _ _ _ _ _ _ _ _ _ _ _ _ _ _ _ _ _ _ _ _ _ _ _ _ _ _ _ _ _ _ _ _ _ _ _ _ _ _ _ _ _ _ _ _ _ _ _ _ _ _ _ _ _ _ _ _ _ _ _ _ _ _ _ _ _ _ _ _ _ _ _ _ _ _ _ _ _ _ _ _ _ _ _ _ _ _ _ _ _ _ _ _ _ _ _ _ _ _ _ _ _ _ _ _ _ _ _ _ _ _ _ _ _ _ _ _ _ _ _ _ _ _ _ _ _ _ _ _ _ _ _ _ _ _ _ _ _ _ _ _ _ _ _ _ ?_
  intro v141 v142 v143 v144 v145 v146 v147 v148 v149 v150 v151 v152 v153 v154 v155 v156 v157
  have HR3 := hide (HR2.out.step (y := r) (S := addS x2 r k2) (C := addC x2 r k2) (by omega) (addS_lt _ _ _) (addC_le _ _ _ HX2.out HLr.out hk2) (by rw [HE2.out]; exact (add_he _ _ _)))
  have hk3 : addC x2 r k2 ≤ 1 := (addC_le _ _ _ HX2.out HLr.out hk2)
  have HA3 := hide ((HA2.out.set (wd + 2) (addS x2 r k2)).drew)
  have HG3 := hide (gb_trans HG2.out (gb_trans (gb_setCell w2 g (wd + 2) (.int .u64 ((addS x2 r k2 : Nat) : Int))) (gb_drew _ (some g))))
  have hl3 : (ws2.set (wd + 2) (addS x2 r k2)).length = 68 := by simpa using hl2
  generalize (w2.setCell ⟨g, wd + 2, none⟩ (.int .u64 ((addS x2 r k2 : Nat) : Int))).drew = w3 at HA3 HG3 ⊢
  generalize ws2.set (wd + 2) (addS x2 r k2) = ws3 at *
  generalize addC x2 r k2 = k3 at *
  clear HA2 HR2 HX2 HE2 hk2 HG2 HC2
  go_wp2_with fail
  rw [HN.out] at HR3
  clear HN
  go_loopw [15, 17] (fun cc jj wr => ∃ (j c : Nat) (wsj : List Nat), cc = .int .u64 c ∧ jj = .int .i64 j ∧ j ≤ 68 ∧ Hid (AccB wr g T wsj ∧ w.grownBy wr (some g) ∧ Ac.Run 1 ws N wsj j c)) (fun _ jj _ => 68 - (intOf jj).toNat)
  case atStart => exact ⟨wd + 3, k3, ws3, rfl, by go_num, by omega, HA3.out, HG3.out, HR3.out⟩
  case round =>
    clear HA3 HG3 HR3
    obtain ⟨j, c, wsj, rfl, rfl, hj, HG⟩ := hrel
    have hc1 := HG.out.2.2.c1
    by_cases hend : c = 0 ∨ j = 68
    · have HD := hide (HG.out.2.2.done hend)
      have HP := hide (show Placed w wr g T ws N' by rw [← HNN.out]; exact ⟨wsj, HG.out.1, HG.out.2.2.len, HG.out.2.2.wd, HD.out, HG.out.2.1⟩)
      clear HG HD
      by_cases hj68 : j = 68
      · subst hj68
        go_wp2
        go_end0
        exact ⟨rfl, HP.out⟩
      · have hj' : (j : Int) < 68 := by omega
        have hc0 : ((c : Int) != 0) = false := by simp; omega
        go_wp2
        go_end0
        exact ⟨rfl, HP.out⟩
    · have hj' : (j : Int) < 68 := by omega
      have hc0 : ((c : Int) != 0) = true := by simp; omega
      have hlj := HG.out.2.2.len
      have HCj := hide (HG.out.1.cell (show j < wsj.length by omega))
      have HXj := hide (HG.out.2.2.wd.get (show j < wsj.length by omega))
      generalize hxj : wsj.getD j 0 = xj at *
      have HEj := hide hxj
      have HRn := hide (HG.out.2.2.step (y := 0) (S := addS xj 0 c) (C := addC xj 0 c) (by omega) (addS_lt _ _ _) (addC_le _ _ _ HXj.out (show 0 < Ac.W by decide) HG.out.2.2.c1) (by rw [HEj.out]; exact (add_he _ _ _)))
      have HAn := hide ((HG.out.1.set j (addS xj 0 c)).drew)
      have HGn := hide (gb_trans HG.out.2.1 (gb_trans (gb_setCell wr g j (.int .u64 ((addS xj 0 c : Nat) : Int))) (gb_drew _ (some g))))
      have HFr := hide (HG.out.1.free j)
      clear hxj HG
      go_wp2_with fail
      refine place_r17 wr g j xj c (by omega) hc1 HCj.out HFr.out _ _ _ _ _ _ _ _ _ _ _ _ _ _ _ _ _ _ _ _ _ _ _ _ _ _ _ _ _ _ _ _ _ _ _ _ _ _ _ _ _ _ _ _ _ _ _ _ _ _ _ _ _ _ _ _ _ _ _ _ _ _ _ _ _ _ _ _ _ _ _ _ _ _ _ _ _ _ _ _ _ _ _ _ _ _ _ _ _ _ _ _ _ _ _ _ _ _ _ _ _ _ _ _ _ _ _ _ _ _ _ _ _ _ _ _ _ _ _ _ _ _ _ _ _ _ _ _ _ _ _ _ _ _ _ _ _ _ _ _ _ _ _ _ _ _ _ _ _ _ _ _ _ _ _ _ _ _ _ _ _ _ _ _ _ _ _ _ _ _ _ _ _ _ _ _ _ _ _ ?_
      intro v168 v169 v170 v171 v172 v173 v174 v175 v176 v177 v178 v179 v180 v181
      generalize (wr.setCell ⟨g, j, none⟩ (.int .u64 ((addS xj 0 c : Nat) : Int))).drew = wn at HAn HGn ⊢
      go_wp2_with fail
      go_roundw
      case rel => exact ⟨j + 1, addC xj 0 c, wsj.set j (addS xj 0 c), rfl, by go_num, by omega, HAn.out, HGn.out, by have := HRn.out; simpa using this⟩
      case measure => simp [intOf]; omega

set_option maxRecDepth 1000000 in
theorem place_sub (g T i hi lo wd sh : Nat) (ws : List Nat) (w : World) (hA : AccB w g T ws) (hl : ws.length = 68) (hw : Ac.Wd ws) (hi' : i = 64 * wd + sh) (hwd : wd ≤ 65) (hsh : sh < 64) (hlo : lo < Ac.W) (hhi : hi < Ac.W) :
    Calls Talg.prog 58 #[.pointer (some ⟨g, 0, none⟩), .bool true, .int .u64 hi, .int .u64 lo, .int .i64 i] w fun e w' => e = .returned (.tuple #[]) ∧ Placed w w' g T ws ((-1) * (((hi * Ac.W + lo) * 2 ^ i : Nat) : Int)) := by
  have h1 : (i : Int) / 64 = (wd : Int) := by omega
  have h2 : (i : Int) % 64 = (sh : Int) := by omega
  have hib : i < 4352 := by omega
  have HN := hide (place_N wd sh hi lo _ _ _ hsh hlo hhi rfl rfl rfl)
  rw [← hi'] at HN
  generalize (((hi * Ac.W + lo) * 2 ^ i : Nat) : Int) = N at HN ⊢
  generalize hNN : ((-1) * N : Int) = N'
  have HNN := hide hNN
  clear hNN
  have hp := shl_word lo sh
  have hq0 := shl_word hi sh
  have hq := or_words hi lo sh hsh hlo hhi
  have hr : (hi : Int) / 2 ^ (64 - sh) = ((hi / 2 ^ (64 - sh) : Nat) : Int) := by simp
  have lp : lo * 2 ^ sh % Ac.W < Ac.W := Nat.mod_lt _ (by decide)
  have lq := q_lt hi lo sh hsh hlo
  have lr : hi / 2 ^ (64 - sh) < Ac.W := Nat.lt_of_le_of_lt (Nat.div_le_self _ _) hhi
  generalize lo * 2 ^ sh % Ac.W = p at *
  generalize hi * 2 ^ sh % Ac.W = q0 at *
  generalize q0 + lo / 2 ^ (64 - sh) = q at *
  generalize hi / 2 ^ (64 - sh) = r at *
  have HLp := hide lp
  have HLq := hide lq
  have HLr := hide lr
  have HR0 := hide (Ac.Run.start (s := (-1)) hl hw wd)
  have HA := hide hA
  have hl0 := hl
  have hk0 : 0 ≤ 1 := by omega
  have HX0 := hide (hw.get (show wd < ws.length by omega))
  have HC0 := hide (fun nq => (hA.drewN nq).cell (show wd < ws.length by omega))
  generalize hx0 : ws.getD wd 0 = x0 at *
  have HE0 := hide hx0
  clear hx0 hA lp lq lr hlo hhi hi' hl hw
  go_enter Talg.func58, Talg.ntmps58
  go_wp2_with fail
  go_quiet (fail)
  go_wp2_with fail
  have HA0 := hide (HA.out.drewN nq)
  have HG0 := hide (gb_drewN w nq (some g))
  generalize w.drewN nq = w0 at HA0 HG0 ⊢
  have HC0 := hide (HA0.out.cell (show wd < ws.length by omega))
  rw [HE0.out] at HC0
  refine place_r4 w0 g wd x0 p (by omega) HC0.out (HA0.out.free _) _ _ _ _ _ _ _ _ _ _ _ _ _ _ _ _ _ _ _ _ _ _ _ _ _ _ _ _ _ _ _ _ _ _ _ _ _ _ _ _ _ _ _ _ _ _ _ _ _ _ _ _ _ _ _ _ _ _ _ _ _ _ _ _ _ _ _ _ _ _ _ _ _ _ _ _ _ _ _ _ _ _ _ _ _ _ _ _ _ _ _ _ _ _ _ _ _ _ _ _ _ _ _ _ _ _ _ _ _ _ _ _ _ _ _ _ _ _ _ _ _ _ _ _ _ _ _ _ _ _ _ _ _ _ _ _ _ _ _ _ _ _ _ _ _ _ _ _ _ _ _ _ _ _ _ _ _ _ _ _ _ _ _ _ _ _ _ _ _ _ _ _ _ _ _ _ _ _ _ ?_
  intro v38 v39 v40 v41 v42 v43 v44 v45 v46 v47 v48 v49 v50 v51
  have HR1 := hide (HR0.out.step (y := p) (S := subS x0 p 0) (C := subC x0 p 0) (by omega) (subS_lt _ _ _) (subC_le _ _ _) (by rw [HE0.out]; exact (sub_he _ _ _ HX0.out HLp.out hk0)))
  have hk1 : subC x0 p 0 ≤ 1 := (subC_le _ _ _)
  have HA1 := hide ((HA0.out.set wd (subS x0 p 0)).drew)
  have HG1 := hide (gb_trans HG0.out (gb_trans (gb_setCell w0 g wd (.int .u64 ((subS x0 p 0 : Nat) : Int))) (gb_drew _ (some g))))
  have hl1 : (ws.set wd (subS x0 p 0)).length = 68 := by simpa using hl0
  generalize (w0.setCell ⟨g, wd, none⟩ (.int .u64 ((subS x0 p 0 : Nat) : Int))).drew = w1 at HA1 HG1 ⊢
  have HX1 := hide (HR1.out.wd.get (show wd + 1 < (ws.set wd (subS x0 p 0)).length by omega))
  have HC1 := hide (HA1.out.cell (show wd + 1 < (ws.set wd (subS x0 p 0)).length by omega))
  generalize hx1 : (ws.set wd (subS x0 p 0)).getD (wd + 1) 0 = x1 at *
  have HE1 := hide hx1
  clear hx1
  generalize ws.set wd (subS x0 p 0) = ws1 at *
  generalize subC x0 p 0 = k1 at *
  clear HA0 HR0 HX0 HE0 hk0 HG0 HC0
  go_wp2_with fail
  refine place_r5 w1 g wd x1 q k1 (by omega) hk1 HC1.out (HA1.out.free _) _ _ _ _ _ _ _ _ _ _ _ _ _ _ _ _ _ _ _ _ _ _ _ _ _ _ _ _ _ _ _ _ _ _ _ _ _ _ _ _ _ _ _ _ _ _ _ _ _ _ _ _ _ _ _ _ _ _ _ _ _ _ _ _ _ _ _ _ _ _ _ _ _ _ _ _ _ _ _ _ _ _ _ _ _ _ _ _ _ _ _ _ _ _ _ _ _ _ _ _ _ _ _ _ _ _ _ _ _ _ _ _ _ _ _ _ _ _ _ _ _ _ _ _ _ _ _ _ _ _ _ _ _ _ _ _ _ _ _ _ _ _ _ _ _ _ _ _ _ _ _ _ _ _ _ _ _ _ _ _ _ _ _ _ _ _ _ _ _ _ _ _ _ _ _ _ _ _ ?_
  intro v52 v53 v54 v55 v56 v57 v58 v59 v60 v61 v62 v63 v64 v65 v66 v67 v68
  have HR2 := hide (HR1.out.step (y := q) (S := subS x1 q k1) (C := subC x1 q k1) (by omega) (subS_lt _ _ _) (subC_le _ _ _) (by rw [HE1.out]; exact (sub_he _ _ _ HX1.out HLq.out hk1)))
  have hk2 : subC x1 q k1 ≤ 1 := (subC_le _ _ _)
  have HA2 := hide ((HA1.out.set (wd + 1) (subS x1 q k1)).drew)
  have HG2 := hide (gb_trans HG1.out (gb_trans (gb_setCell w1 g (wd + 1) (.int .u64 ((subS x1 q k1 : Nat) : Int))) (gb_drew _ (some g))))
  have hl2 : (ws1.set (wd + 1) (subS x1 q k1)).length = 68 := by simpa using hl1
  generalize (w1.setCell ⟨g, wd + 1, none⟩ (.int .u64 ((subS x1 q k1 : Nat) : Int))).drew = w2 at HA2 HG2 ⊢
  have HX2 := hide (HR2.out.wd.get (show wd + 2 < (ws1.set (wd + 1) (subS x1 q k1)).length by omega))
  have HC2 := hide (HA2.out.cell (show wd + 2 < (ws1.set (wd + 1) (subS x1 q k1)).length by omega))
  generalize hx2 : (ws1.set (wd + 1) (subS x1 q k1)).getD (wd + 2) 0 = x2 at *
  have HE2 := hide hx2
  clear hx2
  generalize ws1.set (wd + 1) (subS x1 q k1) = ws2 at *
  generalize subC x1 q k1 = k2 at *
  clear HA1 HR1 HX1 HE1 hk1 HG1 HC1
  go_wp2_with fail
  refine place_r6 w2 g wd x2 r k2 (by omega) hk2 HC2.out (HA2.out.free _) _ _ _ _ _ _ _ _ _ _ _ _ _ _ _ _ _ _ _ _ _ _ _ _ _ _ _ _ _ _ _ _ _ _ _ _ _ _ _ _ _ _ _ _ _ _ _ _ _ _ _ _ _ _ _ _ _ _ _ _ _ _ _ _ _ _ _ _ _ _ _ _ _ _ _ _ _ _ _ _ _ _ _ _ _ _ _ _ _ _ _ _ _ _ _ _ _ _ _ _ _ _ _ _ _ _ _ _ _ _ _ _ _ _ _ _ _ _ _ _ _ _ _ _ _ _ _ _ _ _ _ _ _ _ _ _ _ _ _ _ _ _ _ _ _ _ _ _ _ _ _ _ _ _ _ _ _ _ _ _ _ _ _ _ _ _ _ _ _ _ _ _ _ _ _ _ _ _ ?_
  intro v69 v70 v71 v72 v73 v74 v75 v76 v77 v78 v79 v80 v81 v82 v83 v84 v85
  have HR3 := hide (HR2.out.step (y := r) (S := subS x2 r k2) (C := subC x2 r k2) (by omega) (subS_lt _ _ _) (subC_le _ _ _) (by rw [HE2.out]; exact (sub_he _ _ _ HX2.out HLr.out hk2)))
  have hk3 : subC x2 r k2 ≤ 1 := (subC_le _ _ _)
  have HA3 := hide ((HA2.out.set (wd + 2) (subS x2 r k2)).drew)
  have HG3 := hide (gb_trans HG2.out (gb_trans (gb_setCell w2 g (wd + 2) (.int .u64 ((subS x2 r k2 : Nat) : Int))) (gb_drew _ (some g))))
  have hl3 : (ws2.set (wd + 2) (subS x2 r k2)).length = 68 := by simpa using hl2
  generalize (w2.setCell ⟨g, wd + 2, none⟩ (.int .u64 ((subS x2 r k2 : Nat) : Int))).drew = w3 at HA3 HG3 ⊢
  generalize ws2.set (wd + 2) (subS x2 r k2) = ws3 at *
  generalize subC x2 r k2 = k3 at *
  clear HA2 HR2 HX2 HE2 hk2 HG2 HC2
  go_wp2_with fail
  rw [HN.out] at HR3
  clear HN
  go_loopw [15, 16] (fun cc jj wr => ∃ (j c : Nat) (wsj : List Nat), cc = .int .u64 c ∧ jj = .int .i64 j ∧ j ≤ 68 ∧ Hid (AccB wr g T wsj ∧ w.grownBy wr (some g) ∧ Ac.Run (-1) ws N wsj j c)) (fun _ jj _ => 68 - (intOf jj).toNat)
  case atStart => exact ⟨wd + 3, k3, ws3, rfl, by go_num, by omega, HA3.out, HG3.out, HR3.out⟩
  case round =>
    clear HA3 HG3 HR3
    obtain ⟨j, c, wsj, rfl, rfl, hj, HG⟩ := hrel
    have hc1 := HG.out.2.2.c1
    by_cases hend : c = 0 ∨ j = 68
    · have HD := hide (HG.out.2.2.done hend)
      have HP := hide (show Placed w wr g T ws N' by rw [← HNN.out]; exact ⟨wsj, HG.out.1, HG.out.2.2.len, HG.out.2.2.wd, HD.out, HG.out.2.1⟩)
      clear HG HD
      by_cases hj68 : j = 68
      · subst hj68
        go_wp2
        exact bodyPost_ret (v := .tuple #[]) (by simp [results, Talg.results58, go_sem]) rfl ⟨rfl, HP.out⟩
      · have hj' : (j : Int) < 68 := by omega
        have hc0 : ((c : Int) != 0) = false := by simp; omega
        go_wp2
        exact bodyPost_ret (v := .tuple #[]) (by simp [results, Talg.results58, go_sem]) rfl ⟨rfl, HP.out⟩
    · have hj' : (j : Int) < 68 := by omega
      have hc0 : ((c : Int) != 0) = true := by simp; omega
      have hlj := HG.out.2.2.len
      have HCj := hide (HG.out.1.cell (show j < wsj.length by omega))
      have HXj := hide (HG.out.2.2.wd.get (show j < wsj.length by omega))
      generalize hxj : wsj.getD j 0 = xj at *
      have HEj := hide hxj
      have HRn := hide (HG.out.2.2.step (y := 0) (S := subS xj 0 c) (C := subC xj 0 c) (by omega) (subS_lt _ _ _) (subC_le _ _ _) (by rw [HEj.out]; exact (sub_he _ _ _ HXj.out (show 0 < Ac.W by decide) HG.out.2.2.c1)))
      have HAn := hide ((HG.out.1.set j (subS xj 0 c)).drew)
      have HGn := hide (gb_trans HG.out.2.1 (gb_trans (gb_setCell wr g j (.int .u64 ((subS xj 0 c : Nat) : Int))) (gb_drew _ (some g))))
      have HFr := hide (HG.out.1.free j)
      clear hxj HG
      go_wp2_with fail
      refine place_r10 wr g j xj c (by omega) hc1 HCj.out HFr.out _ _ _ _ _ _ _ _ _ _ _ _ _ _ _ _ _ _ _ _ _ _ _ _ _ _ _ _ _ _ _ _ _ _ _ _ _ _ _ _ _ _ _ _ _ _ _ _ _ _ _ _ _ _ _ _ _ _ _ _ _ _ _ _ _ _ _ _ _ _ _ _ _ _ _ _ _ _ _ _ _ _ _ _ _ _ _ _ _ _ _ _ _ _ _ _ _ _ _ _ _ _ _ _ _ _ _ _ _ _ _ _ _ _ _ _ _ _ _ _ _ _ _ _ _ _ _ _ _ _ _ _ _ _ _ _ _ _ _ _ _ _ _ _ _ _ _ _ _ _ _ _ _ _ _ _ _ _ _ _ _ _ _ _ _ _ _ _ _ _ _ _ _ _ _ _ _ _ _ ?_
      intro v96 v97 v98 v99 v100 v101 v102 v103 v104 v105 v106 v107 v108 v109
      generalize (wr.setCell ⟨g, j, none⟩ (.int .u64 ((subS xj 0 c : Nat) : Int))).drew = wn at HAn HGn ⊢
      go_wp2_with fail
      go_roundw
      case rel => exact ⟨j + 1, subC xj 0 c, wsj.set j (subS xj 0 c), rfl, by go_num, by omega, HAn.out, HGn.out, by have := HRn.out; simpa using this⟩
      case measure => simp [intOf]; omega
end Go.Proofs.Ygctal
