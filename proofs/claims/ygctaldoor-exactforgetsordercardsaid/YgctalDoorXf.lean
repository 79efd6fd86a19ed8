import Derived.Test.YgctalDoorXe
namespace Go.Proofs.YgctalDoor
open Go.RowKit Go.Shelf
set_option maxHeartbeats 4000000
set_option exponentiation.threshold 5000
set_option linter.unusedVariables false
set_option linter.unusedSimpArgs false

/-! Round. -/
theorem Tab.lt {w : World} (h : Tab w) : 1 < w.heap.size := by
  have := h 0 (by decide)
  exact block_lt_of_cell this
theorem Tab.below {w w' : World} (h : Tab w) (hb : Below w.heap.size w w') : Tab w' := by
  intro j hj
  rw [hb.cell (p := ⟨1, j, none⟩) h.lt]
  exact h j hj
theorem AccB.below {w w' : World} {g T B : Nat} {ws : List Nat} (h : AccB w g T ws) (hb : Below B w w') (hg : g < B) : AccB w' g T ws := Blk.below h hb hg

theorem AccOf.nat {a : List Nat} {z : Int} (h : AccOf a z) (h0 : 0 ≤ z) (h1 : z < Ac.half) : (Ac.accV a : Int) = z := by
  have := h.2.2
  rw [Int.emod_eq_of_lt h0 (by have := Ac.full_half; omega)] at this
  exact this
theorem and1_plain (m : Nat) (hm : m < 18446744073709551616) : (bits .and .u64 (m : Int) 1 != 0) = decide (m % 2 = 1) := by
  have := bit_plain m 0 hm
  rwa [Nat.pow_zero, Nat.div_one, Int.pow_zero, Int.ediv_one] at this
theorem field_I {x : Int} (g T low : Nat) (ws : List Nat) (w : World) (hA : AccB w g T ws) (hl : ws.length = 68) (hw : Ac.Wd ws) (hlow : low ≤ 4200) (hx : x = (low : Int)) :
    Calls Talg.prog 24 #[.pointer (some ⟨g, 0, none⟩), .int .i64 x] w fun e w' => e = .returned (.int .u64 ((Ac.accV ws / 2 ^ low % 9007199254740992 : Nat) : Int)) ∧ w' = w := by
  subst hx
  exact field_any g T low (low / 64) (low % 64) ws w hA hl hw (by omega) (by omega) (by omega)
theorem bit_I {x : Int} (g T i : Nat) (ws : List Nat) (w : World) (hA : AccB w g T ws) (hl : ws.length = 68) (hw : Ac.Wd ws) (hi : i ≤ 4200) (hx : x = (i : Int)) :
    Calls Talg.prog 25 #[.pointer (some ⟨g, 0, none⟩), .int .i64 x] w fun e w' => e = .returned (.bool (decide (Ac.accV ws / 2 ^ i % 2 = 1))) ∧ w' = w := by
  subst hx
  exact bit_any g T i (i / 64) (i % 64) ws w hA hl hw (by omega) (by omega) (by omega)
theorem below_I {x : Int} (g T i : Nat) (ws : List Nat) (w : World) (hA : AccB w g T ws) (hl : ws.length = 68) (hw : Ac.Wd ws) (hi : i ≤ 4200) (hx : x = (i : Int)) :
    Calls Talg.prog 26 #[.pointer (some ⟨g, 0, none⟩), .int .i64 x] w fun e w' => e = .returned (.bool (decide (Ac.accV ws % 2 ^ i ≠ 0))) ∧ w' = w := by
  subst hx
  exact anyBelow_any g T i (i / 64) (i % 64) ws w hA hl hw (by omega) (by omega) (by omega)
theorem join64_I {x y : Int} (neg : Bool) (man e : Nat) (w : World) (hT : Tab w) (h1 : 0 < man) (h2 : man ≤ 9007199254740992) (h3 : e = 0 ∨ 4503599627370496 ≤ man) (h4 : e ≤ 2040) (hx : x = (man : Int)) (hy : y = (e : Int) - 1074) :
    Calls Talg.prog 27 #[.bool neg, .int .u64 x, .int .i16 y] w fun r w' => r = .returned (.tuple #[.float .f64 ((if neg then 9223372036854775808 else 0) + (e * 4503599627370496 + man)), .bool true]) ∧ ∃ n, w' = w.drewN n := by
  subst hx; subst hy
  exact join64_any neg man e w hT h1 h2 h3 h4
theorem rbd_half : rbd ≤ Ac.half := by decide +kernel
theorem rbd_sc : rbd * sc ≤ Ac.half := by decide +kernel
theorem range_half {t : Int} (hb : t.natAbs < rbd) : -(Ac.half : Int) ≤ t * (sc : Int) ∧ t * (sc : Int) < Ac.half := by
  have h1 : t.natAbs * sc < Ac.half := Nat.lt_of_lt_of_le (Nat.mul_lt_mul_of_pos_right hb sc_pos) rbd_sc
  have h2 : (t * (sc : Int)).natAbs = t.natAbs * sc := by rw [Int.natAbs_mul, Int.natAbs_natCast]
  omega
theorem abs_half {t : Int} (hb : t.natAbs < rbd) : (t * (sc : Int)).natAbs < Ac.half := by
  have h1 : t.natAbs * sc < Ac.half := Nat.lt_of_lt_of_le (Nat.mul_lt_mul_of_pos_right hb sc_pos) rbd_sc
  rwa [Int.natAbs_mul, Int.natAbs_natCast]
set_option maxRecDepth 100000 in
theorem round_any (g : Nat) (ws : List Nat) (t : Int) (w : World) (hA : AccB w g 28 ws) (hz : AccOf ws (t * (sc : Int))) (hb : t.natAbs < rbd) (hT : Tab w) :
    Calls Talg.prog 9 #[.pointer (some ⟨g, 0, none⟩)] w fun e w' => e = .returned (.float .f64 (Fl.enc false t)) ∧ Below w.heap.size w w' := by
  have H0 := hide (AccB.new w)
  have HA := hide hA
  have hln := hz.1
  have HC := hide (H0.out.setRow ws)
  have HL := hide (((Below.refl w.heap.size w).alloc (Nat.le_refl _) (.cells Talg.zeroCells28 28)).grown (gb_setRow _ w.heap.size (accArr ws)) (by simp) (fun q hq => by simp at hq; omega))
  have hlim := Nat.lt_of_lt_of_le hb rbd_half
  have hr1 : -(Ac.half : Int) ≤ t * (sc : Int) ∧ t * (sc : Int) < Ac.half := range_half hb
  have HS := hide (fun wx (p : AccB wx w.heap.size 28 ws) => sign_any w.heap.size 28 ws wx p hz.1 hz.2.1)
  have HAb := hide (fun wx (p : AccB wx w.heap.size 28 ws) => abs_any w.heap.size 28 ws (t * (sc : Int)) wx p hz hr1.1 hr1.2)
  have hsg := signB_of hz hr1.1 hr1.2
  have hsg' : decide (signB ws < 0) = decide (t < 0) := by
    have : t * (sc : Int) < 0 ↔ t < 0 := by
      have := sc_pos
      constructor
      · intro h
        rcases Int.lt_or_le t 0 with h1 | h1
        · exact h1
        · have := Int.mul_nonneg h1 (show (0 : Int) ≤ (sc : Int) by omega); omega
      · intro h; exact Int.mul_neg_of_neg_of_pos h (by omega)
    exact decide_eq_decide.2 (hsg.trans this)
  have HSg := hide hsg'
  clear hA hz hr1 hsg hsg' hlim
  go_enter Talg.func9, Talg.ntmps9
  go_wp2_with (first | (refine wpList_load_row rfl 28 _ rfl g rfl 28 (accArr ws) (0, 0) _ HA.out.heap Talg.underlying28 rfl (by rw [accArr_size, hln]; exact acc_info) ?_) | (refine wpList_store_row rfl 28 _ _ rfl w.heap.size (accArr ws) rfl rfl 28 (accArr zeros68) H0.out.heap (by rw [accArr_size, hln]; exact acc_info) (by rw [accArr_size, accArr_size, hln]; rfl) (accArr_one _) ?_))
  clear HA H0
  generalize (w.alloc (.cells Talg.zeroCells28 28)).setRow w.heap.size (accArr ws) = w1 at HC HL ⊢
  refine (HS.out _ HC.out).mono ?_
  rintro e w' ⟨rfl, rfl⟩
  clear HS
  generalize hsn : signB ws = sn at HSg ⊢
  clear hsn
  go_wp2_with fail
  refine (HAb.out _ HC.out).mono ?_
  rintro e w2 ⟨rfl, ws2, p1, p2, p3⟩
  have hN : Ac.accV ws2 = t.natAbs * sc := by
    have h1 := abs_half hb
    have h2 := p2.nat (Int.natCast_nonneg _) (Int.ofNat_lt.2 h1)
    rw [Int.natAbs_mul, Int.natAbs_natCast] at h2
    exact Int.ofNat_inj.1 h2
  have H2 := hide p1
  have HL2 := hide (HL.out.grown p3 HL.out.size (fun q hq => by simp at hq; omega))
  have HT2 := hide (hT.below HL2.out)
  have hl2 := p2.1
  have hw2 := hide p2.2.1
  clear p1 p2 p3 HC HL HAb
  rw [HSg.out]
  by_cases h0 : t = 0
  · subst h0
    have HTop := hide (show topB ws2 = -1 by unfold topB; rw [if_pos (by rw [hN]; simp)])
    clear hN
    go_wp2_with fail
    refine (highest_any w.heap.size 28 ws2 w2 H2.out hl2 hw2.out).mono ?_
    rintro e wx ⟨rfl, hwx⟩
    subst wx
    rw [HTop.out]
    go_wp2
    go_ret
    exact ⟨ret_float enc_zero.symm, HL2.out⟩
  · have hn0 : t.natAbs ≠ 0 := by omega
    have hex := rbd_ex hb
    have hpos : Ac.accV ws2 ≠ 0 := by rw [hN]; have := Nat.mul_pos (show 0 < t.natAbs by omega) sc_pos; omega
    have HTop := hide (show topB ws2 = ((t.natAbs.log2 + 1074 : Nat) : Int) by unfold topB; rw [if_neg hpos, hN, rp_log hn0])
    have HMan := hide (show Ac.accV ws2 / 2 ^ (1074 + Fl.ex t.natAbs) % 9007199254740992 = t.natAbs / 2 ^ Fl.ex t.natAbs by rw [hN]; exact rp_man _)
    have hup := rp_up t.natAbs
    rw [← hN] at hup
    have hrne := rne_up t.natAbs
    rw [← hup] at hrne
    have HRes := hide (enc_word hb h0).symm
    have HRp := hide (rne_pos hn0)
    have HRb := hide (rne_big t.natAbs)
    have hr2 := Fl.rne_le t.natAbs
    have hq := Fl.quot_lt t.natAbs
    have hexd : Fl.ex t.natAbs = t.natAbs.log2 - 52 := rfl
    have hodd := and1_plain (t.natAbs / 2 ^ Fl.ex t.natAbs) (by omega)
    generalize hbt : decide (Ac.accV ws2 / 2 ^ (1073 + Fl.ex t.natAbs) % 2 = 1) = bt at *
    generalize han : decide (Ac.accV ws2 % 2 ^ (1073 + Fl.ex t.natAbs) ≠ 0) = an at *
    generalize decide (t.natAbs / 2 ^ Fl.ex t.natAbs % 2 = 1) = od at *
    generalize decide (t < 0) = neg at *
    generalize t.natAbs / 2 ^ Fl.ex t.natAbs = m at *
    generalize Fl.rne t.natAbs (Fl.ex t.natAbs) = r at *
    generalize Fl.ex t.natAbs = d at *
    generalize t.natAbs.log2 = l at *
    generalize hX : ((if neg then 9223372036854775808 else 0) + (d * 4503599627370496 + r)) = X at HRes
    have HX := hide hX
    clear hX
    have HBt := hide hbt
    have HAn := hide han
    clear hbt han hN hup hpos hn0 h0 hb hln
    by_cases hl : l < 52
    · have hd0 : d = 0 := by omega
      clear hexd
      cases bt
      · have HRe := hide (show (r : Int) = (m : Int) by rw [hrne]; simp)
        clear hrne
        go_wp2_with fail
        refine (highest_any w.heap.size 28 ws2 w2 H2.out hl2 hw2.out).mono ?_
        rintro e wx ⟨rfl, hwx⟩
        subst wx
        rw [HTop.out]
        go_wp2_with fail
        refine (field_I w.heap.size 28 (1074 + d) ws2 w2 H2.out hl2 hw2.out (by omega) (by omega)).mono ?_
        rintro e wx ⟨rfl, hwx⟩
        subst wx
        rw [HMan.out]
        go_wp2_with fail
        refine (bit_I w.heap.size 28 (1073 + d) ws2 w2 H2.out hl2 hw2.out (by omega) (by omega)).mono ?_
        rintro e wx ⟨rfl, hwx⟩
        subst wx
        rw [HBt.out]
        go_wp2_with fail
        refine (join64_I neg r d w2 HT2.out HRp.out hr2 HRb.out (by omega) (by simp [HRe.out]) (by omega)).mono ?_
        rintro e w3 ⟨rfl, n3, rfl⟩
        rw [HX.out]
        have HL3 := hide (HL2.out.grown (gb_drewN w2 n3 none) HL2.out.size (fun q hq => by simp at hq))
        generalize w2.drewN n3 = w3 at HL3 ⊢
        go_wp2
        go_ret
        exact ⟨ret_float HRes.out, HL3.out⟩
      · cases od
        · cases an
          · have HRe := hide (show (r : Int) = (m : Int) by rw [hrne]; simp)
            clear hrne
            go_wp2_with fail
            refine (highest_any w.heap.size 28 ws2 w2 H2.out hl2 hw2.out).mono ?_
            rintro e wx ⟨rfl, hwx⟩
            subst wx
            rw [HTop.out]
            go_wp2_with fail
            refine (field_I w.heap.size 28 (1074 + d) ws2 w2 H2.out hl2 hw2.out (by omega) (by omega)).mono ?_
            rintro e wx ⟨rfl, hwx⟩
            subst wx
            rw [HMan.out]
            go_wp2_with fail
            refine (bit_I w.heap.size 28 (1073 + d) ws2 w2 H2.out hl2 hw2.out (by omega) (by omega)).mono ?_
            rintro e wx ⟨rfl, hwx⟩
            subst wx
            rw [HBt.out]
            go_wp2_with fail
            refine (below_I w.heap.size 28 (1073 + d) ws2 w2 H2.out hl2 hw2.out (by omega) (by omega)).mono ?_
            rintro e wx ⟨rfl, hwx⟩
            subst wx
            rw [HAn.out]
            go_wp2_with fail
            refine (join64_I neg r d w2 HT2.out HRp.out hr2 HRb.out (by omega) (by simp [HRe.out]) (by omega)).mono ?_
            rintro e w3 ⟨rfl, n3, rfl⟩
            rw [HX.out]
            have HL3 := hide (HL2.out.grown (gb_drewN w2 n3 none) HL2.out.size (fun q hq => by simp at hq))
            generalize w2.drewN n3 = w3 at HL3 ⊢
            go_wp2
            go_ret
            exact ⟨ret_float HRes.out, HL3.out⟩
          · have HRe := hide (show (r : Int) = (m : Int) + 1 by rw [hrne]; simp)
            clear hrne
            go_wp2_with fail
            refine (highest_any w.heap.size 28 ws2 w2 H2.out hl2 hw2.out).mono ?_
            rintro e wx ⟨rfl, hwx⟩
            subst wx
            rw [HTop.out]
            go_wp2_with fail
            refine (field_I w.heap.size 28 (1074 + d) ws2 w2 H2.out hl2 hw2.out (by omega) (by omega)).mono ?_
            rintro e wx ⟨rfl, hwx⟩
            subst wx
            rw [HMan.out]
            go_wp2_with fail
            refine (bit_I w.heap.size 28 (1073 + d) ws2 w2 H2.out hl2 hw2.out (by omega) (by omega)).mono ?_
            rintro e wx ⟨rfl, hwx⟩
            subst wx
            rw [HBt.out]
            go_wp2_with fail
            refine (below_I w.heap.size 28 (1073 + d) ws2 w2 H2.out hl2 hw2.out (by omega) (by omega)).mono ?_
            rintro e wx ⟨rfl, hwx⟩
            subst wx
            rw [HAn.out]
            go_wp2_with fail
            refine (join64_I neg r d w2 HT2.out HRp.out hr2 HRb.out (by omega) (by simp [HRe.out]) (by omega)).mono ?_
            rintro e w3 ⟨rfl, n3, rfl⟩
            rw [HX.out]
            have HL3 := hide (HL2.out.grown (gb_drewN w2 n3 none) HL2.out.size (fun q hq => by simp at hq))
            generalize w2.drewN n3 = w3 at HL3 ⊢
            go_wp2
            go_ret
            exact ⟨ret_float HRes.out, HL3.out⟩
        · have HRe := hide (show (r : Int) = (m : Int) + 1 by rw [hrne]; simp)
          clear hrne
          go_wp2_with fail
          refine (highest_any w.heap.size 28 ws2 w2 H2.out hl2 hw2.out).mono ?_
          rintro e wx ⟨rfl, hwx⟩
          subst wx
          rw [HTop.out]
          go_wp2_with fail
          refine (field_I w.heap.size 28 (1074 + d) ws2 w2 H2.out hl2 hw2.out (by omega) (by omega)).mono ?_
          rintro e wx ⟨rfl, hwx⟩
          subst wx
          rw [HMan.out]
          go_wp2_with fail
          refine (bit_I w.heap.size 28 (1073 + d) ws2 w2 H2.out hl2 hw2.out (by omega) (by omega)).mono ?_
          rintro e wx ⟨rfl, hwx⟩
          subst wx
          rw [HBt.out]
          go_wp2_with fail
          refine (join64_I neg r d w2 HT2.out HRp.out hr2 HRb.out (by omega) (by simp [HRe.out]) (by omega)).mono ?_
          rintro e w3 ⟨rfl, n3, rfl⟩
          rw [HX.out]
          have HL3 := hide (HL2.out.grown (gb_drewN w2 n3 none) HL2.out.size (fun q hq => by simp at hq))
          generalize w2.drewN n3 = w3 at HL3 ⊢
          go_wp2
          go_ret
          exact ⟨ret_float HRes.out, HL3.out⟩
    · have hld : l = d + 52 := by omega
      clear hexd
      cases bt
      · have HRe := hide (show (r : Int) = (m : Int) by rw [hrne]; simp)
        clear hrne
        go_wp2_with fail
        refine (highest_any w.heap.size 28 ws2 w2 H2.out hl2 hw2.out).mono ?_
        rintro e wx ⟨rfl, hwx⟩
        subst wx
        rw [HTop.out]
        go_wp2_with fail
        refine (field_I w.heap.size 28 (1074 + d) ws2 w2 H2.out hl2 hw2.out (by omega) (by omega)).mono ?_
        rintro e wx ⟨rfl, hwx⟩
        subst wx
        rw [HMan.out]
        go_wp2_with fail
        refine (bit_I w.heap.size 28 (1073 + d) ws2 w2 H2.out hl2 hw2.out (by omega) (by omega)).mono ?_
        rintro e wx ⟨rfl, hwx⟩
        subst wx
        rw [HBt.out]
        go_wp2_with fail
        refine (join64_I neg r d w2 HT2.out HRp.out hr2 HRb.out (by omega) (by simp [HRe.out]) (by omega)).mono ?_
        rintro e w3 ⟨rfl, n3, rfl⟩
        rw [HX.out]
        have HL3 := hide (HL2.out.grown (gb_drewN w2 n3 none) HL2.out.size (fun q hq => by simp at hq))
        generalize w2.drewN n3 = w3 at HL3 ⊢
        go_wp2
        go_ret
        exact ⟨ret_float HRes.out, HL3.out⟩
      · cases od
        · cases an
          · have HRe := hide (show (r : Int) = (m : Int) by rw [hrne]; simp)
            clear hrne
            go_wp2_with fail
            refine (highest_any w.heap.size 28 ws2 w2 H2.out hl2 hw2.out).mono ?_
            rintro e wx ⟨rfl, hwx⟩
            subst wx
            rw [HTop.out]
            go_wp2_with fail
            refine (field_I w.heap.size 28 (1074 + d) ws2 w2 H2.out hl2 hw2.out (by omega) (by omega)).mono ?_
            rintro e wx ⟨rfl, hwx⟩
            subst wx
            rw [HMan.out]
            go_wp2_with fail
            refine (bit_I w.heap.size 28 (1073 + d) ws2 w2 H2.out hl2 hw2.out (by omega) (by omega)).mono ?_
            rintro e wx ⟨rfl, hwx⟩
            subst wx
            rw [HBt.out]
            go_wp2_with fail
            refine (below_I w.heap.size 28 (1073 + d) ws2 w2 H2.out hl2 hw2.out (by omega) (by omega)).mono ?_
            rintro e wx ⟨rfl, hwx⟩
            subst wx
            rw [HAn.out]
            go_wp2_with fail
            refine (join64_I neg r d w2 HT2.out HRp.out hr2 HRb.out (by omega) (by simp [HRe.out]) (by omega)).mono ?_
            rintro e w3 ⟨rfl, n3, rfl⟩
            rw [HX.out]
            have HL3 := hide (HL2.out.grown (gb_drewN w2 n3 none) HL2.out.size (fun q hq => by simp at hq))
            generalize w2.drewN n3 = w3 at HL3 ⊢
            go_wp2
            go_ret
            exact ⟨ret_float HRes.out, HL3.out⟩
          · have HRe := hide (show (r : Int) = (m : Int) + 1 by rw [hrne]; simp)
            clear hrne
            go_wp2_with fail
            refine (highest_any w.heap.size 28 ws2 w2 H2.out hl2 hw2.out).mono ?_
            rintro e wx ⟨rfl, hwx⟩
            subst wx
            rw [HTop.out]
            go_wp2_with fail
            refine (field_I w.heap.size 28 (1074 + d) ws2 w2 H2.out hl2 hw2.out (by omega) (by omega)).mono ?_
            rintro e wx ⟨rfl, hwx⟩
            subst wx
            rw [HMan.out]
            go_wp2_with fail
            refine (bit_I w.heap.size 28 (1073 + d) ws2 w2 H2.out hl2 hw2.out (by omega) (by omega)).mono ?_
            rintro e wx ⟨rfl, hwx⟩
            subst wx
            rw [HBt.out]
            go_wp2_with fail
            refine (below_I w.heap.size 28 (1073 + d) ws2 w2 H2.out hl2 hw2.out (by omega) (by omega)).mono ?_
            rintro e wx ⟨rfl, hwx⟩
            subst wx
            rw [HAn.out]
            go_wp2_with fail
            refine (join64_I neg r d w2 HT2.out HRp.out hr2 HRb.out (by omega) (by simp [HRe.out]) (by omega)).mono ?_
            rintro e w3 ⟨rfl, n3, rfl⟩
            rw [HX.out]
            have HL3 := hide (HL2.out.grown (gb_drewN w2 n3 none) HL2.out.size (fun q hq => by simp at hq))
            generalize w2.drewN n3 = w3 at HL3 ⊢
            go_wp2
            go_ret
            exact ⟨ret_float HRes.out, HL3.out⟩
        · have HRe := hide (show (r : Int) = (m : Int) + 1 by rw [hrne]; simp)
          clear hrne
          go_wp2_with fail
          refine (highest_any w.heap.size 28 ws2 w2 H2.out hl2 hw2.out).mono ?_
          rintro e wx ⟨rfl, hwx⟩
          subst wx
          rw [HTop.out]
          go_wp2_with fail
          refine (field_I w.heap.size 28 (1074 + d) ws2 w2 H2.out hl2 hw2.out (by omega) (by omega)).mono ?_
          rintro e wx ⟨rfl, hwx⟩
          subst wx
          rw [HMan.out]
          go_wp2_with fail
          refine (bit_I w.heap.size 28 (1073 + d) ws2 w2 H2.out hl2 hw2.out (by omega) (by omega)).mono ?_
          rintro e wx ⟨rfl, hwx⟩
          subst wx
          rw [HBt.out]
          go_wp2_with fail
          refine (join64_I neg r d w2 HT2.out HRp.out hr2 HRb.out (by omega) (by simp [HRe.out]) (by omega)).mono ?_
          rintro e w3 ⟨rfl, n3, rfl⟩
          rw [HX.out]
          have HL3 := hide (HL2.out.grown (gb_drewN w2 n3 none) HL2.out.size (fun q hq => by simp at hq))
          generalize w2.drewN n3 = w3 at HL3 ⊢
          go_wp2
          go_ret
          exact ⟨ret_float HRes.out, HL3.out⟩
end Go.Proofs.YgctalDoor
