import Derived.Test.YgctalWi
import Derived.Test.YgctalFl6
namespace Go.Proofs.Ygctal
open Go.RowKit
set_option maxHeartbeats 1000000
set_option linter.unusedVariables false
attribute [local go_sem] run_store_float

/-! Grow. -/
theorem ne_zero {x : Nat} (hx : Fl.Fin x) : (FloatKind.f64.format.order x 0 != some .eq) = !decide (Fl.V x = 0) := by
  have := Fl.order_fin hx Fl.fin_zero
  rw [Fl.V_zero] at this
  rw [show FloatKind.f64.format = Ieee.double from rfl, this]
  by_cases h1 : Fl.V x < 0
  · rw [if_pos h1, decide_eq_false (by omega)]; rfl
  · rw [if_neg h1]
    by_cases h2 : Fl.V x = 0
    · rw [if_pos h2, decide_eq_true h2]; rfl
    · rw [if_neg h2, decide_eq_false h2]; rfl
theorem eq_zero {x : Nat} (hx : Fl.Fin x) : (FloatKind.f64.format.order x 0 == some .eq) = decide (Fl.V x = 0) := by
  have := ne_zero hx
  unfold bne at this
  cases h : (FloatKind.f64.format.order x 0 == some .eq) <;> rw [h] at this <;> simpa using this

/-- The row that a list of partials lies in. -/
def Own (w : World) (base : Nat) (v : Value) (ps : List Nat) : Prop := w.ownsRow base 29 1 v ps.length (ps.map (.float .f64))
theorem Own.below {w w' : World} {base B : Nat} {v : Value} {ps : List Nat} (h : Own w base v ps) (hb : Below B w w') (hB : w.heap.size ≤ B) : Own w' base v ps := by
  obtain ⟨h1, h2⟩ := h
  refine ⟨h1, ?_⟩
  rcases h2 with h2 | ⟨g, cap, cur, hv, hg, hh, hr⟩
  · exact .inl h2
  · refine .inr ⟨g, cap, cur, hv, hg, ?_, hr⟩
    rw [hb.block g (by have := lt_of_block hh; omega)]
    exact hh

/-- Behind k rounds of Grow's loop. -/
structure GRel (g n cap base : Nat) (ps : List Nat) (x : Nat) (w wr : World) (k : Nat) (hs : List Nat) (xk : Nat) (cs : List Value) : Prop where
  kn : k ≤ n
  hk : hs.length ≤ k
  eq : Fl.growL ps x = hs ++ Fl.growL (ps.drop k) xk
  room : Fl.Room (ps.drop k) xk
  blk : Blk wr g 29 cs
  len : cs.length = cap
  done : ∀ j, j < hs.length → cs[j]? = some (.float .f64 (hs.getD j 0))
  left : ∀ j, k ≤ j → j < n → cs[j]? = some (.float .f64 (ps.getD j 0))
  bel : Below base w wr
theorem drop_cons (ps : List Nat) (k : Nat) (h : k < ps.length) : ps.drop k = ps.getD k 0 :: ps.drop (k + 1) := by
  rw [List.drop_eq_getElem_cons h]
  simp [List.getD_eq_getElem?_getD, List.getElem?_eq_getElem h]
theorem GRel.keep {g cap base : Nat} {ps : List Nat} {x : Nat} {w wr : World} {k : Nat} {hs : List Nat} {xk : Nat} {cs : List Value} (h : GRel g ps.length cap base ps x w wr k hs xk cs) (hk : k < ps.length) (hb : base ≤ g) (hc : ps.length ≤ cap)
    (he : ¬ Fl.V (Fl.tsE xk (ps.getD k 0)) = 0) :
    GRel g ps.length cap base ps x w (wr.setCell ⟨g, hs.length, none⟩ (.float .f64 (Fl.tsE xk (ps.getD k 0)))) (k + 1) (hs ++ [Fl.tsE xk (ps.getD k 0)]) (Fl.fadd xk (ps.getD k 0)) (cs.set hs.length (.float .f64 (Fl.tsE xk (ps.getD k 0)))) := by
  have hkk := h.hk
  have hr := h.room
  rw [drop_cons ps k hk] at hr
  refine ⟨by omega, by simp; omega, ?_, hr.step.1, h.blk.set _ _, by simp [h.len], ?_, ?_, h.bel.setCell (by exact hb) _⟩
  · rw [h.eq, drop_cons ps k hk]
    show _ ++ (if _ then _ else _) = _
    rw [if_neg he, List.append_assoc]; rfl
  · intro j hj
    simp only [List.length_append, List.length_singleton] at hj
    by_cases e : j = hs.length
    · subst e
      rw [List.getElem?_set_self (by rw [h.len]; omega)]
      simp [List.getD_eq_getElem?_getD]
    · rw [List.getElem?_set_ne (by omega), h.done j (by omega)]
      simp [List.getD_eq_getElem?_getD, List.getElem?_append_left (show j < hs.length by omega)]
  · intro j h1 h2
    rw [List.getElem?_set_ne (by omega)]
    exact h.left j (by omega) h2
theorem GRel.drop {g cap base : Nat} {ps : List Nat} {x : Nat} {w wr : World} {k : Nat} {hs : List Nat} {xk : Nat} {cs : List Value} (h : GRel g ps.length cap base ps x w wr k hs xk cs) (hk : k < ps.length)
    (he : Fl.V (Fl.tsE xk (ps.getD k 0)) = 0) :
    GRel g ps.length cap base ps x w wr (k + 1) hs (Fl.fadd xk (ps.getD k 0)) cs := by
  have hkk := h.hk
  have hr := h.room
  rw [drop_cons ps k hk] at hr
  refine ⟨by omega, by omega, ?_, hr.step.1, h.blk, h.len, h.done, fun j h1 h2 => h.left j (by omega) h2, h.bel⟩
  rw [h.eq, drop_cons ps k hk]
  show _ ++ (if _ then _ else _) = _
  rw [if_pos he]
theorem GRel.start {g cap base : Nat} {ps : List Nat} {x : Nat} {w : World} {cs : List Value} (hr : Fl.Room ps x) (hB : Blk w g 29 cs) (hl : cs.length = cap) (hx : cs.take ps.length = ps.map (.float .f64)) :
    GRel g ps.length cap base ps x w w 0 [] x cs := by
  refine ⟨by omega, by simp, by simp, by simpa using hr, hB, hl, fun j hj => by simp at hj, ?_, Below.refl _ _⟩
  intro j _ hj
  have h1 : (cs.take ps.length)[j]? = (ps.map (Value.float .f64))[j]? := by rw [hx]
  rw [List.getElem?_take, if_pos hj] at h1
  rw [h1]
  simp [List.getD_eq_getElem?_getD, List.getElem?_eq_getElem hj]
/-- What is kept is owned. -/
theorem GRel.own {g cap base n : Nat} {ps : List Nat} {x : Nat} {w wr : World} {k : Nat} {hs : List Nat} {xk : Nat} {cs : List Value} (h : GRel g n cap base ps x w wr k hs xk cs) (hb : base ≤ g) (hc : k ≤ cap) (hm : cap ≤ maxLen) :
    wr.ownsRow base 29 1 (.slice (some ⟨g, 0, none⟩) hs.length cap) hs.length (hs.map (.float .f64)) := by
  have := owns_of_blk (base := base) h.blk h.len (n := hs.length) (by have := h.hk; omega) hm hb
  have e : cs.take hs.length = hs.map (.float .f64) := by
    refine List.ext_getElem? fun j => ?_
    by_cases hj : j < hs.length
    · rw [List.getElem?_take, if_pos hj, h.done j hj]
      simp [List.getD_eq_getElem?_getD, List.getElem?_eq_getElem hj]
    · rw [List.getElem?_eq_none (by simp; omega), List.getElem?_eq_none (by simp; omega)]
  rwa [e] at this

set_option maxRecDepth 100000 in
theorem grow_some (g cap base : Nat) (ps : List Nat) (x : Nat) (w : World) (cs : List Value) (hB : Blk w g 29 cs) (hl : cs.length = cap) (hx : cs.take ps.length = ps.map (.float .f64)) (hn : ps.length ≤ 1025) (hcap : ps.length ≤ cap) (hm : cap ≤ maxLen)
    (hb : base ≤ g) (hr : Fl.Room ps x) :
    Calls Talg.prog 25 #[.slice (some ⟨g, 0, none⟩) ps.length cap, .float .f64 x] w fun e w' => ∃ v', e = .returned v' ∧ Own w' base v' (Fl.growL ps x) ∧ Below base w w' := by
  obtain ⟨i0, hi, hz0, hz1, hz2⟩ := info_parts Talg.info29
  have HG := hide (GRel.start (base := base) hr hB hl hx)
  clear hB hl hx
  have hmm := hm
  unfold maxLen at hmm
  go_enter Talg.func25, Talg.ntmps25
  go_wp2
  go_loopw [1, 5, 6] (fun xx kept i wr => ∃ (k : Nat) (hs : List Nat) (xk : Nat) (cs : List Value), i = .int .i64 k ∧ kept = .int .i64 hs.length ∧ xx = .float .f64 xk ∧ Hid (GRel g ps.length cap base ps x w wr k hs xk cs)) (fun _ _ i _ => ps.length - (intOf i).toNat)
  case atStart => exact ⟨0, [], x, cs, rfl, rfl, rfl, HG⟩
  case round =>
    clear HG cs
    obtain ⟨k, hs, xk, cs, rfl, rfl, rfl, HG⟩ := hrel
    have hkn := HG.out.kn
    have hhk := HG.out.hk
    by_cases hlt : k < ps.length
    · have hroom := HG.out.room
      rw [drop_cons ps k hlt] at hroom
      have HT := hide (fun wx => two_any hroom.bd hroom.head (by omega) wx)
      have hne := ne_zero hroom.step.2.1
      clear hroom
      have hcell : wr.cell? ⟨g, k, none⟩ = some (.float .f64 (ps.getD k 0)) := by rw [HG.out.blk.cell]; exact HG.out.left k (Nat.le_refl _) hlt
      have hfree := HG.out.blk.free hs.length
      obtain ⟨v0, hv0⟩ : ∃ v0, wr.cell? ⟨g, hs.length, none⟩ = some v0 := ⟨cs[hs.length]'(by rw [HG.out.len]; omega), by rw [HG.out.blk.cell]; simp⟩
      by_cases he : Fl.V (Fl.tsE xk (ps.getD k 0)) = 0
      · have HN := hide (HG.out.drop hlt he)
        rw [decide_eq_true he] at hne
        clear he
        generalize ps.getD k 0 = p at *
        generalize Fl.tsE xk p = er at *
        generalize Fl.fadd xk p = s at *
        go_wp2_with (go_at_call 31; refine (Hid.out HT _).mono ?_; rintro e w' ⟨rfl, rfl⟩)
        go_roundw
        case rel => exact ⟨k + 1, hs, s, cs, by go_num, rfl, rfl, HN⟩
        case measure => simp [intOf]; omega
      · have HN := hide (HG.out.keep hlt hb hcap he)
        rw [decide_eq_false he] at hne
        clear he
        generalize ps.getD k 0 = p at *
        generalize Fl.tsE xk p = er at *
        generalize Fl.fadd xk p = s at *
        go_wp2_with (go_at_call 31; refine (Hid.out HT _).mono ?_; rintro e w' ⟨rfl, rfl⟩)
        go_roundw
        case rel => exact ⟨k + 1, hs ++ [er], s, _, by go_num, by simp, rfl, HN⟩
        case measure => simp [intOf]; omega
    · obtain rfl : k = ps.length := by omega
      have hfin : Fl.growL ps x = hs ++ (if Fl.V xk = 0 then [] else [xk]) := by
        have := HG.out.eq
        rwa [List.drop_length] at this
      have hne := ne_zero HG.out.room.2.1
      have hown := HG.out.own hb hcap hm
      have HBel := hide HG.out.bel
      have hsz : base ≤ wr.heap.size := by have := HG.out.blk.lt; omega
      clear HG
      by_cases he : Fl.V xk = 0
      · rw [if_pos he, List.append_nil] at hfin
        have HF := hide hfin
        have HO := hide hown
        rw [decide_eq_true he] at hne
        clear he hfin hown
        go_wp2
        go_ret
        exact ⟨_, rfl, by rw [Own, HF.out]; exact HO.out, HBel.out⟩
      · rw [if_neg he] at hfin
        have HF := hide hfin
        rw [decide_eq_false he] at hne
        clear he hfin
        go_wp2_with (first | (at_builtin; refine wpList_append_own _ rfl _ _ 42 rfl base 29 i0 (.float .f64 0) 1 8 Talg.underlying42 hi hz0 hz1 hz2 rfl (by decide) _ _ _ rfl (hown.alloc _) ⟨wr.heap.size, 0, none⟩ 1 1 [.float .f64 xk] rfl rfl ?c1 ?c2 ?c3 ?c4 ?c5 ?_))
        case c1 =>
          intro j u hj
          match j, hj with
          | 0, hj => simp at hj; subst hj; simp [Addr.add]
        case c2 => intro u hu; simp at hu; subst hu; rfl
        case c3 => unfold maxLen; omega
        case c4 => omega
        case c5 => simp; omega
        intro v' w1 hown' hgrow _
        have HO := hide hown'
        have HB2 := hide (((HBel.out).alloc hsz (.cells #[.float .f64 xk] 29)).grown hgrow (by simp; omega) (fun k hk => by simp [Value.ownBlock] at hk; omega))
        clear hown' hgrow hown
        go_wp2
        go_ret
        refine ⟨_, rfl, ?_, HB2.out⟩
        rw [Own, HF.out]
        simpa using HO.out

set_option maxRecDepth 100000 in
theorem grow_nil (base : Nat) (x : Nat) (w : World) (hb : base ≤ w.heap.size) (hx : Fl.Fin x) :
    Calls Talg.prog 25 #[.slice none 0 0, .float .f64 x] w fun e w' => ∃ v', e = .returned v' ∧ Own w' base v' (Fl.growL [] x) ∧ Below base w w' := by
  obtain ⟨i0, hi, hz0, hz1, hz2⟩ := info_parts Talg.info29
  have hne := ne_zero hx
  have hown := World.ownsRow_nil w base 29 1
  by_cases he : Fl.V x = 0
  · rw [decide_eq_true he] at hne
    have HF := hide (show Fl.growL [] x = [] from if_pos he)
    clear he hown
    go_enter Talg.func25, Talg.ntmps25
    go_wp2
    refine wp_loop_rounds 1 ?_
    rw [rounds_succ]
    go_wp2
    go_ret
    exact ⟨_, rfl, by rw [HF.out]; exact World.ownsRow_nil _ _ _ _, Below.refl _ _⟩
  · rw [decide_eq_false he] at hne
    have HF := hide (show Fl.growL [] x = [x] from if_neg he)
    clear he
    go_enter Talg.func25, Talg.ntmps25
    go_wp2
    refine wp_loop_rounds 1 ?_
    rw [rounds_succ]
    go_wp2_with (first | (at_builtin; refine wpList_append_own _ rfl _ _ 42 rfl base 29 i0 (.float .f64 0) 1 8 Talg.underlying42 hi hz0 hz1 hz2 rfl (by decide) _ _ _ rfl (hown.alloc _) ⟨w.heap.size, 0, none⟩ 1 1 [.float .f64 x] rfl rfl ?c1 ?c2 ?c3 ?c4 ?c5 ?_))
    case c1 =>
      intro j u hj
      match j, hj with
      | 0, hj => simp at hj; subst hj; simp [Addr.add]
    case c2 => intro u hu; simp at hu; subst hu; rfl
    case c3 => unfold maxLen; omega
    case c4 => omega
    case c5 => simp; omega
    intro v' w1 hown' hgrow _
    have HO := hide hown'
    have HB2 := hide (((Below.refl base w).alloc hb (.cells #[.float .f64 x] 29)).grown hgrow (by simp; omega) (fun k hk => by simp [Value.ownBlock] at hk))
    clear hown' hgrow hown
    go_wp2
    go_ret
    refine ⟨_, rfl, ?_, HB2.out⟩
    rw [Own, HF.out]
    simpa using HO.out
/-- Grow of whatever list of partials that the call owns. -/
theorem grow_any (base : Nat) (v : Value) (ps : List Nat) (x : Nat) (w : World) (ho : Own w base v ps) (hb : base ≤ w.heap.size) (hn : ps.length ≤ 1025) (hr : Fl.Room ps x) :
    Calls Talg.prog 25 #[v, .float .f64 x] w fun e w' => ∃ v', e = .returned v' ∧ Own w' base v' (Fl.growL ps x) ∧ Below base w w' := by
  have ho' := ho
  obtain ⟨h1, h2⟩ := ho
  rcases h2 with ⟨rfl, hz⟩ | ⟨g, cap, cur, rfl, hg, hh, h3, h4, h5, h6⟩
  · obtain rfl : ps = [] := List.eq_nil_of_length_eq_zero hz
    exact grow_nil base x w hb hr.2.1
  · obtain ⟨cs, c1, c2, c3, c4, c5⟩ := blk_of_owns ho'
    exact grow_some g cap base ps x w cs c1 c2 c3 hn h3 h4 hg hr
end Go.Proofs.Ygctal
