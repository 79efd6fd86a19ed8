import Derived.Test.YgctalDoorWt
import Derived.Lib.BitFns
import Derived.Lib.TrailingZeros
import Derived.Shelf.Lay
import Derived.Shelf.Strconv.Itoa0
import Derived.Shelf.Spec.TrailingZeros
namespace Go.Proofs.YgctalDoor
open Go.RowKit Go.Shelf
set_option maxHeartbeats 4000000
set_option linter.unusedVariables false
set_option linter.unusedSimpArgs false

/-! Len64, TrailingZeros64, off the shelf. -/
shelf_lay Lays.n129 Nm 129 at Talg as Talg.lays129
shelf_lay Lays7.n29 Nm7 29 at Talg as Talg.lays29
theorem len64_any (x : Nat) (hx : x < 18446744073709551616) (w : World) : Calls Talg.prog 52 #[.int .u64 (x : Int)] w fun e w' => e = .returned (.int .i64 (Lib.bitLen x)) ∧ w' = w := by
  have := Any.bits_Len64 Talg.lays129 (x : Int) w (by omega) (by omega)
  rwa [Int.toNat_natCast] at this
/-- The table lies in its variable. -/
def Tab (w : World) : Prop := TabAt 1 Lib.deBruijn64tab w
theorem tz64_any (x : Nat) (hx : x < 18446744073709551616) (w : World) (hT : Tab w) : Calls Talg.prog 57 #[.int .u64 (x : Int)] w fun e w' => e = .returned (.int .i64 (Lib.ctz 64 x)) ∧ w' = w :=
  Any7.bits_TrailingZeros64 Talg.lays29 x hx w (fun _ => hT)
theorem flen_any (x : Nat) (hx : x < 18446744073709551616) (w : World) : Calls Talg.prog 54 #[.int .u64 (x : Int)] w fun e w' => e = .returned (.int .i64 (Lib.bitLen x)) ∧ w' = w := by
  have H := hide (fun wx => len64_any x hx wx)
  generalize Lib.bitLen x = b at *
  clear hx
  go_enter Talg.func54, Talg.ntmps54
  go_wp2_with (go_at_call 52; refine (Hid.out H _).mono ?_; rintro e w' ⟨rfl, rfl⟩)
  go_ret
  exact ⟨rfl, rfl⟩
theorem alen_any (x : Nat) (hx : x < 18446744073709551616) (w : World) : Calls Talg.prog 44 #[.int .u64 (x : Int)] w fun e w' => e = .returned (.int .i64 (Lib.bitLen x)) ∧ w' = w := by
  have H := hide (fun wx => len64_any x hx wx)
  generalize Lib.bitLen x = b at *
  clear hx
  go_enter Talg.func44, Talg.ntmps44
  go_wp2_with (go_at_call 52; refine (Hid.out H _).mono ?_; rintro e w' ⟨rfl, rfl⟩)
  go_ret
  exact ⟨rfl, rfl⟩
theorem zeros_any (x : Nat) (hx : x < 18446744073709551616) (w : World) (hT : Tab w) : Calls Talg.prog 53 #[.int .u64 (x : Int)] w fun e w' => e = .returned (.int .i64 (Lib.ctz 64 x)) ∧ w' = w := by
  have H := hide (tz64_any x hx w hT)
  generalize Lib.ctz 64 x = b at *
  clear hx hT
  go_enter Talg.func53, Talg.ntmps53
  go_wp2_with (go_at_call 57; refine (Hid.out H).mono ?_; rintro e w' ⟨rfl, rfl⟩)
  go_ret
  exact ⟨rfl, rfl⟩
end Go.Proofs.YgctalDoor
