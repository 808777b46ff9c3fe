/- The small functions: what each call returns. -/
import Derived.Test.YtakejcabekdhcaaGreatDoorM1
import Derived.Test.YtakejcabekdhcaaGreatDoorS1
import Derived.WalkKit
import Derived.WalkSpells
import Derived.WalkLawsBesides
import Derived.Lib.Bytealg
import Derived.Lib.Hide
import Derived.Lib.OthersKept
import Derived.Laws.RangeAny
import Derived.BigCall
namespace Go.Proofs.YtakejcabekdhcaaGreatDoor
open Go.RowKit

theorem ret_bool {a b : Bool} (h : a = b) : Ending.returned (.bool a) = .returned (.bool b) := by rw [h]
theorem ret_int {k : IntKind} {a b : Int} (h : a = b) : Ending.returned (.int k a) = .returned (.int k b) := by rw [h]
theorem ret_str {a b : ByteArray} (h : a = b) : Ending.returned (.string a) = .returned (.string b) := by rw [h]

theorem letter_any (c : Int) (w : World) : Calls Tryz.prog 44 #[.int .i32 c] w fun e w' => e = .returned (.bool (letB c)) ∧ w = w' := by
  go_enter Tryz.func44, Tryz.ntmps44
  go_wp2
  all_goals (go_ret; exact ⟨ret_bool (by unfold letB; rw [Bool.eq_iff_iff]; simp; omega), rfl⟩)
theorem digit_any (c : Int) (w : World) : Calls Tryz.prog 45 #[.int .i32 c] w fun e w' => e = .returned (.bool (digB c)) ∧ w = w' := by
  go_enter Tryz.func45, Tryz.ntmps45
  go_wp2
  all_goals (go_ret; exact ⟨ret_bool (by unfold digB; rw [Bool.eq_iff_iff]; simp; omega), rfl⟩)
theorem refLetter_any (c : Int) (w : World) : Calls Tryz.prog 72 #[.int .u8 c] w fun e w' => e = .returned (.bool (letB c)) ∧ w = w' := by
  go_enter Tryz.func72, Tryz.ntmps72
  go_wp2
  all_goals (go_ret; exact ⟨ret_bool (by unfold letB; rw [Bool.eq_iff_iff]; simp; omega), rfl⟩)
theorem refDigit_any (c : Int) (w : World) : Calls Tryz.prog 73 #[.int .u8 c] w fun e w' => e = .returned (.bool (digB c)) ∧ w = w' := by
  go_enter Tryz.func73, Tryz.ntmps73
  go_wp2
  all_goals (go_ret; exact ⟨ret_bool (by unfold digB; rw [Bool.eq_iff_iff]; simp; omega), rfl⟩)
def wordB (c : Int) : Bool := letB c || digB c || decide (c = 95)
theorem refWord_any (c : Int) (w : World) : Calls Tryz.prog 48 #[.int .u8 c] w fun e w' => e = .returned (.bool (wordB c)) ∧ w = w' := by
  have hL := Lib.hid (fun W => refLetter_any c W)
  have hD := Lib.hid (fun W => refDigit_any c W)
  have hW : wordB c = (letB c || digB c || decide (c = 95)) := rfl
  rw [hW]
  generalize letB c = bl at *
  generalize digB c = bd at *
  cases bl <;> cases bd <;> (
    go_enter Tryz.func48, Tryz.ntmps48
    go_wp2_with (first | (go_at_call 72; refine (hL.out _).mono ?_; rintro e w' ⟨rfl, rfl⟩) | (go_at_call 73; refine (hD.out _).mono ?_; rintro e w' ⟨rfl, rfl⟩))
    all_goals (go_ret; exact ⟨ret_bool (by rw [Bool.eq_iff_iff]; simp), rfl⟩))

end Go.Proofs.YtakejcabekdhcaaGreatDoor
