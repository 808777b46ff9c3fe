/- The small functions of the two packages: what each call returns. -/
import Derived.Test.YtkenicdcelhdcaaRows
import Derived.Test.YtkenicdcelhdcaaM2
import Derived.WalkKit
import Derived.WalkSpells
import Derived.WalkLawsBesides
import Derived.Lib.Bytealg
import Derived.Lib.Hide
namespace Go.Proofs.Ytkenicdcelhdcaa
open Go.RowKit

theorem ret_bool {a b : Bool} (h : a = b) : Ending.returned (.bool a) = .returned (.bool b) := by rw [h]
theorem ret_int {k : IntKind} {a b : Int} (h : a = b) : Ending.returned (.int k a) = .returned (.int k b) := by rw [h]
theorem ret_str {a b : ByteArray} (h : a = b) : Ending.returned (.string a) = .returned (.string b) := by rw [h]

theorem isOption_any (c : Int) (w : World) :
    Calls Try.prog 20 #[.int .u8 c] w fun e w' => e = .returned (.bool (optB c)) ∧ w = w' := by
  go_enter Try.func20, Try.ntmps20
  go_wp2
  all_goals (go_ret; exact ⟨ret_bool (by unfold optB; rw [Bool.eq_iff_iff]; simp; omega), rfl⟩)

theorem letter_any (c : Int) (w : World) :
    Calls Try.prog 26 #[.int .u8 c] w fun e w' => e = .returned (.bool (optB c)) ∧ w = w' := by
  go_enter Try.func26, Try.ntmps26
  go_wp2
  all_goals (go_ret; exact ⟨ret_bool (by unfold optB; rw [Bool.eq_iff_iff]; simp; omega), rfl⟩)

def colon (s : ByteArray) : Bool := s.data.toList.head? == some 58

theorem head_take (l : Bs) : ((l.drop 0).take (1 - 0) == [58]) = (l.head? == some 58) := by
  cases l with
  | nil => rfl
  | cons c r => simp

theorem hasPrefix_any (s : ByteArray) (w : World) (hs : s.size ≤ maxLen) :
    Calls Try.prog 29 #[.string s, .string ⟨#[58]⟩] w fun e w' => e = .returned (.bool (colon s)) ∧ w = w' := by
  unfold maxLen at hs
  by_cases h : 1 ≤ s.size
  · go_enter Try.func29, Try.ntmps29
    go_wp2
    go_ret
    exact ⟨ret_bool (by rw [Lib.extract_toList, head_take]; rfl), rfl⟩
  · go_enter Try.func29, Try.ntmps29
    go_wp2
    go_ret
    refine ⟨ret_bool ?_, rfl⟩
    have : s.data.toList = [] := List.eq_nil_of_length_eq_zero (by rw [← Lib.size_eq]; omega)
    simp [colon, this]

theorem hasPrefix2_any (s : ByteArray) (w : World) (hs : s.size ≤ maxLen) :
    Calls Try.prog 31 #[.string s, .string ⟨#[58]⟩] w fun e w' => e = .returned (.bool (colon s)) ∧ w = w' := by
  go_enter Try.func31, Try.ntmps31
  go_wp2_with (go_at_call 29; refine (hasPrefix_any _ _ hs).mono ?_; rintro e w' ⟨rfl, rfl⟩)
  go_ret
  exact ⟨rfl, rfl⟩

theorem silent_any (s : ByteArray) (w : World) (hs : s.size ≤ maxLen) :
    Calls Try.prog 28 #[.string s] w fun e w' => e = .returned (.bool (colon s)) ∧ w = w' := by
  go_enter Try.func28, Try.ntmps28
  go_wp2_with (go_at_call 31; refine (hasPrefix2_any _ _ hs).mono ?_; rintro e w' ⟨rfl, rfl⟩)
  go_ret
  exact ⟨rfl, rfl⟩

def trimB (s : ByteArray) : ByteArray := if colon s then s.extract 1 s.size else s

theorem trimB_list (s : ByteArray) : (trimB s).data.toList = body s.data.toList := by
  unfold trimB colon
  generalize hl : s.data.toList = l
  cases l with
  | nil => simp [body, hl]
  | cons c r =>
    by_cases hc : c = 58
    · simp only [List.head?_cons, hc, beq_self_eq_true, if_true, body]
      rw [Lib.extract_data, hl, hc, Lib.size_eq, hl]; simp
    · simp [body, hc, hl]

theorem trimB_size (s : ByteArray) : (trimB s).size ≤ s.size := by
  unfold trimB; split
  · simp
  · exact Nat.le_refl _

theorem trimPrefix0_any (s : ByteArray) (w : World) (hs : s.size ≤ maxLen) :
    Calls Try.prog 25 #[.string s, .string ⟨#[58]⟩] w fun e w' => e = .returned (.string (trimB s)) ∧ w = w' := by
  have hs2 := hs
  unfold maxLen at hs2
  by_cases h : colon s = true
  · have h1 : 1 ≤ s.size := by
      rw [Lib.size_eq]
      unfold colon at h
      cases hl : s.data.toList with
      | nil => rw [hl] at h; simp at h
      | cons c r => simp
    have hT : Hid (trimB s = s.extract 1 s.size) := by unfold trimB; rw [h]; rfl
    go_enter Try.func25, Try.ntmps25
    go_wp2_with (go_at_call 29; refine (hasPrefix_any _ _ hs).mono ?_; rintro e w' ⟨rfl, rfl⟩)
    go_ret
    exact ⟨ret_str hT.out.symm, rfl⟩
  · have h' : colon s = false := by simpa using h
    have hT : Hid (trimB s = s) := by unfold trimB; rw [h']; rfl
    go_enter Try.func25, Try.ntmps25
    go_wp2_with (go_at_call 29; refine (hasPrefix_any _ _ hs).mono ?_; rintro e w' ⟨rfl, rfl⟩)
    go_ret
    exact ⟨ret_str hT.out.symm, rfl⟩

theorem trimPrefix_any (s : ByteArray) (w : World) (hs : s.size ≤ maxLen) :
    Calls Try.prog 19 #[.string s, .string ⟨#[58]⟩] w fun e w' => e = .returned (.string (trimB s)) ∧ w = w' := by
  go_enter Try.func19, Try.ntmps19
  go_wp2_with (go_at_call 25; refine (trimPrefix0_any _ _ hs).mono ?_; rintro e w' ⟨rfl, rfl⟩)
  go_ret
  exact ⟨rfl, rfl⟩

theorem run_33 (s : ByteArray) (c : Int) (w : World) :
    (callFunc 33 #[.string s, .int .u8 c]).run Try.prog w = .ok (.value (.int .i64 (Lib.indexByte s.data.toList c.toNat.toUInt8))) w := by
  rw [run_callFunc_extern Try.func33 (by kernel_rfl) (by kernel_rfl) (by kernel_rfl) (e := Extern.BytealgIndexByte.indexByte) (by kernel_rfl), Lib.run_indexByteString]
  rfl

theorem indexByte0_any (s : ByteArray) (c at_ : Int) (w : World) (h : Lib.indexByte s.data.toList c.toNat.toUInt8 = at_) :
    Calls Try.prog 32 #[.string s, .int .u8 c] w fun e w' => e = .returned (.int .i64 at_) ∧ w = w' := by
  have h33 : ∀ w, (callFunc 33 #[.string s, .int .u8 c]).run Try.prog w = .ok (.value (.int .i64 at_)) w := fun w => by rw [run_33, h]
  clear h
  go_enter Try.func32, Try.ntmps32
  go_wp2
  go_ret
  exact ⟨rfl, rfl⟩

theorem indexByte_any (s : ByteArray) (c at_ : Int) (w : World) (h : Lib.indexByte s.data.toList c.toNat.toUInt8 = at_) :
    Calls Try.prog 30 #[.string s, .int .u8 c] w fun e w' => e = .returned (.int .i64 at_) ∧ w = w' := by
  have H := Lib.hid h
  clear h
  go_enter Try.func30, Try.ntmps30
  go_wp2_with (go_at_call 32; refine (indexByte0_any _ _ _ _ H.out).mono ?_; rintro e w' ⟨rfl, rfl⟩)
  go_ret
  exact ⟨rfl, rfl⟩

theorem look_none {l : Bs} {c : UInt8} (h : look l c = none) : Lib.indexByte l c = -1 := by
  induction l with
  | nil => rfl
  | cons d r ih =>
    unfold look at h
    by_cases hd : d = c
    · simp [hd] at h
    · rw [if_neg hd] at h
      simp [Lib.indexByte, hd, ih h]

theorem look_some {l : Bs} {c : UInt8} {x : Bool} (h : look l c = some x) : ∃ k : Nat, k < l.length ∧ Lib.indexByte l c = k ∧ x = (l[k + 1]? == some 58) := by
  induction l with
  | nil => simp [look] at h
  | cons d r ih =>
    unfold look at h
    by_cases hd : d = c
    · simp only [hd, if_true, Option.some.injEq] at h
      refine ⟨0, by simp, by simp [Lib.indexByte, hd], ?_⟩
      rw [← h]; cases r <;> simp
    · rw [if_neg hd] at h
      obtain ⟨k, hk, he, hx⟩ := ih h
      refine ⟨k + 1, by simp; omega, ?_, by simpa using hx⟩
      have h1 : ((k : Int) == -1) = false := by rw [beq_eq_false_iff_ne]; omega
      simp [Lib.indexByte, hd, he, h1]

set_option maxHeartbeats 400000 in
theorem outcome_any (s : ByteArray) (c : UInt8) (rest : ByteArray) (more : Bool) (w : World) (hs : s.size ≤ maxLen) :
    Calls Try.prog 27 #[.string s, .int .u8 c.toNat, .string rest, .bool more] w fun e w' => e = .returned (.int .i64 (outS s.data.toList c rest.data.toList more)) ∧ w = w' := by
  unfold maxLen at hs
  have hcc : ((c.toNat : Int)).toNat.toUInt8 = c := by simp
  by_cases ho : opt c = true
  · have ho' : optB (c.toNat : Int) = true := ho
    cases hl : look s.data.toList c with
    | none =>
      have hT : Hid (outS s.data.toList c rest.data.toList more = 0) := by show _ = _; simp [outS, ho, hl]
      have hI := Lib.hid (fun w => indexByte_any s (c.toNat : Int) (-1) w (by rw [hcc]; exact look_none hl))
      clear hl ho hcc
      go_enter Try.func27, Try.ntmps27
      go_wp2_with (first | (go_at_call 30; refine (hI.out _).mono ?_; rintro e w' ⟨rfl, rfl⟩) | (go_at_call 20; refine (isOption_any _ _).mono ?_; rintro e w' ⟨rfl, rfl⟩))
      go_ret
      exact ⟨ret_int hT.out.symm, rfl⟩
    | some x =>
      obtain ⟨k, hk, hix, hx⟩ := look_some hl
      rw [← Lib.size_eq] at hk
      have hI := Lib.hid (fun w => indexByte_any s (c.toNat : Int) k w (by rw [hcc]; exact hix))
      have hT := Lib.hid (show outS s.data.toList c rest.data.toList more = if x then (if rest.data.toList ≠ [] then 2 else if more then 3 else 4) else 1 by cases x <;> simp [outS, ho, hl])
      clear hl ho hcc hix
      by_cases hk1 : k + 1 < s.size
      · have hx' : x = (s[k + 1] == 58) := by
          rw [hx, List.getElem?_eq_getElem (by rw [← Lib.size_eq]; exact hk1)]
          rfl
        clear hx
        cases x with
        | false =>
          have h58 : ((s[k + 1].toNat : Int) != 58) = true := by
            rw [bne_iff_ne]; intro h
            have : s[k + 1] = 58 := UInt8.toNat_inj.1 (by simp; omega)
            rw [this] at hx'; simp at hx'
          clear hx'
          go_enter Try.func27, Try.ntmps27
          go_wp2_with (first | (go_at_call 30; refine (hI.out _).mono ?_; rintro e w' ⟨rfl, rfl⟩) | (go_at_call 20; refine (isOption_any _ _).mono ?_; rintro e w' ⟨rfl, rfl⟩))
          go_ret
          exact ⟨ret_int (by rw [hT.out]; rfl), rfl⟩
        | true =>
          have h58 : ((s[k + 1].toNat : Int) != 58) = false := by
            have : s[k + 1] = 58 := by simpa using hx'.symm
            rw [this]; rfl
          clear hx'
          by_cases hr : rest.toList.isEmpty = true
          · have hr2 := hr
            rw [Lib.toList_data, List.isEmpty_iff] at hr2
            have hT2 := Lib.hid (show outS s.data.toList c rest.data.toList more = if more then 3 else 4 by rw [hT.out, hr2]; simp)
            clear hT hr2
            cases more
            all_goals
              go_enter Try.func27, Try.ntmps27
              go_wp2_with (first | (go_at_call 30; refine (hI.out _).mono ?_; rintro e w' ⟨rfl, rfl⟩) | (go_at_call 20; refine (isOption_any _ _).mono ?_; rintro e w' ⟨rfl, rfl⟩))
              go_ret
              exact ⟨ret_int (by rw [hT2.out]; rfl), rfl⟩
          · have hr' : rest.toList.isEmpty = false := by simpa using hr
            have hr2 := hr
            rw [Lib.toList_data, List.isEmpty_iff] at hr2
            have hT2 := Lib.hid (show outS s.data.toList c rest.data.toList more = 2 by rw [hT.out, if_pos rfl, if_pos hr2])
            clear hT hr2 hr
            go_enter Try.func27, Try.ntmps27
            go_wp2_with (first | (go_at_call 30; refine (hI.out _).mono ?_; rintro e w' ⟨rfl, rfl⟩) | (go_at_call 20; refine (isOption_any _ _).mono ?_; rintro e w' ⟨rfl, rfl⟩))
            go_ret
            exact ⟨ret_int (by rw [hT2.out]), rfl⟩
      · have hx' : x = false := by
          rw [hx, List.getElem?_eq_none (by rw [← Lib.size_eq]; omega)]
          rfl
        subst hx'
        clear hx
        go_enter Try.func27, Try.ntmps27
        go_wp2_with (first | (go_at_call 30; refine (hI.out _).mono ?_; rintro e w' ⟨rfl, rfl⟩) | (go_at_call 20; refine (isOption_any _ _).mono ?_; rintro e w' ⟨rfl, rfl⟩))
        go_ret
        exact ⟨ret_int (by rw [hT.out]; rfl), rfl⟩
  · have ho' : optB (c.toNat : Int) = false := by simpa [opt] using ho
    have hT : Hid (outS s.data.toList c rest.data.toList more = 0) := by show _ = _; simp [outS, ho]
    have hI := Lib.hid (fun w => indexByte_any s (c.toNat : Int) _ w rfl)
    clear ho hcc
    go_enter Try.func27, Try.ntmps27
    go_wp2_with (first | (go_at_call 30; refine (hI.out _).mono ?_; rintro e w' ⟨rfl, rfl⟩) | (go_at_call 20; refine (isOption_any _ _).mono ?_; rintro e w' ⟨rfl, rfl⟩))
    go_ret
    exact ⟨ret_int hT.out.symm, rfl⟩

end Go.Proofs.Ytkenicdcelhdcaa
