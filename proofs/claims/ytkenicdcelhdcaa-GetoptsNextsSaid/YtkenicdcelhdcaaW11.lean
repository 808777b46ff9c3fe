/- jobshellref03.Short, small, jobshellref16.Same: what the calls return. -/
import Derived.Test.YtkenicdcelhdcaaW10
namespace Go.Proofs.Ytkenicdcelhdcaa
open Go.RowKit

/-- Few and short arguments. -/
def shB (ss : List ByteArray) : Bool := decide (ss.length ≤ 12) && ss.all fun s => decide (s.size ≤ 40)

theorem shB_len {ss : List ByteArray} (h : 12 < ss.length) : shB ss = false := by simp [shB]; omega
theorem shB_long {ss : List ByteArray} {k : Nat} (hk : k < ss.length) (h : 40 < ss[k].size) : shB ss = false := by
  simp only [shB, Bool.and_eq_false_iff]
  right
  rw [List.all_eq_false]
  exact ⟨ss[k], List.getElem_mem hk, by simp; omega⟩
theorem shB_all {ss : List ByteArray} (h : ss.length ≤ 12) (h' : ∀ k (hk : k < ss.length), ss[k].size ≤ 40) : shB ss = true := by
  simp only [shB, Bool.and_eq_true, decide_eq_true_eq, List.all_eq_true]
  refine ⟨h, fun s hs => ?_⟩
  obtain ⟨k, hk, rfl⟩ := List.getElem_of_mem hs
  exact h' k hk
theorem shB_true {ss : List ByteArray} (h : shB ss = true) : ss.length ≤ 12 ∧ ∀ s ∈ ss, s.size ≤ 40 := by
  simp only [shB, Bool.and_eq_true, decide_eq_true_eq, List.all_eq_true] at h
  exact h

set_option maxRecDepth 100000 in
set_option maxHeartbeats 400000 in
theorem short_any (ss : List ByteArray) (A : Option Addr) (n cap : Nat) (w : World) (hA : Strs w w.heap.size A n ss) (hn : n ≤ maxLen) (hz : ∀ s ∈ ss, s.size ≤ maxLen) :
    Calls Try.prog 18 #[.slice A n cap, .int .i64 12, .int .i64 40] w fun e w' => e = .returned (.bool (shB ss)) ∧ w = w' := by
  unfold maxLen at hn
  have hl := Lib.hid hA.1
  have HA := Lib.hid hA
  have HZ := Lib.hid hz
  clear hA hz
  go_enter Try.func18, Try.ntmps18
  go_wp2
  go_loop [7] (fun i => ∃ k : Nat, k ≤ n ∧ k ≤ 13 ∧ i = .int .i64 k ∧ Hid (∀ j (hj : j < ss.length), j < k → ss[j].size ≤ 40)) (fun i => n - (intOf i).toNat)
  case atStart => exact ⟨0, Nat.zero_le _, by omega, rfl, fun j _ hj => absurd hj (by omega)⟩
  case round =>
    obtain ⟨k, hk, hk13, rfl, hall⟩ := hrel
    by_cases hlt : k < n
    · by_cases h12 : k ≤ 12
      · have hkl : k < ss.length := by have := hl.out; omega
        obtain ⟨b0, off0, hAe, hb0, hc0⟩ := HA.out.2 (by omega)
        have hcell := hc0 k hkl
        have hz' := HZ.out _ (List.getElem_mem hkl)
        unfold maxLen at hz'
        clear hc0
        rw [hAe]
        clear hAe
        by_cases hsz : ss[k].size ≤ 40
        · have hall' : Hid (∀ j (hj : j < ss.length), j < k + 1 → ss[j].size ≤ 40) := fun j hj h => by
            rcases Nat.lt_succ_iff_lt_or_eq.1 h with h | h
            · exact hall.out j hj h
            · subst h; exact hsz
          generalize ss[k] = s at *
          go_wp2
          exact ⟨⟨k + 1, by omega, by omega, by go_num, hall'⟩, by simp [intOf]; omega⟩
        · have hT := Lib.hid (shB_long hkl (by omega))
          generalize ss[k] = s at *
          go_wp2
          go_ret
          exact ⟨ret_bool hT.out.symm, rfl⟩
      · have hT := Lib.hid (shB_len (ss := ss) (by have := hl.out; omega))
        have hle : decide (n ≤ 12) = false := by simp; omega
        go_wp2
        go_ret
        exact ⟨ret_bool (by rw [hT.out]; first | exact hle | (simp; omega)), rfl⟩
    · have hT : Hid (shB ss = decide (n ≤ 12)) := by
        show _ = _
        by_cases h12 : n ≤ 12
        · rw [shB_all (by have := hl.out; omega) (fun j hj => hall.out j hj (by have := hl.out; omega))]; simp [h12]
        · rw [shB_len (by have := hl.out; omega)]; simp; omega
      go_wp2
      go_ret
      exact ⟨ret_bool (by rw [hT.out]; first | rfl | (congr 1; apply propext; omega) | (rw [Bool.eq_iff_iff]; simp; omega)), rfl⟩

def smB (spec : ByteArray) (ss : List ByteArray) : Bool := decide (spec.size ≤ 40) && shB ss

theorem small_any (spec : ByteArray) (ss : List ByteArray) (A : Option Addr) (n cap : Nat) (w : World) (hA : Strs w w.heap.size A n ss) (hn : n ≤ maxLen) (hz : ∀ s ∈ ss, s.size ≤ maxLen) (hs : spec.size ≤ maxLen) :
    Calls Try.prog 12 #[.string spec, .slice A n cap] w fun e w' => e = .returned (.bool (smB spec ss)) ∧ w = w' := by
  have hS := Lib.hid (short_any ss A n cap w hA hn hz)
  unfold maxLen at hs
  clear hA hn hz
  by_cases h40 : spec.size ≤ 40
  · have hT := Lib.hid (show smB spec ss = shB ss by simp [smB, h40])
    go_enter Try.func12, Try.ntmps12
    go_wp2_with (go_at_call 18; refine (hS.out).mono ?_; rintro e w' ⟨rfl, rfl⟩)
    go_ret
    exact ⟨ret_bool (by rw [hT.out]), rfl⟩
  · have hT := Lib.hid (show smB spec ss = false by simp [smB, h40])
    go_enter Try.func12, Try.ntmps12
    go_wp2_with (go_at_call 18; refine (hS.out).mono ?_; rintro e w' ⟨rfl, rfl⟩)
    go_ret
    exact ⟨ret_bool (by rw [hT.out]), rfl⟩

end Go.Proofs.Ytkenicdcelhdcaa
