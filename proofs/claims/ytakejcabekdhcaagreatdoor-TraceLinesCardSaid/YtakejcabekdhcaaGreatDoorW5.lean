/- TraceLines: the law returns true. -/
import Derived.Test.YtakejcabekdhcaaGreatDoorW4
import Derived.Test.YtakejcabekdhcaaGreatDoorH4
import Derived.Lib.SplitLaws
import Derived.Lib.CountLaws
namespace Go.Proofs.YtakejcabekdhcaaGreatDoor
open Go.RowKit

theorem esc_cons_q (r : Bs) : escS (39 :: r) = [39, 92, 39, 39] ++ escS r := by
  unfold escS; rw [List.flatMap_cons]; rfl
theorem esc_cons (b : UInt8) (r : Bs) (h : b ≠ 39) : escS (b :: r) = b :: escS r := by
  unfold escS
  rw [List.flatMap_cons, if_neg (by simpa using h)]
  rfl
theorem replaceK_esc : ∀ l : Bs, Lib.replaceK [39] [39, 92, 39, 39] (Lib.count l [39]) l = escS l
  | [] => by
    have : Lib.count [] [39] = 0 := by rw [Lib.count_one]; rfl
    rw [this]; rfl
  | b :: r => by
    have ih := replaceK_esc r
    by_cases hb : b = 39
    · subst hb
      have h0 : Lib.index (39 :: r) [39] = ((0 : Nat) : Int) := by rw [Lib.index_one]; simp [Lib.indexByte]
      rw [Lib.count_cons_eq, Nat.add_comm 1, Lib.replaceK_hit _ _ _ _ 0 h0, esc_cons_q]
      simp only [List.take_zero, List.nil_append, List.length_cons, List.length_nil, Nat.zero_add, List.drop_succ_cons, List.drop_zero]
      rw [ih]
    · rw [Lib.count_cons_ne b 39 r hb, esc_cons b r hb]
      cases hk : Lib.count r [39] with
      | zero =>
        rw [hk] at ih
        have : r = escS r := ih
        show b :: r = b :: escS r
        rw [← this]
      | succ k =>
        rw [hk] at ih
        obtain ⟨i, hi⟩ := Lib.index_of_count (s := r) (old := [39]) (by omega)
        have hi1 : Lib.index (b :: r) [39] = ((i + 1 : Nat) : Int) := by
          rw [Lib.index_one] at hi ⊢
          unfold Lib.indexByte
          rw [if_neg (by simpa using hb), hi, if_neg (by simp)]
          omega
        rw [Lib.replaceK_hit _ _ _ _ (i + 1) hi1, ← ih, Lib.replaceK_hit _ _ _ _ i hi]
        simp only [List.take_succ_cons, List.cons_append, List.length_cons, List.length_nil, Nat.zero_add, List.drop_succ_cons]
theorem replaceAll_esc (l : Bs) : Lib.replaceAll l [39] [39, 92, 39, 39] = escS l := by
  unfold Lib.replaceAll Lib.replace Lib.replaceNum
  rw [if_neg (by decide), if_pos (Or.inl (by decide))]
  exact replaceK_esc l

/-- MaxLen's cell. -/
theorem repl_of_cell {w : World} {m : Int} (hm : w.cell? ⟨0, 0, none⟩ = some (.int .i64 m)) (s : ByteArray) (hs : s.size ≤ 1000) : ReplOk s w := by
  intro W hW
  have hlt : 0 < w.heap.size := World.block_lt_of_cell? w ⟨0, 0, none⟩ hm
  have hmW : W.cell? ⟨0, 0, none⟩ = some (.int .i64 m) := by rw [hW.cell (p := ⟨0, 0, none⟩) hlt]; exact hm
  have hc : Lib.countB s ⟨#[39]⟩ ≤ 1001 := by
    have := Lib.count_le s.data.toList [39]
    rw [len_data] at this
    show Lib.count s.data.toList [39] ≤ 1001
    omega
  have := Tryz.strings_ReplaceAll s ⟨#[39]⟩ ⟨#[39, 92, 39, 39]⟩ m W (by omega) hmW (by decide) (by
    have h4 : (⟨#[39, 92, 39, 39]⟩ : ByteArray).size = 4 := rfl
    rw [h4]; omega)
  have e : Lib.replaceAll s.data.toList (⟨#[39]⟩ : ByteArray).data.toList (⟨#[39, 92, 39, 39]⟩ : ByteArray).data.toList = escS s.data.toList := replaceAll_esc _
  rw [e] at this
  exact this

/-- What the loop over the fields finds. -/
def shortTo (ss : List ByteArray) (k : Nat) : Prop := ∀ j (hj : j < ss.length), j < k → ss[j].size ≤ 200

set_option maxHeartbeats 4000000 in
set_option maxRecDepth 100000 in
theorem law_lines (ss : List ByteArray) (A : Option Addr) (n cap : Nat) (w : World) (m : Int) (hA : Strs w w.heap.size A n ss) (hn : n ≤ maxLen) (hz : ∀ s ∈ ss, s.size ≤ maxLen) (hm : w.cell? ⟨0, 0, none⟩ = some (.int .i64 m)) :
    Calls Tryz.prog 3 #[.slice A n cap] w fun e w' => e = .returned (.bool true) ∧ Below w.heap.size w w' := by
  obtain rfl := hA.1
  have HE := Lib.hid (fun W => example_any W)
  have HA := Lib.hid hA
  have Hm := Lib.hid hm
  have HZ := Lib.hid hz
  unfold maxLen at hn
  clear hA hm hz
  by_cases h30 : ss.length ≤ 30
  · go_enter Tryz.func3, Tryz.ntmps3
    go_wp2
    go_loop [11] (fun i => ∃ k : Nat, i = .int .i64 k ∧ k ≤ ss.length ∧ Hid (shortTo ss k)) (fun i => ss.length - (Lib.intOf i).toNat)
    case atStart => exact ⟨0, rfl, Nat.zero_le _, fun j hj h => by omega⟩
    case round =>
      obtain ⟨k, rfl, hk, hsh⟩ := hrel
      by_cases hkn : k < ss.length
      · obtain ⟨b, off, rfl, hb, hc⟩ := HA.out.2 (by omega)
        have hcell := hc k hkn
        have hsk : ss[k].size ≤ 9223372036854775807 := by have := HZ.out _ (List.getElem_mem hkn); unfold maxLen at this; exact this
        have hmore : Hid (ss[k].size ≤ 200 → shortTo ss (k + 1)) := fun h j hj hjk => by
          by_cases e : j = k
          · subst e; exact h
          · exact hsh.out j hj (by omega)
        clear hc
        generalize ss[k] = f at *
        by_cases h200 : f.size ≤ 200
        · go_wp2
          go_round
          case rel => exact ⟨k + 1, by go_num, by omega, hmore.out h200⟩
          case measure => simp [Lib.intOf]; omega
        · go_wp2_with (go_at_call 5; refine (HE.out _).mono ?_; rintro e w1 ⟨rfl, hb1⟩; have Hb1 := Lib.hid hb1; clear hb1)
          go_ret
          exact ⟨rfl, Hb1.out⟩
      · have hall : Hid (∀ s ∈ ss, s.size ≤ 200) := fun s hs => by
          obtain ⟨j, hj, rfl⟩ := List.getElem_of_mem hs
          exact hsh.out j hj (by omega)
        have HL := Lib.hid (line_any ss A ss.length cap w HA.out (by omega) (fun s hs => by have := hall.out s hs; omega) (fun s hs => repl_of_cell Hm.out s (by have := hall.out s hs; omega)))
        have HR := Lib.hid (fun W (hW : Below w.heap.size w W) => refLine_any ss A ss.length cap W ⟨rfl, fun h0 => by
          obtain ⟨b, off, e, hb, hc⟩ := (HA.out.below hW).2 h0
          exact ⟨b, off, e, Nat.lt_of_lt_of_le hb hW.size, hc⟩⟩ (by omega) (fun s hs => by have := hall.out s hs; omega))
        have hke : k = ss.length := by omega
        clear hkn
        subst hke
        generalize (⟨(lineS (bytesOf ss)).toArray⟩ : ByteArray) = r at *
        go_wp2_with (first
          | (go_at_call 6; refine HL.out.mono ?_; rintro e w1 ⟨rfl, hb1⟩; have Hb1 := Lib.hid hb1; clear hb1)
          | (go_at_call 7; refine (HR.out _ Hb1.out).mono ?_; rintro e w2 ⟨rfl, rfl⟩)
          | (go_at_call 5; refine (HE.out _).mono ?_; rintro e w3 ⟨rfl, hb3⟩; have Hb3 := Lib.hid hb3; clear hb3))
        go_ret
        exact ⟨rfl, Hb1.out.trans (Hb3.out.mono Hb1.out.size)⟩
  · go_enter Tryz.func3, Tryz.ntmps3
    go_wp2_with (go_at_call 5; refine (HE.out _).mono ?_; rintro e w1 ⟨rfl, hb1⟩; have Hb1 := Lib.hid hb1; clear hb1)
    go_ret
    exact ⟨rfl, Hb1.out⟩

end Go.Proofs.YtakejcabekdhcaaGreatDoor
