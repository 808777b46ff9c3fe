/- A slice of strings that came in, opened. -/
import Derived.Test.YtkenicdcelhdcaaL0
import Derived.SliceStrings
import Derived.Test.YtkenicdcelhdcaaW11
namespace Go.Proofs.Ytkenicdcelhdcaa
open Go.ChangeShapes Go.WideShapes Go.ChangeAt Go.RowKit Go.WideMaps Go.WideElems

theorem spot_none {w : World} {a : Addr} {v : Value} (h : w.cell? a = some v) : a.spot = none := by
  unfold World.cell? at h
  split at h
  · split at h
    · cases h
    · rename_i hs; simpa using hs
  · cases h

theorem open_args {H : Type} {enc : TypeId × Value → H} {W : World} {base : Nat} {v : Value} {d : DataW H} {p : List MemPlace} (hok : Value.okWide Try.prog W .any base 27 v)
    (h : DataW.Trod enc Try.prog W 0 (fun _ => true) true 27 v d p) :
    ∃ A n cap ss, v = .slice A n cap ∧ Strs W W.heap.size A n ss ∧ n ≤ maxLen ∧ ∀ s ∈ ss, s.size ≤ maxLen := by
  obtain ⟨a0, len, cap, rfl⟩ := okWide_slice Try.underlying27 hok
  obtain ⟨fuel, hf⟩ := h
  have hc9 : Try.prog.cellsOf 9 = 1 := by kernel_rfl
  rcases open_strings Try.underlying27 Try.underlying9 hc9 hf with ⟨hcs, hx⟩ | ⟨a, len', cap', ss, hcs, _, hl, hm, hz, hx, hcell, hws⟩
  · simp [Value.cells] at hcs
    obtain ⟨rfl, rfl, rfl⟩ := hcs
    exact ⟨none, 0, 0, [], rfl, ⟨rfl, fun h => absurd h (by simp)⟩, by unfold maxLen; omega, fun s h => by simp at h⟩
  · simp [Value.cells] at hcs
    obtain ⟨rfl, rfl, rfl⟩ := hcs
    rw [if_pos rfl] at hz
    refine ⟨some a, len, cap, ss.take len, rfl, ⟨by simp; omega, fun h0 => ?_⟩, by omega, fun s h => hws s (List.mem_of_mem_take h)⟩
    have hlen : 0 < len := by
      rcases Nat.eq_zero_or_pos len with h | h
      · subst h; simp at h0
      · exact h
    have hc0 := hcell 0 (by omega)
    have ha0 : a.add 0 = a := by simp [Addr.add]
    rw [ha0] at hc0
    have hsp := spot_none hc0
    have hblk : a.block < W.heap.size := World.block_lt_of_cell? W a hc0
    obtain ⟨b, off, sp⟩ := a
    simp only [] at hsp hblk
    subst hsp
    refine ⟨b, off, rfl, hblk, fun k hk => ?_⟩
    have hk' : k < len := by simp at hk; omega
    have hkc := hcell k (by omega)
    have e : (⟨b, off, none⟩ : Addr).add k = ⟨b, off + k, none⟩ := by
      unfold Addr.add
      by_cases h0 : k = 0
      · simp [h0]
      · simp [h0]
    rw [e] at hkc
    rw [hkc]
    have hks : k < ss.length := by omega
    simp [hks]

end Go.Proofs.Ytkenicdcelhdcaa
