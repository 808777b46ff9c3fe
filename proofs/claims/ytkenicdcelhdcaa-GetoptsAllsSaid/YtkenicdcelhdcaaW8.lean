/- getopts.Next: what the call returns, all cases together. -/
import Derived.Test.YtkenicdcelhdcaaW7
namespace Go.Proofs.Ytkenicdcelhdcaa
open Go.RowKit

theorem next_any (spec : ByteArray) (ss : List ByteArray) (A : Option Addr) (n cap : Nat) (ix off : Int) (w : World) (hA : Strs w w.heap.size A n ss) (hn : n ≤ 100) (hz : ∀ s ∈ ss, s.size ≤ 1000) (hs : spec.size ≤ 100)
    (r : OptR × (Int × Int) × Int) (hr : nextS spec.data.toList (bytesOf' ss) ix off = r) :
    Calls Try.prog 13 #[.string spec, .slice A n cap, .agg #[.int .i64 ix, .int .i64 off]] w fun e w' =>
      e = .returned (.tuple #[optV r.1, stV r.2.1, .int .i64 r.2.2]) ∧ Below w.heap.size w w' := by
  by_cases hv : validS spec.data.toList = 0
  · by_cases hin : inR (bytesOf' ss) ix off = true
    · have hin2 := hin
      simp only [inR, Bool.and_eq_true, Bool.or_eq_true, decide_eq_true_eq, beq_iff_eq, bytes_len, ← hA.1] at hin2
      obtain ⟨⟨h1, h2⟩, h3⟩ := hin2
      by_cases hixn : ix ≤ n
      · obtain ⟨k, hk⟩ : ∃ k : Nat, ix = k + 1 := ⟨(ix - 1).toNat, by omega⟩
        have hkn : k < n := by omega
        by_cases hoff : off = 0
        · by_cases hdd : (bytesOf' ss).getD k [] = [45, 45]
          · exact next_dashes spec ss A n cap ix off w hA hn hz hs hv hin hoff k hk hkn hdd r hr
          · by_cases hsh : ((bytesOf' ss).getD k []).length < 2
            · exact next_short spec ss A n cap ix off w hA hn hz hs hv hin hoff k hk hkn hsh r hr
            · by_cases hfst : ((bytesOf' ss).getD k []).getD 0 0 = 45
              · exact next_first spec ss A n cap ix off w hA hn hz hs hv hin k hk hkn hoff (by omega) hfst hdd r hr
              · exact next_operand spec ss A n cap ix off w hA hn hz hs hv hin hoff k hk hkn (by omega) hfst r hr
        · have h4 : (off : Int) < ((bytesOf' ss).getD (ix - 1).toNat []).length := by
            rcases h3 with h3 | ⟨_, h3⟩
            · exact absurd h3 hoff
            · exact h3
          rw [hk, show ((k : Int) + 1 - 1).toNat = k by omega] at h4
          exact next_later spec ss A n cap ix off w hA hn hz hs hv hin k hk hkn off.toNat (by omega) (by omega) (by omega) r hr
      · have hoff : off = 0 := by
          rcases h3 with h3 | ⟨h3, _⟩
          · exact h3
          · omega
        exact next_past spec ss A n cap ix off w hA hn hz hs hv hin hoff (by omega) r hr
    · exact next_range spec ss A n cap ix off w hA hn hz hs hv (by simpa using hin) r hr
  · exact next_invalid spec ss A n cap ix off w hs hv r hr

/-- The same, the values written out. -/
theorem next_any2 (spec : ByteArray) (ss : List ByteArray) (A : Option Addr) (n cap : Nat) (ix off : Int) (w : World) (hA : Strs w w.heap.size A n ss) (hn : n ≤ 100) (hz : ∀ s ∈ ss, s.size ≤ 1000) (hs : spec.size ≤ 100)
    {L G M : ByteArray} {st x y e : Int} (hr : nextS spec.data.toList (bytesOf' ss) ix off = (⟨L.data.toList, G.data.toList, st, M.data.toList⟩, (x, y), e)) :
    Calls Try.prog 13 #[.string spec, .slice A n cap, .agg #[.int .i64 ix, .int .i64 off]] w fun e' w' =>
      e' = .returned (.tuple #[.agg #[.string L, .string G, .int .i64 st, .string M], .agg #[.int .i64 x, .int .i64 y], .int .i64 e]) ∧ Below w.heap.size w w' :=
  (next_any spec ss A n cap ix off w hA hn hz hs _ hr).mono fun _ _ ⟨he, hb⟩ => ⟨by rw [he]; rfl, hb⟩

end Go.Proofs.Ytkenicdcelhdcaa
