/- jobshellref16.Next: what the call returns, all cases together. -/
import Derived.Test.YtkenicdcelhdcaaR2a
import Derived.Test.YtkenicdcelhdcaaR2b
import Derived.Test.YtkenicdcelhdcaaR2c
import Derived.Test.YtkenicdcelhdcaaR2d
import Derived.Test.YtkenicdcelhdcaaR3
namespace Go.Proofs.Ytkenicdcelhdcaa
open Go.RowKit

def NPost (w : World) (r : OptR × (Int × Int) × Int) (e : Ending) (w' : World) : Prop := e = .returned (.tuple #[optV r.1, stV r.2.1, .int .i64 r.2.2]) ∧ Below w.heap.size w w'

theorem ref_first (spec : ByteArray) (ss : List ByteArray) (A : Option Addr) (n cap : Nat) (w : World) (hA : Strs w w.heap.size A n ss) (hn : n ≤ 100) (hz : ∀ s ∈ ss, s.size ≤ 1000) (hs : spec.size ≤ 100)
    (hv : validS spec.data.toList = 0) (Lp : List (UInt8 × Bool)) (hLp : ps (body spec.data.toList) = some Lp) (k : Nat) (hkn : k < n) (hsh : 2 ≤ ((bytesOf' ss).getD k []).length) (hfst : ((bytesOf' ss).getD k []).getD 0 0 = 45) (hdd : (bytesOf' ss).getD k [] ≠ [45, 45])
    (r : OptR × (Int × Int) × Int) (hr : nextS spec.data.toList (bytesOf' ss) ((k : Int) + 1) 0 = r) :
    Calls Try.prog 14 #[.string spec, .slice A n cap, .agg #[.int .i64 ((k : Int) + 1), .int .i64 0]] w (NPost w r) := by
  by_cases hre : ((bytesOf' ss).getD k []).drop (1 + 1) = []
  · cases hf : find Lp (((bytesOf' ss).getD k []).getD 1 0) with
    | none =>
      cases hcol : colon spec with
      | true => exact ref_first_unknown_end_silent spec ss A n cap w hA hn hz hs hv Lp hLp k hkn hsh hfst hdd hf hre hcol r hr
      | false => exact ref_first_unknown_end_loud spec ss A n cap w hA hn hz hs hv Lp hLp k hkn hsh hfst hdd hf hre hcol r hr
    | some b =>
      cases b with
      | false => exact ref_first_alone_end spec ss A n cap w hA hn hz hs hv Lp hLp k hkn hsh hfst hdd hf hre r hr
      | true =>
        by_cases hix : k + 1 < n
        · exact ref_first_separate_end spec ss A n cap w hA hn hz hs hv Lp hLp k hkn hsh hfst hdd hf hre hix r hr
        · cases hcol : colon spec with
          | true => exact ref_first_missing_end_silent spec ss A n cap w hA hn hz hs hv Lp hLp k hkn hsh hfst hdd hf hre hix hcol r hr
          | false => exact ref_first_missing_end_loud spec ss A n cap w hA hn hz hs hv Lp hLp k hkn hsh hfst hdd hf hre hix hcol r hr
  · cases hf : find Lp (((bytesOf' ss).getD k []).getD 1 0) with
    | none =>
      cases hcol : colon spec with
      | true => exact ref_first_unknown_mid_silent spec ss A n cap w hA hn hz hs hv Lp hLp k hkn hsh hfst hdd hf hre hcol r hr
      | false => exact ref_first_unknown_mid_loud spec ss A n cap w hA hn hz hs hv Lp hLp k hkn hsh hfst hdd hf hre hcol r hr
    | some b =>
      cases b with
      | false => exact ref_first_alone_mid spec ss A n cap w hA hn hz hs hv Lp hLp k hkn hsh hfst hdd hf hre r hr
      | true => exact ref_first_attached_mid spec ss A n cap w hA hn hz hs hv Lp hLp k hkn hsh hfst hdd hf hre r hr

theorem ref_later (spec : ByteArray) (ss : List ByteArray) (A : Option Addr) (n cap : Nat) (w : World) (hA : Strs w w.heap.size A n ss) (hn : n ≤ 100) (hz : ∀ s ∈ ss, s.size ≤ 1000) (hs : spec.size ≤ 100)
    (hv : validS spec.data.toList = 0) (Lp : List (UInt8 × Bool)) (hLp : ps (body spec.data.toList) = some Lp) (k : Nat) (hkn : k < n) (at_ : Nat) (hat1 : 1 ≤ at_) (hatl : at_ < ((bytesOf' ss).getD k []).length)
    (r : OptR × (Int × Int) × Int) (hr : nextS spec.data.toList (bytesOf' ss) ((k : Int) + 1) (at_ : Int) = r) :
    Calls Try.prog 14 #[.string spec, .slice A n cap, .agg #[.int .i64 ((k : Int) + 1), .int .i64 (at_ : Int)]] w (NPost w r) := by
  by_cases hre : ((bytesOf' ss).getD k []).drop (at_ + 1) = []
  · cases hf : find Lp (((bytesOf' ss).getD k []).getD at_ 0) with
    | none =>
      cases hcol : colon spec with
      | true => exact ref_later_unknown_end_silent spec ss A n cap w hA hn hz hs hv Lp hLp k hkn at_ hat1 hatl hf hre hcol r hr
      | false => exact ref_later_unknown_end_loud spec ss A n cap w hA hn hz hs hv Lp hLp k hkn at_ hat1 hatl hf hre hcol r hr
    | some b =>
      cases b with
      | false => exact ref_later_alone_end spec ss A n cap w hA hn hz hs hv Lp hLp k hkn at_ hat1 hatl hf hre r hr
      | true =>
        by_cases hix : k + 1 < n
        · exact ref_later_separate_end spec ss A n cap w hA hn hz hs hv Lp hLp k hkn at_ hat1 hatl hf hre hix r hr
        · cases hcol : colon spec with
          | true => exact ref_later_missing_end_silent spec ss A n cap w hA hn hz hs hv Lp hLp k hkn at_ hat1 hatl hf hre hix hcol r hr
          | false => exact ref_later_missing_end_loud spec ss A n cap w hA hn hz hs hv Lp hLp k hkn at_ hat1 hatl hf hre hix hcol r hr
  · cases hf : find Lp (((bytesOf' ss).getD k []).getD at_ 0) with
    | none =>
      cases hcol : colon spec with
      | true => exact ref_later_unknown_mid_silent spec ss A n cap w hA hn hz hs hv Lp hLp k hkn at_ hat1 hatl hf hre hcol r hr
      | false => exact ref_later_unknown_mid_loud spec ss A n cap w hA hn hz hs hv Lp hLp k hkn at_ hat1 hatl hf hre hcol r hr
    | some b =>
      cases b with
      | false => exact ref_later_alone_mid spec ss A n cap w hA hn hz hs hv Lp hLp k hkn at_ hat1 hatl hf hre r hr
      | true => exact ref_later_attached_mid spec ss A n cap w hA hn hz hs hv Lp hLp k hkn at_ hat1 hatl hf hre r hr

theorem ref_any (spec : ByteArray) (ss : List ByteArray) (A : Option Addr) (n cap : Nat) (ix off : Int) (w : World) (hA : Strs w w.heap.size A n ss) (hn : n ≤ 100) (hz : ∀ s ∈ ss, s.size ≤ 1000) (hs : spec.size ≤ 100)
    (r : OptR × (Int × Int) × Int) (hr : nextS spec.data.toList (bytesOf' ss) ix off = r) :
    Calls Try.prog 14 #[.string spec, .slice A n cap, .agg #[.int .i64 ix, .int .i64 off]] w (NPost w r) := by
  by_cases hv : validS spec.data.toList = 0
  · obtain ⟨Lp, hLp⟩ : ∃ Lp, ps (body spec.data.toList) = some Lp := by
      cases h : ps (body spec.data.toList) with
      | none => rw [validS, h] at hv; simp at hv
      | some L => exact ⟨L, rfl⟩
    have hle := bytes_len ss
    have hnl := hA.1
    by_cases hin : inR (bytesOf' ss) ix off = true
    · obtain ⟨h1, h2, h3⟩ := inR_iff.1 hin
      by_cases hixn : ix ≤ n
      · obtain ⟨k, rfl⟩ : ∃ k : Nat, ix = (k : Int) + 1 := ⟨(ix - 1).toNat, by omega⟩
        have hkn : k < n := by omega
        by_cases hoff : off = 0
        · subst hoff
          by_cases hdd : (bytesOf' ss).getD k [] = [45, 45]
          · exact ref_dashes spec ss A n cap w hA hn hz hs hv k hkn hdd r hr
          · by_cases hem : (bytesOf' ss).getD k [] = []
            · exact ref_empty spec ss A n cap w hA hn hz hs hv k hkn hem r hr
            · by_cases hda : (bytesOf' ss).getD k [] = [45]
              · exact ref_dash spec ss A n cap w hA hn hz hs hv k hkn hda r hr
              · by_cases hfst : ((bytesOf' ss).getD k []).getD 0 0 = 45
                · have hsh : 2 ≤ ((bytesOf' ss).getD k []).length := by
                    generalize (bytesOf' ss).getD k [] = wd at *
                    cases wd with
                    | nil => exact absurd rfl hem
                    | cons c r' =>
                      cases r' with
                      | nil => simp at hfst; subst hfst; exact absurd rfl hda
                      | cons d r'' => simp
                  exact ref_first spec ss A n cap w hA hn hz hs hv Lp hLp k hkn hsh hfst hdd r hr
                · exact ref_operand spec ss A n cap w hA hn hz hs hv k hkn hem hfst r hr
        · have h4 : off < ((bytesOf' ss).getD ((k : Int) + 1 - 1).toNat []).length := by
            rcases h3 with h3 | ⟨_, h3⟩
            · exact absurd h3 hoff
            · exact h3
          rw [show ((k : Int) + 1 - 1).toNat = k by omega] at h4
          obtain ⟨a, rfl⟩ : ∃ a : Nat, off = (a : Int) := ⟨off.toNat, by omega⟩
          exact ref_later spec ss A n cap w hA hn hz hs hv Lp hLp k hkn a (by omega) (by omega) r hr
      · have hoff : off = 0 := by
          rcases h3 with h3 | ⟨h3, _⟩
          · exact h3
          · omega
        exact ref_past spec ss A n cap w hA hn hz hs ix off hv hin hoff (by omega) r hr
    · have hin' : inR (bytesOf' ss) ix off = false := by simpa using hin
      by_cases hix : ix < 1
      · exact ref_range_ix spec ss A n cap w hA hn hz hs ix off hv hin' hix r hr
      · by_cases hoff : off < 0
        · exact ref_range_neg spec ss A n cap w hA hn hz hs ix off hv hin' (by omega) hoff r hr
        · have hpos : 0 < off := by
            by_cases h0 : off = 0
            · exact absurd (inR_iff.2 ⟨by omega, by omega, Or.inl h0⟩) hin
            · omega
          by_cases hixn : (n : Int) < ix
          · exact ref_range_past spec ss A n cap w hA hn hz hs ix off hv hin' (by omega) hpos hixn r hr
          · obtain ⟨k, hk⟩ : ∃ k : Nat, ix = (k : Int) + 1 := ⟨(ix - 1).toNat, by omega⟩
            refine ref_range_long spec ss A n cap w hA hn hz hs ix off hv hin' k hk (by omega) hpos ?_ r hr
            apply Classical.byContradiction
            intro hlt
            refine hin (inR_iff.2 ⟨by omega, by omega, Or.inr ⟨by omega, ?_⟩⟩)
            rw [hk, show ((k : Int) + 1 - 1).toNat = k by omega]
            omega
  · exact ref_invalid spec ss A n cap ix off w hs hv r hr

/-- The same, the values written out. -/
theorem ref_any2 (spec : ByteArray) (ss : List ByteArray) (A : Option Addr) (n cap : Nat) (ix off : Int) (w : World) (hA : Strs w w.heap.size A n ss) (hn : n ≤ 100) (hz : ∀ s ∈ ss, s.size ≤ 1000) (hs : spec.size ≤ 100)
    {L G M : ByteArray} {st x y e : Int} (hr : nextS spec.data.toList (bytesOf' ss) ix off = (⟨L.data.toList, G.data.toList, st, M.data.toList⟩, (x, y), e)) :
    Calls Try.prog 14 #[.string spec, .slice A n cap, .agg #[.int .i64 ix, .int .i64 off]] w fun e' w' =>
      e' = .returned (.tuple #[.agg #[.string L, .string G, .int .i64 st, .string M], .agg #[.int .i64 x, .int .i64 y], .int .i64 e]) ∧ Below w.heap.size w w' :=
  (ref_any spec ss A n cap ix off w hA hn hz hs _ hr).mono fun _ _ ⟨he, hb⟩ => ⟨by rw [he]; rfl, hb⟩

end Go.Proofs.Ytkenicdcelhdcaa
