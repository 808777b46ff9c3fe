/- getopts.inRange: what the call returns. -/
import Derived.Test.YtkenicdcelhdcaaW4
import Derived.Laws.OwnMore
import Derived.Deep.AppendLies
import Derived.Deep.Draws
namespace Go.Proofs.Ytkenicdcelhdcaa
open Go.RowKit

/-- The slice value '.slice A n c' holds the strings ss, below block B. -/
def Strs (w : World) (B : Nat) (A : Option Addr) (n : Nat) (ss : List ByteArray) : Prop :=
  n = ss.length ∧ (0 < ss.length → ∃ b off, A = some ⟨b, off, none⟩ ∧ b < B ∧ ∀ k (hk : k < ss.length), w.cell? ⟨b, off + k, none⟩ = some (.string ss[k]))

theorem Strs.keep {w w' : World} {B n : Nat} {A : Option Addr} {ss : List ByteArray} (h : Strs w B A n ss) (hk : ∀ p : Addr, p.block < B → w'.cell? p = w.cell? p) : Strs w' B A n ss :=
  ⟨h.1, fun h0 => by
    obtain ⟨b, off, e, hb, hc⟩ := h.2 h0
    exact ⟨b, off, e, hb, fun k hk' => (hk _ hb).trans (hc k hk')⟩⟩
theorem Strs.below {w w' : World} {B n : Nat} {A : Option Addr} {ss : List ByteArray} (h : Strs w B A n ss) (hb : Below B w w') : Strs w' B A n ss := h.keep fun _ hp => hb.cell hp
theorem Strs.more {w : World} {B B' n : Nat} {A : Option Addr} {ss : List ByteArray} (h : Strs w B A n ss) (hB : B ≤ B') : Strs w B' A n ss :=
  ⟨h.1, fun h0 => by
    obtain ⟨b, off, e, hb, hc⟩ := h.2 h0
    exact ⟨b, off, e, by omega, hc⟩⟩

def bytesOf' (ss : List ByteArray) : List Bs := ss.map fun s => s.data.toList

theorem bytes_len (ss : List ByteArray) : (bytesOf' ss).length = ss.length := by simp [bytesOf']
theorem bytes_get (ss : List ByteArray) (k : Nat) (hk : k < ss.length) : (bytesOf' ss).getD k [] = ss[k].data.toList := by simp [bytesOf', hk]

set_option maxRecDepth 100000 in
set_option maxHeartbeats 400000 in
theorem inRange_any (ss : List ByteArray) (A : Option Addr) (n cap : Nat) (ix off : Int) (w : World) (hA : Strs w w.heap.size A n ss) (hn : n ≤ 100) (hz : ∀ s ∈ ss, s.size ≤ 1000) :
    Calls Try.prog 22 #[.slice A n cap, .agg #[.int .i64 ix, .int .i64 off]] w fun e w' => e = .returned (.bool (inR (bytesOf' ss) ix off)) ∧ Below w.heap.size w w' := by
  by_cases h1 : 1 ≤ ix ∧ 0 ≤ off
  · obtain ⟨h1, h2⟩ := h1
    by_cases h3 : off = 0
    · subst h3
      have hT := Lib.hid (show inR (bytesOf' ss) ix 0 = true by simp [inR, h1])
      clear hA hz
      go_enter Try.func22, Try.ntmps22
      go_wp2
      go_quiet (fail)
      go_wp2
      go_ret
      exact ⟨ret_bool hT.out.symm, below_drewN ((Below.refl _ _).alloc (Nat.le_refl _) _) _⟩
    · have h3' : (off == 0) = false := by simpa using h3
      by_cases h4 : ix ≤ n
      · obtain ⟨k, hk⟩ : ∃ k : Nat, ix = k + 1 := ⟨(ix - 1).toNat, by omega⟩
        subst hk
        have hkl : k < ss.length := by have := hA.1; omega
        obtain ⟨b0, off0, rfl, hb, hc0⟩ := hA.2 (by omega)
        have hc := hc0 k hkl
        clear hc0
        have hz' := hz _ (List.getElem_mem hkl)
        have hT := Lib.hid (show inR (bytesOf' ss) (k + 1) off = decide (off < ss[k].size) by
          have e : ((k : Int) + 1 - 1).toNat = k := by omega
          have e2 : ((k : Int) + 1 ≤ (ss.length : Int)) := by omega
          simp only [inR, h3', h1, h2, e, bytes_get ss k hkl, bytes_len, Lib.size_eq, e2, decide_true]; rfl)
        generalize ss[k] = s at *
        have hc' : ∀ o, (w.alloc o).cell? ⟨b0, off0 + k, none⟩ = some (.string s) := fun o => (World.cell?_alloc_lt w o _ hb).trans hc
        have q1 : (0 : Int) ≤ (k : Int) := by omega
        have q2 : (k : Int) < (n : Int) := by omega
        clear hA hz h3 hkl
        have q3 : IntKind.i64.wrap (k : Int) = (k : Int) := IntWalk.i64_in _ (by omega)
        go_enter Try.func22, Try.ntmps22
        go_wp2
        go_quiet (fail)
        go_wp2
        go_ret
        exact ⟨ret_bool hT.out.symm, below_drewN ((Below.refl _ _).alloc (Nat.le_refl _) _) _⟩
      · have hT := Lib.hid (show inR (bytesOf' ss) ix off = false by
          have e2 : ¬ (ix ≤ (ss.length : Int)) := by have := hA.1; omega
          simp [inR, h3, bytes_len, e2])
        have h4' : decide (ix ≤ (n : Int)) = false := by simpa using h4
        clear hA hz h3
        go_enter Try.func22, Try.ntmps22
        go_wp2
        go_quiet (fail)
        go_wp2
        go_ret
        exact ⟨ret_bool hT.out.symm, below_drewN ((Below.refl _ _).alloc (Nat.le_refl _) _) _⟩
  · have hT := Lib.hid (show inR (bytesOf' ss) ix off = false by
      by_cases h : 1 ≤ ix
      · have h2 : ¬ 0 ≤ off := fun h2 => h1 ⟨h, h2⟩
        simp [inR, h2]
      · simp [inR, h])
    clear hA hz
    by_cases h : ix < 1
    · go_enter Try.func22, Try.ntmps22
      go_wp2
      go_ret
      exact ⟨ret_bool hT.out.symm, (Below.refl _ _).alloc (Nat.le_refl _) _⟩
    · have h2 : off < 0 := by omega
      go_enter Try.func22, Try.ntmps22
      go_wp2
      go_ret
      exact ⟨ret_bool hT.out.symm, (Below.refl _ _).alloc (Nat.le_refl _) _⟩

end Go.Proofs.Ytkenicdcelhdcaa
