/- jobshellref16.Same at equal lists; GetoptsSilent: the walk of the law. -/
import Derived.Test.YtkenicdcelhdcaaW12
import Derived.Test.YtkenicdcelhdcaaM5
namespace Go.Proofs.Ytkenicdcelhdcaa
open Go.RowKit

/-- The slice '.slice V n c' holds the options l. -/
def OptsAt (w : World) (V : Option Addr) (l : List OptR) : Prop :=
  0 < l.length → ∃ g, V = some ⟨g, 0, none⟩ ∧ g < w.heap.size ∧ ∀ j, j < l.length * 4 → w.cell? ⟨g, j, none⟩ = (optCells l)[j]?

theorem OptsAt.later {w w' : World} {V : Option Addr} {l : List OptR} (h : OptsAt w V l) (hb : Below w.heap.size w w') : OptsAt w' V l := fun h0 => by
  obtain ⟨g, hV, hg, hc⟩ := h h0
  exact ⟨g, hV, Nat.lt_of_lt_of_le hg hb.size, fun j hj => (hb.cell (p := ⟨g, j, none⟩) hg).trans (hc j hj)⟩

theorem OptsAt.at_ {w : World} {V : Option Addr} {l : List OptR} (h : OptsAt w V l) {k : Nat} (hk : k < l.length) {Lb G M : ByteArray} {sv : Int} (hx : l[k] = ⟨Lb.data.toList, G.data.toList, sv, M.data.toList⟩) :
    ∃ g, V = some ⟨g, 0, none⟩ ∧ g < w.heap.size ∧ w.cell? ⟨g, k * 4, none⟩ = some (.string Lb) ∧ w.cell? ⟨g, k * 4 + 1, none⟩ = some (.string G) ∧ w.cell? ⟨g, k * 4 + 2, none⟩ = some (.int .i64 sv) ∧ w.cell? ⟨g, k * 4 + 3, none⟩ = some (.string M) := by
  obtain ⟨g, hV, hg, hc⟩ := h (by omega)
  have hcs := optCells_at l k hk
  rw [hx] at hcs
  exact ⟨g, hV, hg, (hc _ (by omega)).trans hcs.1, (hc _ (by omega)).trans hcs.2.1, (hc _ (by omega)).trans hcs.2.2.1, (hc _ (by omega)).trans hcs.2.2.2⟩

theorem owns_opts {w : World} {B : Nat} {v : Value} {l : List OptR} (h : w.ownsRow B 32 4 v l.length (optCells l)) : ∃ V cap, v = .slice V l.length cap ∧ OptsAt w V l := by
  obtain ⟨V, cap, hv, hV⟩ := owns_form h
  exact ⟨V, cap, hv, fun h0 => by obtain ⟨g, h1, h2, _, h4⟩ := hV h0; exact ⟨g, h1, h2, h4⟩⟩

set_option maxRecDepth 100000 in
set_option maxHeartbeats 1000000 in
theorem same_any (l : List OptR) (V V' : Option Addr) (c1 c2 : Nat) (w : World) (h1 : OptsAt w V l) (h2 : OptsAt w V' l) (hl : l.length ≤ 100000) :
    Calls Try.prog 17 #[.slice V l.length c1, .slice V' l.length c2] w fun e w' => e = .returned (.bool true) ∧ Below w.heap.size w w' := by
  have H1 := Lib.hid h1
  have H2 := Lib.hid h2
  clear h1 h2
  go_enter Try.func17, Try.ntmps17
  go_wp2
  go_loopw [5] (fun i wr => ∃ k : Nat, k ≤ l.length ∧ i = .int .i64 k ∧ Hid (Below w.heap.size w wr)) (fun i _ => l.length - (intOf i).toNat)
  case atStart => exact ⟨0, Nat.zero_le _, rfl, Below.refl _ _⟩
  case round =>
    obtain ⟨k, hk, rfl, Hb⟩ := hrel
    by_cases hkl : k < l.length
    · obtain ⟨Lb, G, M, hx⟩ := opt_bytes l[k]
      obtain ⟨g, hV, hg, a0, a1, a2, a3⟩ := (H1.out.later Hb.out).at_ hkl hx
      obtain ⟨g', hV', hg', b0, b1, b2, b3⟩ := (H2.out.later Hb.out).at_ hkl hx
      have p1 : (k : Int) < (l.length : Int) := by omega
      have p2 : (0 : Int) ≤ (k : Int) := by omega
      generalize l[k].status = sv at *
      clear hx
      rw [hV, hV']
      clear hV hV'
      go_wp2
      go_quiet (fail)
      go_wp2
      exact ⟨⟨k + 1, by omega, by go_num, below_drewN Hb.out _⟩, by simp [intOf]; omega⟩
    · go_wp2
      go_ret
      exact ⟨rfl, Hb.out⟩

end Go.Proofs.Ytkenicdcelhdcaa
