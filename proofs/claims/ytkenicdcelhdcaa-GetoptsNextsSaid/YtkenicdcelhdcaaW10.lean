/- awake, the examples of the chapter: the call returns true. -/
import Derived.Test.YtkenicdcelhdcaaW9
namespace Go.Proofs.Ytkenicdcelhdcaa
open Go.RowKit

theorem strs_new (w : World) (ss : List ByteArray) (vs : Array Value) (hvs : vs = (ss.map fun s => Value.string s).toArray) :
    Strs (w.alloc (.cells vs 9)) (w.alloc (.cells vs 9)).heap.size (some ⟨w.heap.size, 0, none⟩) ss.length ss := by
  subst hvs
  refine ⟨rfl, fun _ => ⟨w.heap.size, 0, rfl, by simp, fun k hk => ?_⟩⟩
  have e := heap_alloc_new w (.cells (ss.map fun s => Value.string s).toArray 9)
  unfold World.cell?
  simp only [e]
  simp [hk]

theorem strs_new2 {w : World} {k : Nat} (hk : w.heap.size = k) (ss : List ByteArray) (vs : Array Value) (hvs : vs = (ss.map fun s => Value.string s).toArray) :
    Strs (w.alloc (.cells vs 9)) (w.alloc (.cells vs 9)).heap.size (some ⟨k, 0, none⟩) ss.length ss := by
  subst hk
  exact strs_new w ss vs hvs

theorem ex_all : allS [97, 98, 58, 99] [[45, 97, 98], [120], [121]] = ([⟨[97], [], 0, []⟩, ⟨[98], [120], 0, []⟩], 2, 0) := by decide +kernel
theorem ex_next1 : nextS [58, 98, 58] [[45, 98]] 1 0 = (⟨[58], [98], 2, []⟩, (2, 0), 0) := by decide +kernel
theorem ex_next2 : nextS [97] [[45, 97]] 1 2 = (⟨[], [], 0, []⟩, (0, 0), 2) := by decide +kernel
theorem ex_valid : validS [97, 97] = 9 := by decide +kernel

theorem two_opts {w1 : World} {B : Nat} {v : Value} (h : w1.ownsRow B 32 4 v 2 (optCells [⟨[97], [], 0, []⟩, ⟨[98], [120], 0, []⟩])) :
    ∃ g cap, v = .slice (some ⟨g, 0, none⟩) 2 cap ∧ g < w1.heap.size ∧ w1.cell? ⟨g, 0, none⟩ = some (.string ⟨#[97]⟩) ∧ w1.cell? ⟨g, 1, none⟩ = some (.string ⟨#[]⟩) ∧ w1.cell? ⟨g, 2, none⟩ = some (.int .i64 0) ∧ w1.cell? ⟨g, 3, none⟩ = some (.string ⟨#[]⟩) ∧
      w1.cell? ⟨g, 4, none⟩ = some (.string ⟨#[98]⟩) ∧ w1.cell? ⟨g, 5, none⟩ = some (.string ⟨#[120]⟩) ∧ w1.cell? ⟨g, 6, none⟩ = some (.int .i64 0) ∧ w1.cell? ⟨g, 7, none⟩ = some (.string ⟨#[]⟩) := by
  rcases h.2 with ⟨_, h0⟩ | ⟨g, cap, _, hv, _⟩
  · simp at h0
  · subst hv
    refine ⟨g, cap, rfl, (h.lt g rfl).2, ?_, ?_, ?_, ?_, ?_, ?_, ?_, ?_⟩
    all_goals (rw [h.cellAt _ (by omega)]; rfl)

theorem eight_keep {w1 w2 : World} {g : Nat} {a0 a1 a2 a3 a4 a5 a6 a7 : Value} (hg : g < w1.heap.size) (hb : Below w1.heap.size w1 w2)
    (c0 : w1.cell? ⟨g, 0, none⟩ = some a0) (c1 : w1.cell? ⟨g, 1, none⟩ = some a1) (c2 : w1.cell? ⟨g, 2, none⟩ = some a2) (c3 : w1.cell? ⟨g, 3, none⟩ = some a3)
    (c4 : w1.cell? ⟨g, 4, none⟩ = some a4) (c5 : w1.cell? ⟨g, 5, none⟩ = some a5) (c6 : w1.cell? ⟨g, 6, none⟩ = some a6) (c7 : w1.cell? ⟨g, 7, none⟩ = some a7) :
    g < w2.heap.size ∧ w2.cell? ⟨g, 0, none⟩ = some a0 ∧ w2.cell? ⟨g, 1, none⟩ = some a1 ∧ w2.cell? ⟨g, 2, none⟩ = some a2 ∧ w2.cell? ⟨g, 3, none⟩ = some a3 ∧
      w2.cell? ⟨g, 4, none⟩ = some a4 ∧ w2.cell? ⟨g, 5, none⟩ = some a5 ∧ w2.cell? ⟨g, 6, none⟩ = some a6 ∧ w2.cell? ⟨g, 7, none⟩ = some a7 := by
  have hs := hb.size
  have k : ∀ j, w2.cell? ⟨g, j, none⟩ = w1.cell? ⟨g, j, none⟩ := fun j => hb.cell (p := ⟨g, j, none⟩) hg
  refine ⟨by omega, ?_, ?_, ?_, ?_, ?_, ?_, ?_, ?_⟩ <;> rw [k] <;> assumption

theorem six_keep {w2 w3 : World} {x0 x1 x2 x3 y0 y1 : Value} {o : Obj} (hb : Below (((w2.alloc (.cells #[x0, x1, x2, x3] 32)).alloc (.cells #[y0, y1] 29)).alloc o).heap.size (((w2.alloc (.cells #[x0, x1, x2, x3] 32)).alloc (.cells #[y0, y1] 29)).alloc o) w3) :
    w2.heap.size + 1 < w3.heap.size ∧ w3.cell? ⟨w2.heap.size, 0, none⟩ = some x0 ∧ w3.cell? ⟨w2.heap.size, 1, none⟩ = some x1 ∧ w3.cell? ⟨w2.heap.size, 2, none⟩ = some x2 ∧ w3.cell? ⟨w2.heap.size, 3, none⟩ = some x3 ∧
      w3.cell? ⟨w2.heap.size + 1, 0, none⟩ = some y0 ∧ w3.cell? ⟨w2.heap.size + 1, 1, none⟩ = some y1 := by
  have hs := hb.size
  have k : ∀ b j, b < w2.heap.size + 2 → w3.cell? ⟨b, j, none⟩ = (((w2.alloc (.cells #[x0, x1, x2, x3] 32)).alloc (.cells #[y0, y1] 29)).alloc o).cell? ⟨b, j, none⟩ := fun b j h => hb.cell (p := ⟨b, j, none⟩) (by simp; omega)
  refine ⟨by simp at hs; omega, ?_, ?_, ?_, ?_, ?_, ?_⟩ <;> rw [k _ _ (by omega)] <;> simp [go_sem]

theorem cell_two {w : World} {g j : Nat} {v : Value} (h : w.cell? ⟨g, j, none⟩ = some v) (hg : g < w.heap.size) {o1 o2 : Obj} : ((w.alloc o1).alloc o2).cell? ⟨g, j, none⟩ = some v :=
  ((below_two (Below.refl w.heap.size w) (Nat.le_refl _) o1 o2).cell (p := ⟨g, j, none⟩) hg).trans h

theorem cell_on {w3 w4 : World} {g j : Nat} {v : Value} {o1 o2 : Obj} (hb : Below ((w3.alloc o1).alloc o2).heap.size ((w3.alloc o1).alloc o2) w4) (hg : g < w3.heap.size) (h : w3.cell? ⟨g, j, none⟩ = some v) : w4.cell? ⟨g, j, none⟩ = some v :=
  (hb.cell (p := ⟨g, j, none⟩) (by simp; omega)).trans (cell_two h hg)

set_option maxRecDepth 100000 in
set_option maxHeartbeats 1000000 in
theorem awake_any (w : World) : Calls Try.prog 9 #[] w fun e w' => e = .returned (.bool true) ∧ Below w.heap.size w w' := by
  go_enter Try.func9, Try.ntmps9
  go_wp2_with fail
  have hA := strs_new w [⟨#[45, 97, 98]⟩, ⟨#[120]⟩, ⟨#[121]⟩] _ rfl
  refine (all_any ⟨#[97, 98, 58, 99]⟩ _ _ _ _ _ hA (by decide) (by decide) (by decide) (by decide)).mono ?_
  rintro e w1 ⟨v, rfl, hown, hb1⟩
  clear hA
  have e1 : allS (⟨#[97, 98, 58, 99]⟩ : ByteArray).data.toList (bytesOf' [⟨#[45, 97, 98]⟩, ⟨#[120]⟩, ⟨#[121]⟩]) = ([⟨[97], [], 0, []⟩, ⟨[98], [120], 0, []⟩], 2, 0) := ex_all
  rw [e1] at hown
  rw [e1]
  clear e1
  obtain ⟨g, cap, hv, hg, c0, c1, c2, c3, c4, c5, c6, c7⟩ := two_opts hown
  have Hb1 := Lib.hid hb1
  rw [hv]
  clear hv hown hb1
  go_wp2_with fail
  have hA2 := strs_new w1 [⟨#[45, 98]⟩] _ rfl
  refine (next_any2 ⟨#[58, 98, 58]⟩ _ _ _ _ 1 0 _ hA2 (by decide) (by decide) (by decide) (L := ⟨#[58]⟩) (G := ⟨#[98]⟩) (M := ⟨#[]⟩) (st := 2) (x := 2) (y := 0) (e := 0) ex_next1).mono ?_
  rintro e w2 ⟨rfl, hb2⟩
  clear hA2
  have B2 : Below w1.heap.size w1 w2 := by
    have h1 : Below w1.heap.size w1 (w1.alloc (.cells #[.string ⟨#[45, 98]⟩] 9)) := (Below.refl _ _).alloc (Nat.le_refl _) _
    exact h1.trans (hb2.mono h1.size)
  obtain ⟨hg2, d0, d1, d2, d3, d4, d5, d6, d7⟩ := eight_keep hg B2 c0 c1 c2 c3 c4 c5 c6 c7
  have HB2 := Lib.hid B2
  clear c0 c1 c2 c3 c4 c5 c6 c7 B2 hb2 hg
  go_wp2_with fail
  have hA3 := strs_new2 (w := (w2.alloc (.cells #[.string ⟨#[58]⟩, .string ⟨#[98]⟩, .int .i64 2, .string ⟨#[]⟩] 32)).alloc (.cells #[.int .i64 2, .int .i64 0] 29)) (k := w2.heap.size + 1 + 1) (by simp) [⟨#[45, 97]⟩] _ rfl
  refine (next_any2 ⟨#[97]⟩ _ _ _ _ 1 2 _ hA3 (by decide) (by decide) (by decide) (L := ⟨#[]⟩) (G := ⟨#[]⟩) (M := ⟨#[]⟩) (st := 0) (x := 0) (y := 0) (e := 2) ex_next2).mono ?_
  rintro e w3 ⟨rfl, hb3⟩
  clear hA3
  have B3 : Below w2.heap.size w2 w3 := below3 hb3
  obtain ⟨hg3, c0, c1, c2, c3, c4, c5, c6, c7⟩ := eight_keep hg2 B3 d0 d1 d2 d3 d4 d5 d6 d7
  obtain ⟨hw3, x0, x1, x2, x3, y0, y1⟩ := six_keep hb3
  have HB3 := Lib.hid B3
  clear d0 d1 d2 d3 d4 d5 d6 d7 B3 hb3 hg2
  have hV := Lib.hid (fun W => valid_any ⟨#[97, 97]⟩ W (by decide))
  have e2 : validS (⟨#[97, 97]⟩ : ByteArray).data.toList = 9 := ex_valid
  rw [e2] at hV
  clear e2
  have hw2 : w2.heap.size < w3.heap.size := by omega
  go_wp2_with (go_at_call 10; refine (hV.out _).mono ?_; rintro e w4 ⟨rfl, hb4⟩; have HB4 := Lib.hid hb4; have c0 := cell_on hb4 hg3 c0; have c1 := cell_on hb4 hg3 c1; have c2 := cell_on hb4 hg3 c2; have c3 := cell_on hb4 hg3 c3; have c4 := cell_on hb4 hg3 c4; have c5 := cell_on hb4 hg3 c5; have c6 := cell_on hb4 hg3 c6; have c7 := cell_on hb4 hg3 c7; have x0 := cell_on hb4 hw2 x0; have x1 := cell_on hb4 hw2 x1; have x2 := cell_on hb4 hw2 x2; have x3 := cell_on hb4 hw2 x3; have y0 := cell_on hb4 hw3 y0; have y1 := cell_on hb4 hw3 y1; clear hb4)
  go_ret
  refine ⟨rfl, ?_⟩
  have h1 : Below w.heap.size w w1 := by
    have h0 := (Below.refl w.heap.size w).alloc (Nat.le_refl _) (.cells (List.map (fun s => Value.string s) [⟨#[45, 97, 98]⟩, ⟨#[120]⟩, ⟨#[121]⟩]).toArray 9)
    exact h0.trans (Hb1.out.mono h0.size)
  have h2 := h1.trans (HB2.out.mono h1.size)
  have h3 := h2.trans (HB3.out.mono h2.size)
  exact (below_two h3 h3.size _ _).trans (HB4.out.mono (by simp; have := h3.size; omega))

end Go.Proofs.Ytkenicdcelhdcaa
