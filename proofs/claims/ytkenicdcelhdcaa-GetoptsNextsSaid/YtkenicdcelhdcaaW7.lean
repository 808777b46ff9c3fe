/- getopts.step and getopts.Next: what the calls return. -/
import Derived.Test.YtkenicdcelhdcaaW6
namespace Go.Proofs.Ytkenicdcelhdcaa
open Go.RowKit

theorem step_any (spec word : ByteArray) (ss : List ByteArray) (A : Option Addr) (n cap ix at_ : Nat) (w : World) (hA : Strs w w.heap.size A n ss) (hn : n ≤ 100)
    (hs : spec.size ≤ 100) (hw : word.size ≤ 1000) (hat : at_ < word.size) (hix : 1 ≤ ix) (hix2 : ix ≤ n)
    (r : OptR × (Int × Int)) (hr : stepS spec.data.toList (bytesOf' ss) word.data.toList ix at_ = r) :
    Calls Try.prog 23 #[.string spec, .slice A n cap, .string word, .agg #[.int .i64 ix, .int .i64 at_]] w fun e w' =>
      e = .returned (.tuple #[optV r.1, stV r.2]) ∧ Below w.heap.size w w' := by
  have hrest : (word.extract (at_ + 1) word.size).toList = word.data.toList.drop (at_ + 1) := by rw [Lib.toList_data, Lib.extract_to_end]
  have hcol : colon spec = true ∨ colon spec = false := by cases colon spec <;> simp
  have hre : (word.extract (at_ + 1) word.size).toList.isEmpty = true ∨ (word.extract (at_ + 1) word.size).toList.isEmpty = false := by cases (word.extract (at_ + 1) word.size).toList.isEmpty <;> simp
  rcases outS_cases spec.data.toList (word.data.toList.getD at_ 0) (word.data.toList.drop (at_ + 1)) (decide ((ix : Int) < (n : Int))) with ho | ho | ⟨ho, h⟩ | ⟨ho, h⟩ | ho
  · rcases hcol with hcol | hcol <;> rcases hre with hre | hre
    · exact step_unknown_silent_end spec word ss A n cap ix at_ w hA hn hs hw hat hix hix2 _ rfl ho hre hcol r hr
    · exact step_unknown_silent_mid spec word ss A n cap ix at_ w hA hn hs hw hat hix hix2 _ rfl ho hre hcol r hr
    · exact step_unknown_loud_end spec word ss A n cap ix at_ w hA hn hs hw hat hix hix2 _ rfl ho hre hcol r hr
    · exact step_unknown_loud_mid spec word ss A n cap ix at_ w hA hn hs hw hat hix hix2 _ rfl ho hre hcol r hr
  · rcases hre with hre | hre
    · exact step_alone_end spec word ss A n cap ix at_ w hA hn hs hw hat hix hix2 _ rfl ho hre r hr
    · exact step_alone_mid spec word ss A n cap ix at_ w hA hn hs hw hat hix hix2 _ rfl ho hre r hr
  · rcases hre with hre | hre
    · rw [hrest, List.isEmpty_iff] at hre; exact absurd hre h
    · exact step_attached spec word ss A n cap ix at_ w hA hn hs hw hat hix hix2 _ rfl ho hre r hr
  · rcases hre with hre | hre
    · exact step_separate spec word ss A n cap ix at_ w hA hn hs hw hat hix hix2 _ rfl ho hre (by simpa using h) r hr
    · exfalso
      rw [hrest] at hre
      have hne : word.data.toList.drop (at_ + 1) ≠ [] := by intro e; rw [e] at hre; simp at hre
      unfold outS at ho
      split at ho
      · split at ho <;> simp at ho
      · simp at ho
  · rcases hre with hre | hre
    · rcases hcol with hcol | hcol
      · exact step_missing_silent spec word ss A n cap ix at_ w hA hn hs hw hat hix hix2 _ rfl ho hre hcol r hr
      · exact step_missing_loud spec word ss A n cap ix at_ w hA hn hs hw hat hix hix2 _ rfl ho hre hcol r hr
    · exfalso
      rw [hrest] at hre
      have hne : word.data.toList.drop (at_ + 1) ≠ [] := by intro e; rw [e] at hre; simp at hre
      unfold outS at ho
      split at ho
      · split at ho <;> simp at ho
      · simp at ho

/-- The three blocks that Next lays first: the state, the option, the state behind it. -/
structure Fr (N : Nat) (w : World) (v0 v1 a b s m x y : Value) : Prop where
  c0 : w.cell? ⟨N, 0, none⟩ = some v0
  c1 : w.cell? ⟨N, 1, none⟩ = some v1
  d0 : w.cell? ⟨N + 1, 0, none⟩ = some a
  d1 : w.cell? ⟨N + 1, 1, none⟩ = some b
  d2 : w.cell? ⟨N + 1, 2, none⟩ = some s
  d3 : w.cell? ⟨N + 1, 3, none⟩ = some m
  e0 : w.cell? ⟨N + 1 + 1, 0, none⟩ = some x
  e1 : w.cell? ⟨N + 1 + 1, 1, none⟩ = some y
  f1 : w.frozen? ⟨N, 1, none⟩ = false
  g0 : w.frozen? ⟨N + 1, 0, none⟩ = false
  g1 : w.frozen? ⟨N + 1, 1, none⟩ = false
  g2 : w.frozen? ⟨N + 1, 2, none⟩ = false
  g3 : w.frozen? ⟨N + 1, 3, none⟩ = false
  h0 : w.frozen? ⟨N + 1 + 1, 0, none⟩ = false
  h1 : w.frozen? ⟨N + 1 + 1, 1, none⟩ = false
  sz : N + 1 + 1 < w.heap.size

theorem Fr.start (w : World) (v0 v1 a b s m x y : Value) :
    Fr w.heap.size (((w.alloc (.cells #[v0, v1] 29)).alloc (.cells #[a, b, s, m] 32)).alloc (.cells #[x, y] 29)) v0 v1 a b s m x y := by
  constructor <;> simp [go_sem]

theorem Fr.later {N : Nat} {w w1 : World} {v0 v1 a b s m x y : Value} (h : Fr N w v0 v1 a b s m x y) (hb : Below w.heap.size w w1) : Fr N w1 v0 v1 a b s m x y := by
  have hs := h.sz
  have l0 : N < w.heap.size := by omega
  have l1 : N + 1 < w.heap.size := by omega
  exact ⟨(hb.cell (p := ⟨N, 0, none⟩) l0).trans h.c0, (hb.cell (p := ⟨N, 1, none⟩) l0).trans h.c1, (hb.cell (p := ⟨N + 1, 0, none⟩) l1).trans h.d0, (hb.cell (p := ⟨N + 1, 1, none⟩) l1).trans h.d1,
    (hb.cell (p := ⟨N + 1, 2, none⟩) l1).trans h.d2, (hb.cell (p := ⟨N + 1, 3, none⟩) l1).trans h.d3, (hb.cell (p := ⟨N + 1 + 1, 0, none⟩) hs).trans h.e0, (hb.cell (p := ⟨N + 1 + 1, 1, none⟩) hs).trans h.e1,
    (hb.frozen (p := ⟨N, 1, none⟩) l0).trans h.f1, (hb.frozen (p := ⟨N + 1, 0, none⟩) l1).trans h.g0, (hb.frozen (p := ⟨N + 1, 1, none⟩) l1).trans h.g1, (hb.frozen (p := ⟨N + 1, 2, none⟩) l1).trans h.g2,
    (hb.frozen (p := ⟨N + 1, 3, none⟩) l1).trans h.g3, (hb.frozen (p := ⟨N + 1 + 1, 0, none⟩) hs).trans h.h0, (hb.frozen (p := ⟨N + 1 + 1, 1, none⟩) hs).trans h.h1, Nat.lt_of_lt_of_le hs hb.size⟩

theorem Fr.set1 {N : Nat} {w : World} {v0 v1 a b s m x y : Value} (h : Fr N w v0 v1 a b s m x y) (u : Value) : Fr N (w.setCell ⟨N, 1, none⟩ u) v0 u a b s m x y := by
  obtain ⟨c0, c1, d0, d1, d2, d3, e0, e1, f1, g0, g1, g2, g3, h0, h1, sz⟩ := h
  constructor <;> simp [go_sem, *]

theorem below_two {N : Nat} {w w1 : World} (h : Below N w w1) (hN : N ≤ w1.heap.size) (o1 o2 : Obj) : Below N w ((w1.alloc o1).alloc o2) := by
  have h1 := h.alloc hN o1
  exact h1.alloc (by simp; omega) o2

theorem step_any2 (spec word : ByteArray) (ss : List ByteArray) (A : Option Addr) (n cap ix at_ : Nat) (w : World) (hA : Strs w w.heap.size A n ss) (hn : n ≤ 100)
    (hs : spec.size ≤ 100) (hw : word.size ≤ 1000) (hat : at_ < word.size) (hix : 1 ≤ ix) (hix2 : ix ≤ n) {L G M : ByteArray} {st x y : Int}
    (hr : stepS spec.data.toList (bytesOf' ss) word.data.toList ix at_ = (⟨L.data.toList, G.data.toList, st, M.data.toList⟩, x, y)) :
    Calls Try.prog 23 #[.string spec, .slice A n cap, .string word, .agg #[.int .i64 ix, .int .i64 at_]] w fun e w' =>
      e = .returned (.tuple #[.agg #[.string L, .string G, .int .i64 st, .string M], .agg #[.int .i64 x, .int .i64 y]]) ∧ Below w.heap.size w w' :=
  (step_any spec word ss A n cap ix at_ w hA hn hs hw hat hix hix2 _ hr).mono fun _ _ ⟨he, hb⟩ => ⟨by rw [he]; rfl, hb⟩

theorem below3 {w w1 : World} {o1 o2 o3 : Obj} (hb : Below (((w.alloc o1).alloc o2).alloc o3).heap.size (((w.alloc o1).alloc o2).alloc o3) w1) : Below w.heap.size w w1 := by
  have h1 : Below w.heap.size w (w.alloc o1) := (Below.refl _ _).alloc (Nat.le_refl _) _
  have h2 := h1.alloc h1.size o2
  have h3 := h2.alloc h2.size o3
  exact h3.trans (hb.mono h3.size)

theorem below_set6 {N : Nat} {w w1 : World} (h : Below N w w1) (v1 v2 v3 v4 v5 v6 : Value) :
    Below N w ((((((w1.setCell ⟨N + 1, 0, none⟩ v1).setCell ⟨N + 1, 1, none⟩ v2).setCell ⟨N + 1, 2, none⟩ v3).setCell ⟨N + 1, 3, none⟩ v4).setCell ⟨N + 1 + 1, 0, none⟩ v5).setCell ⟨N + 1 + 1, 1, none⟩ v6) := by
  have g1 : N ≤ N + 1 := by omega
  have g2 : N ≤ N + 1 + 1 := by omega
  exact (((((h.setCell (p := ⟨N + 1, 0, none⟩) g1 v1).setCell (p := ⟨N + 1, 1, none⟩) g1 v2).setCell (p := ⟨N + 1, 2, none⟩) g1 v3).setCell (p := ⟨N + 1, 3, none⟩) g1 v4).setCell (p := ⟨N + 1 + 1, 0, none⟩) g2 v5).setCell (p := ⟨N + 1 + 1, 1, none⟩) g2 v6

theorem fin3_eq {a b m : ByteArray} {s x y e : Int} {r : OptR × (Int × Int) × Int} (h : r = (⟨a.data.toList, b.data.toList, s, m.data.toList⟩, (x, y), e)) :
    Ending.returned (.tuple #[.agg #[.string a, .string b, .int .i64 s, .string m], .agg #[.int .i64 x, .int .i64 y], .int .i64 e]) = .returned (.tuple #[optV r.1, stV r.2.1, .int .i64 r.2.2]) := by
  subst h; rfl

set_option maxRecDepth 100000 in
set_option maxHeartbeats 1000000 in
theorem next_invalid (spec : ByteArray) (ss : List ByteArray) (A : Option Addr) (n cap : Nat) (ix off : Int) (w : World) (hs : spec.size ≤ 100)
    (hv : validS spec.data.toList ≠ 0) (r : OptR × (Int × Int) × Int) (hr : nextS spec.data.toList (bytesOf' ss) ix off = r) :
    Calls Try.prog 13 #[.string spec, .slice A n cap, .agg #[.int .i64 ix, .int .i64 off]] w fun e w' =>
      e = .returned (.tuple #[optV r.1, stV r.2.1, .int .i64 r.2.2]) ∧ Below w.heap.size w w' := by
  have Hfin : Hid (r = (⟨(⟨#[]⟩ : ByteArray).data.toList, (⟨#[]⟩ : ByteArray).data.toList, 0, (⟨#[]⟩ : ByteArray).data.toList⟩, (0, 0), validS spec.data.toList)) := by
    show _ = _
    rw [← hr, nextS, if_pos hv]; rfl
  have hvi : (validS spec.data.toList != 0) = true := by simpa using hv
  have hV := Lib.hid (fun W => valid_any spec W (by unfold maxLen; omega))
  clear hr hv
  generalize validS spec.data.toList = v at *
  go_enter Try.func13, Try.ntmps13
  go_wp2_with (go_at_call 10; refine (hV.out _).mono ?_; rintro e w1 ⟨rfl, hb1⟩; have Hb1 := Lib.hid (below3 hb1); obtain ⟨c0, c1, d0, d1, d2, d3, e0, e1, f1, g0, g1, g2, g3, h0, h1, sz⟩ := (Fr.start w _ _ _ _ _ _ _ _).later hb1; clear hb1)
  refine bodyPost_ret (v := .tuple #[.agg #[.string ⟨#[]⟩, .string ⟨#[]⟩, .int .i64 0, .string ⟨#[]⟩], .agg #[.int .i64 0, .int .i64 0], .int .i64 v]) (by simp [results, Try.results13, go_sem, d0, d1, d2, d3, e0, e1]) rfl ⟨fin3_eq Hfin.out, ?_⟩
  exact below_set6 Hb1.out _ _ _ _ _ _
-- CASES
set_option maxRecDepth 100000 in
set_option maxHeartbeats 1000000 in
theorem next_range (spec : ByteArray) (ss : List ByteArray) (A : Option Addr) (n cap : Nat) (ix off : Int) (w : World) (hA : Strs w w.heap.size A n ss) (hn : n ≤ 100) (hz : ∀ s ∈ ss, s.size ≤ 1000) (hs : spec.size ≤ 100)
    (hv : validS spec.data.toList = 0) (hin : inR (bytesOf' ss) ix off = false) (r : OptR × (Int × Int) × Int) (hr : nextS spec.data.toList (bytesOf' ss) ix off = r) :
    Calls Try.prog 13 #[.string spec, .slice A n cap, .agg #[.int .i64 ix, .int .i64 off]] w fun e w' =>
      e = .returned (.tuple #[optV r.1, stV r.2.1, .int .i64 r.2.2]) ∧ Below w.heap.size w w' := by
  have hV := Lib.hid (fun W => valid_any spec W (by unfold maxLen; omega))
  have hI := Lib.hid (fun W (hW : Below w.heap.size w W) => inRange_any ss A n cap ix off W ((hA.below hW).more hW.size) hn hz)
  rw [hv] at hV
  rw [hin] at hI
  have Hfin : Hid (r = (⟨(⟨#[]⟩ : ByteArray).data.toList, (⟨#[]⟩ : ByteArray).data.toList, 0, (⟨#[]⟩ : ByteArray).data.toList⟩, (0, 0), 2)) := by
    show _ = _
    rw [← hr, nextS, if_neg (by simp [hv]), if_pos hin]; rfl
  clear hr hv hin
  clear hA hz
  go_enter Try.func13, Try.ntmps13
  go_wp2_with (first | (go_at_call 10; refine (hV.out _).mono ?_; rintro e w1 ⟨rfl, hb1⟩; have Hb1 := Lib.hid (below3 hb1); have HF1 := Lib.hid ((Fr.start w _ _ _ _ _ _ _ _).later hb1); obtain ⟨c0, c1, d0, d1, d2, d3, e0, e1, f1, g0, g1, g2, g3, h0, h1, sz⟩ := HF1.out; clear hb1) | (go_at_call 22; refine (hI.out _ Hb1.out).mono ?_; rintro e w2 ⟨rfl, hb2⟩; have Hb2 := Lib.hid (Hb1.out.trans (hb2.mono Hb1.out.size)); have HF2 := Lib.hid (HF1.out.later hb2); clear c0 c1 d0 d1 d2 d3 e0 e1 f1 g0 g1 g2 g3 h0 h1 sz; obtain ⟨c0, c1, d0, d1, d2, d3, e0, e1, f1, g0, g1, g2, g3, h0, h1, sz⟩ := HF2.out; clear hb2))
  refine bodyPost_ret (v := .tuple #[.agg #[.string ⟨#[]⟩, .string ⟨#[]⟩, .int .i64 0, .string ⟨#[]⟩], .agg #[.int .i64 0, .int .i64 0], .int .i64 2]) (by simp [results, Try.results13, go_sem, d0, d1, d2, d3, e0, e1]) rfl ⟨fin3_eq Hfin.out, ?_⟩
  exact below_set6 Hb2.out _ _ _ _ _ _

set_option maxRecDepth 100000 in
set_option maxHeartbeats 1000000 in
theorem next_past (spec : ByteArray) (ss : List ByteArray) (A : Option Addr) (n cap : Nat) (ix off : Int) (w : World) (hA : Strs w w.heap.size A n ss) (hn : n ≤ 100) (hz : ∀ s ∈ ss, s.size ≤ 1000) (hs : spec.size ≤ 100)
    (hv : validS spec.data.toList = 0) (hin : inR (bytesOf' ss) ix off = true) (hoff : off = 0) (hix : (n : Int) < ix) (r : OptR × (Int × Int) × Int) (hr : nextS spec.data.toList (bytesOf' ss) ix off = r) :
    Calls Try.prog 13 #[.string spec, .slice A n cap, .agg #[.int .i64 ix, .int .i64 off]] w fun e w' =>
      e = .returned (.tuple #[optV r.1, stV r.2.1, .int .i64 r.2.2]) ∧ Below w.heap.size w w' := by
  have hV := Lib.hid (fun W => valid_any spec W (by unfold maxLen; omega))
  have hI := Lib.hid (fun W (hW : Below w.heap.size w W) => inRange_any ss A n cap ix off W ((hA.below hW).more hW.size) hn hz)
  rw [hv] at hV
  rw [hin] at hI
  have Hfin : Hid (r = (⟨(⟨#[63]⟩ : ByteArray).data.toList, (⟨#[]⟩ : ByteArray).data.toList, 1, (⟨#[]⟩ : ByteArray).data.toList⟩, (ix, 0), 0)) := by
    show _ = _
    have hw : wordOf (bytesOf' ss) ix = [] := by rw [wordOf, if_neg]; rw [bytes_len, ← hA.1]; omega
    rw [← hr, nextS, if_neg (by simp [hv]), if_neg (by simp [hin])]
    simp [hw, hoff, endR]
  clear hr hv hin
  clear hA hz
  subst hoff
  go_enter Try.func13, Try.ntmps13
  go_wp2_with (first | (go_at_call 10; refine (hV.out _).mono ?_; rintro e w1 ⟨rfl, hb1⟩; have Hb1 := Lib.hid (below3 hb1); have HF1 := Lib.hid ((Fr.start w _ _ _ _ _ _ _ _).later hb1); obtain ⟨c0, c1, d0, d1, d2, d3, e0, e1, f1, g0, g1, g2, g3, h0, h1, sz⟩ := HF1.out; clear hb1) | (go_at_call 22; refine (hI.out _ Hb1.out).mono ?_; rintro e w2 ⟨rfl, hb2⟩; have Hb2 := Lib.hid (Hb1.out.trans (hb2.mono Hb1.out.size)); have HF2 := Lib.hid (HF1.out.later hb2); clear c0 c1 d0 d1 d2 d3 e0 e1 f1 g0 g1 g2 g3 h0 h1 sz; obtain ⟨c0, c1, d0, d1, d2, d3, e0, e1, f1, g0, g1, g2, g3, h0, h1, sz⟩ := HF2.out; clear hb2))
  go_region
  go_wp2
  refine bodyPost_ret (v := .tuple #[.agg #[.string ⟨#[63]⟩, .string ⟨#[]⟩, .int .i64 1, .string ⟨#[]⟩], .agg #[.int .i64 ix, .int .i64 0], .int .i64 0]) (by simp [results, Try.results13, go_sem, d0, d1, d2, d3, e0, e1]) rfl ⟨fin3_eq Hfin.out, ?_⟩
  exact (below_set6 Hb2.out _ _ _ _ _ _).drew

set_option maxRecDepth 100000 in
set_option maxHeartbeats 1000000 in
theorem next_dashes (spec : ByteArray) (ss : List ByteArray) (A : Option Addr) (n cap : Nat) (ix off : Int) (w : World) (hA : Strs w w.heap.size A n ss) (hn : n ≤ 100) (hz : ∀ s ∈ ss, s.size ≤ 1000) (hs : spec.size ≤ 100)
    (hv : validS spec.data.toList = 0) (hin : inR (bytesOf' ss) ix off = true) (hoff : off = 0) (k : Nat) (hk : ix = k + 1) (hkn : k < n) (hdd : (bytesOf' ss).getD k [] = [45, 45]) (r : OptR × (Int × Int) × Int) (hr : nextS spec.data.toList (bytesOf' ss) ix off = r) :
    Calls Try.prog 13 #[.string spec, .slice A n cap, .agg #[.int .i64 ix, .int .i64 off]] w fun e w' =>
      e = .returned (.tuple #[optV r.1, stV r.2.1, .int .i64 r.2.2]) ∧ Below w.heap.size w w' := by
  have hV := Lib.hid (fun W => valid_any spec W (by unfold maxLen; omega))
  have hI := Lib.hid (fun W (hW : Below w.heap.size w W) => inRange_any ss A n cap ix off W ((hA.below hW).more hW.size) hn hz)
  rw [hv] at hV
  rw [hin] at hI
  have hkl : k < ss.length := by have := hA.1; omega
  obtain ⟨b0, off0, rfl, hb0, hc0⟩ := hA.2 (by omega)
  have hcell := hc0 k hkl
  clear hc0
  have hwd : wordOf (bytesOf' ss) ix = ss[k].data.toList := by
    rw [wordOf, if_pos (by rw [bytes_len, ← hA.1]; omega), hk, show ((k : Int) + 1 - 1).toNat = k by omega, bytes_get ss k hkl]
  have hwz := hz _ (List.getElem_mem hkl)
  have Hfin : Hid (r = (⟨(⟨#[63]⟩ : ByteArray).data.toList, (⟨#[]⟩ : ByteArray).data.toList, 1, (⟨#[]⟩ : ByteArray).data.toList⟩, (ix + 1, 0), 0)) := by
    show _ = _
    rw [← hr, nextS, if_neg (by simp [hv]), if_neg (by simp [hin])]
    have hd : ss[k].data.toList = [45, 45] := by rw [← bytes_get ss k hkl]; exact hdd
    simp [hwd, hoff, hd, endR]
  have Hd : Hid (ss[k].data.toList = [45, 45]) := by show _ = _; rw [← bytes_get ss k hkl]; exact hdd
  clear hr hv hin hdd
  clear hA hz hwd
  subst hoff
  subst hk
  generalize ss[k] = word at *
  clear hkl
  have p1 : (0 : Int) ≤ (k : Int) := by omega
  have p2 : (k : Int) < (n : Int) := by omega
  have hd2 : word.toList = [45, 45] := by rw [Lib.toList_data]; exact Hd.out
  go_enter Try.func13, Try.ntmps13
  go_wp2_with (first | (go_at_call 10; refine (hV.out _).mono ?_; rintro e w1 ⟨rfl, hb1⟩; have Hb1 := Lib.hid (below3 hb1); have HF1 := Lib.hid ((Fr.start w _ _ _ _ _ _ _ _).later hb1); obtain ⟨c0, c1, d0, d1, d2, d3, e0, e1, f1, g0, g1, g2, g3, h0, h1, sz⟩ := HF1.out; clear hb1) | (go_at_call 22; refine (hI.out _ Hb1.out).mono ?_; rintro e w2 ⟨rfl, hb2⟩; have Hb2 := Lib.hid (Hb1.out.trans (hb2.mono Hb1.out.size)); have HF2 := Lib.hid (HF1.out.later hb2); clear c0 c1 d0 d1 d2 d3 e0 e1 f1 g0 g1 g2 g3 h0 h1 sz; obtain ⟨c0, c1, d0, d1, d2, d3, e0, e1, f1, g0, g1, g2, g3, h0, h1, sz⟩ := HF2.out; clear hb2; have hcl := (Hb2.out.cell (p := ⟨b0, off0 + k, none⟩) hb0).trans hcell))
  go_region
  go_wp2
  refine bodyPost_ret (v := .tuple #[.agg #[.string ⟨#[63]⟩, .string ⟨#[]⟩, .int .i64 1, .string ⟨#[]⟩], .agg #[.int .i64 ((k : Int) + 1 + 1), .int .i64 0], .int .i64 0]) (by simp [results, Try.results13, go_sem, d0, d1, d2, d3, e0, e1]) rfl ⟨fin3_eq Hfin.out, ?_⟩
  exact (below_set6 Hb2.out _ _ _ _ _ _).drew

set_option maxRecDepth 100000 in
set_option maxHeartbeats 1000000 in
theorem next_short (spec : ByteArray) (ss : List ByteArray) (A : Option Addr) (n cap : Nat) (ix off : Int) (w : World) (hA : Strs w w.heap.size A n ss) (hn : n ≤ 100) (hz : ∀ s ∈ ss, s.size ≤ 1000) (hs : spec.size ≤ 100)
    (hv : validS spec.data.toList = 0) (hin : inR (bytesOf' ss) ix off = true) (hoff : off = 0) (k : Nat) (hk : ix = k + 1) (hkn : k < n) (hsh : ((bytesOf' ss).getD k []).length < 2) (r : OptR × (Int × Int) × Int) (hr : nextS spec.data.toList (bytesOf' ss) ix off = r) :
    Calls Try.prog 13 #[.string spec, .slice A n cap, .agg #[.int .i64 ix, .int .i64 off]] w fun e w' =>
      e = .returned (.tuple #[optV r.1, stV r.2.1, .int .i64 r.2.2]) ∧ Below w.heap.size w w' := by
  have hV := Lib.hid (fun W => valid_any spec W (by unfold maxLen; omega))
  have hI := Lib.hid (fun W (hW : Below w.heap.size w W) => inRange_any ss A n cap ix off W ((hA.below hW).more hW.size) hn hz)
  rw [hv] at hV
  rw [hin] at hI
  have hkl : k < ss.length := by have := hA.1; omega
  obtain ⟨b0, off0, rfl, hb0, hc0⟩ := hA.2 (by omega)
  have hcell := hc0 k hkl
  clear hc0
  have hwd : wordOf (bytesOf' ss) ix = ss[k].data.toList := by
    rw [wordOf, if_pos (by rw [bytes_len, ← hA.1]; omega), hk, show ((k : Int) + 1 - 1).toNat = k by omega, bytes_get ss k hkl]
  have hwz := hz _ (List.getElem_mem hkl)
  have Hfin : Hid (r = (⟨(⟨#[63]⟩ : ByteArray).data.toList, (⟨#[]⟩ : ByteArray).data.toList, 1, (⟨#[]⟩ : ByteArray).data.toList⟩, (ix, 0), 0)) := by
    show _ = _
    rw [← hr, nextS, if_neg (by simp [hv]), if_neg (by simp [hin])]
    have hsh' : ss[k].data.toList.length < 2 := by rw [← bytes_get ss k hkl]; exact hsh
    have hne : ss[k].data.toList ≠ [45, 45] := by intro e; rw [e] at hsh'; simp at hsh'
    simp only [hwd, hoff, hne, hsh', endR]; simp
  have hwsz : ss[k].size < 2 := by rw [Lib.size_eq, ← bytes_get ss k hkl]; exact hsh
  have hdd : (ss[k].toList == [45, 45]) = false := by
    rw [beq_eq_false_iff_ne, Lib.toList_data]; intro e; rw [Lib.size_eq, e] at hwsz; simp at hwsz
  clear hr hv hin hsh
  clear hA hz hwd
  subst hoff
  subst hk
  generalize ss[k] = word at *
  clear hkl
  have p1 : (0 : Int) ≤ (k : Int) := by omega
  have p2 : (k : Int) < (n : Int) := by omega
  go_enter Try.func13, Try.ntmps13
  go_wp2_with (first | (go_at_call 10; refine (hV.out _).mono ?_; rintro e w1 ⟨rfl, hb1⟩; have Hb1 := Lib.hid (below3 hb1); have HF1 := Lib.hid ((Fr.start w _ _ _ _ _ _ _ _).later hb1); obtain ⟨c0, c1, d0, d1, d2, d3, e0, e1, f1, g0, g1, g2, g3, h0, h1, sz⟩ := HF1.out; clear hb1) | (go_at_call 22; refine (hI.out _ Hb1.out).mono ?_; rintro e w2 ⟨rfl, hb2⟩; have Hb2 := Lib.hid (Hb1.out.trans (hb2.mono Hb1.out.size)); have HF2 := Lib.hid (HF1.out.later hb2); clear c0 c1 d0 d1 d2 d3 e0 e1 f1 g0 g1 g2 g3 h0 h1 sz; obtain ⟨c0, c1, d0, d1, d2, d3, e0, e1, f1, g0, g1, g2, g3, h0, h1, sz⟩ := HF2.out; clear hb2; have hcl := (Hb2.out.cell (p := ⟨b0, off0 + k, none⟩) hb0).trans hcell))
  go_region
  go_wp2
  refine bodyPost_ret (v := .tuple #[.agg #[.string ⟨#[63]⟩, .string ⟨#[]⟩, .int .i64 1, .string ⟨#[]⟩], .agg #[.int .i64 ((k : Int) + 1), .int .i64 0], .int .i64 0]) (by simp [results, Try.results13, go_sem, d0, d1, d2, d3, e0, e1]) rfl ⟨fin3_eq Hfin.out, ?_⟩
  exact (below_set6 Hb2.out _ _ _ _ _ _).drew

set_option maxRecDepth 100000 in
set_option maxHeartbeats 1000000 in
theorem next_operand (spec : ByteArray) (ss : List ByteArray) (A : Option Addr) (n cap : Nat) (ix off : Int) (w : World) (hA : Strs w w.heap.size A n ss) (hn : n ≤ 100) (hz : ∀ s ∈ ss, s.size ≤ 1000) (hs : spec.size ≤ 100)
    (hv : validS spec.data.toList = 0) (hin : inR (bytesOf' ss) ix off = true) (hoff : off = 0) (k : Nat) (hk : ix = k + 1) (hkn : k < n) (hsh : 2 ≤ ((bytesOf' ss).getD k []).length) (hfst : ((bytesOf' ss).getD k []).getD 0 0 ≠ 45) (r : OptR × (Int × Int) × Int) (hr : nextS spec.data.toList (bytesOf' ss) ix off = r) :
    Calls Try.prog 13 #[.string spec, .slice A n cap, .agg #[.int .i64 ix, .int .i64 off]] w fun e w' =>
      e = .returned (.tuple #[optV r.1, stV r.2.1, .int .i64 r.2.2]) ∧ Below w.heap.size w w' := by
  have hV := Lib.hid (fun W => valid_any spec W (by unfold maxLen; omega))
  have hI := Lib.hid (fun W (hW : Below w.heap.size w W) => inRange_any ss A n cap ix off W ((hA.below hW).more hW.size) hn hz)
  rw [hv] at hV
  rw [hin] at hI
  have hkl : k < ss.length := by have := hA.1; omega
  obtain ⟨b0, off0, rfl, hb0, hc0⟩ := hA.2 (by omega)
  have hcell := hc0 k hkl
  clear hc0
  have hwd : wordOf (bytesOf' ss) ix = ss[k].data.toList := by
    rw [wordOf, if_pos (by rw [bytes_len, ← hA.1]; omega), hk, show ((k : Int) + 1 - 1).toNat = k by omega, bytes_get ss k hkl]
  have hwz := hz _ (List.getElem_mem hkl)
  have Hfin : Hid (r = (⟨(⟨#[63]⟩ : ByteArray).data.toList, (⟨#[]⟩ : ByteArray).data.toList, 1, (⟨#[]⟩ : ByteArray).data.toList⟩, (ix, 0), 0)) := by
    show _ = _
    rw [← hr, nextS, if_neg (by simp [hv]), if_neg (by simp [hin])]
    have hf : ss[k].data.toList.getD 0 0 ≠ 45 := by rw [← bytes_get ss k hkl]; exact hfst
    have hne : ss[k].data.toList ≠ [45, 45] := by intro e; rw [e] at hf; exact hf rfl
    rw [hwd, hoff]
    simp only []
    rw [if_neg (fun h => hne h.2), if_pos ⟨trivial, Or.inr hf⟩]; rfl
  have hwsz : 2 ≤ ss[k].size := by rw [Lib.size_eq, ← bytes_get ss k hkl]; exact hsh
  have hf45 : ∀ h : 0 < ss[k].size, ((ss[k][0].toNat : Int) != 45) = true := by
    intro h
    rw [bne_iff_ne]; intro e
    apply hfst
    rw [bytes_get ss k hkl, List.getD_eq_getElem?_getD, List.getElem?_eq_getElem (by rw [← Lib.size_eq]; exact h)]
    have : ss[k][0] = 45 := UInt8.toNat_inj.1 (by simp; omega)
    exact this
  have hdd : (ss[k].toList == [45, 45]) = false := by
    rw [beq_eq_false_iff_ne, Lib.toList_data, ← bytes_get ss k hkl]; intro e; rw [e] at hfst; exact hfst rfl
  have h0sz : 0 < ss[k].size := by omega
  have hf45' := hf45 h0sz
  clear hr hv hin hsh hfst hf45
  clear hA hz hwd
  subst hoff
  subst hk
  generalize ss[k] = word at *
  clear hkl
  have p1 : (0 : Int) ≤ (k : Int) := by omega
  have p2 : (k : Int) < (n : Int) := by omega
  go_enter Try.func13, Try.ntmps13
  go_wp2_with (first | (go_at_call 10; refine (hV.out _).mono ?_; rintro e w1 ⟨rfl, hb1⟩; have Hb1 := Lib.hid (below3 hb1); have HF1 := Lib.hid ((Fr.start w _ _ _ _ _ _ _ _).later hb1); obtain ⟨c0, c1, d0, d1, d2, d3, e0, e1, f1, g0, g1, g2, g3, h0, h1, sz⟩ := HF1.out; clear hb1) | (go_at_call 22; refine (hI.out _ Hb1.out).mono ?_; rintro e w2 ⟨rfl, hb2⟩; have Hb2 := Lib.hid (Hb1.out.trans (hb2.mono Hb1.out.size)); have HF2 := Lib.hid (HF1.out.later hb2); clear c0 c1 d0 d1 d2 d3 e0 e1 f1 g0 g1 g2 g3 h0 h1 sz; obtain ⟨c0, c1, d0, d1, d2, d3, e0, e1, f1, g0, g1, g2, g3, h0, h1, sz⟩ := HF2.out; clear hb2; have hcl := (Hb2.out.cell (p := ⟨b0, off0 + k, none⟩) hb0).trans hcell))
  go_region
  go_wp2
  refine bodyPost_ret (v := .tuple #[.agg #[.string ⟨#[63]⟩, .string ⟨#[]⟩, .int .i64 1, .string ⟨#[]⟩], .agg #[.int .i64 ((k : Int) + 1), .int .i64 0], .int .i64 0]) (by simp [results, Try.results13, go_sem, d0, d1, d2, d3, e0, e1]) rfl ⟨fin3_eq Hfin.out, ?_⟩
  exact (below_set6 Hb2.out _ _ _ _ _ _).drew

set_option maxRecDepth 100000 in
set_option maxHeartbeats 1000000 in
theorem next_first (spec : ByteArray) (ss : List ByteArray) (A : Option Addr) (n cap : Nat) (ix off : Int) (w : World) (hA : Strs w w.heap.size A n ss) (hn : n ≤ 100) (hz : ∀ s ∈ ss, s.size ≤ 1000) (hs : spec.size ≤ 100)
    (hv : validS spec.data.toList = 0) (hin : inR (bytesOf' ss) ix off = true) (k : Nat) (hk : ix = k + 1) (hkn : k < n) (hoff : off = 0) (hsh : 2 ≤ ((bytesOf' ss).getD k []).length) (hfst : ((bytesOf' ss).getD k []).getD 0 0 = 45) (hdd : (bytesOf' ss).getD k [] ≠ [45, 45]) (r : OptR × (Int × Int) × Int) (hr : nextS spec.data.toList (bytesOf' ss) ix off = r) :
    Calls Try.prog 13 #[.string spec, .slice A n cap, .agg #[.int .i64 ix, .int .i64 off]] w fun e w' =>
      e = .returned (.tuple #[optV r.1, stV r.2.1, .int .i64 r.2.2]) ∧ Below w.heap.size w w' := by
  have hV := Lib.hid (fun W => valid_any spec W (by unfold maxLen; omega))
  have hI := Lib.hid (fun W (hW : Below w.heap.size w W) => inRange_any ss A n cap ix off W ((hA.below hW).more hW.size) hn hz)
  rw [hv] at hV
  rw [hin] at hI
  have hkl : k < ss.length := by have := hA.1; omega
  obtain ⟨b0, off0, rfl, hb0, hc0⟩ := hA.2 (by omega)
  have hcell := hc0 k hkl
  clear hc0
  have hwd : wordOf (bytesOf' ss) ix = ss[k].data.toList := by
    rw [wordOf, if_pos (by rw [bytes_len, ← hA.1]; omega), hk, show ((k : Int) + 1 - 1).toNat = k by omega, bytes_get ss k hkl]
  have hwz := hz _ (List.getElem_mem hkl)
  rw [bytes_get ss k hkl] at hsh hfst hdd
  have hfin : r = ((stepS spec.data.toList (bytesOf' ss) ss[k].data.toList ((k + 1 : Nat) : Int) 1).1, (stepS spec.data.toList (bytesOf' ss) ss[k].data.toList ((k + 1 : Nat) : Int) 1).2, 0) := by
    rw [← hr, nextS, if_neg (by simp [hv]), if_neg (by simp [hin]), hwd]
    simp only []
    rw [if_neg (fun h => hdd h.2), if_neg (fun h => by rcases h.2 with h | h; omega; exact h hfst), if_pos hoff, hk]
    rfl
  have hat : 1 < ss[k].size := by rw [Lib.size_eq]; omega
  have hwsz : 2 ≤ ss[k].size := hat
  have h0sz : 0 < ss[k].size := by omega
  have hf45 : ((ss[k][0].toNat : Int) != 45) = false := by
    rw [List.getD_eq_getElem?_getD, List.getElem?_eq_getElem (by rw [← Lib.size_eq]; exact h0sz)] at hfst
    have : ss[k][0] = 45 := hfst
    rw [this]; rfl
  have hdd' : (ss[k].toList == [45, 45]) = false := by
    rw [beq_eq_false_iff_ne, Lib.toList_data]; exact hdd
  have hsz : ss[k].size = ss[k].data.toList.length := Lib.size_eq _
  generalize hr0 : stepS spec.data.toList (bytesOf' ss) ss[k].data.toList ((k + 1 : Nat) : Int) 1 = r0 at *
  obtain ⟨⟨l0, g0', st, m0⟩, x, y⟩ := r0
  obtain ⟨L, hL⟩ : ∃ L : ByteArray, L.data.toList = l0 := ⟨⟨l0.toArray⟩, rfl⟩
  obtain ⟨G, hG⟩ : ∃ L : ByteArray, L.data.toList = g0' := ⟨⟨g0'.toArray⟩, rfl⟩
  obtain ⟨M, hM⟩ : ∃ L : ByteArray, L.data.toList = m0 := ⟨⟨m0.toArray⟩, rfl⟩
  subst hL hG hM
  have Hfin : Hid (r = (⟨L.data.toList, G.data.toList, st, M.data.toList⟩, (x, y), 0)) := hfin
  have hS := Lib.hid (fun W (hW : Below w.heap.size w W) => step_any2 spec ss[k] ss (some ⟨b0, off0, none⟩) n cap (k + 1) 1 W ((hA.below hW).more hW.size) hn hs hwz hat (by omega) (by omega) hr0)
  rw [show (((k + 1 : Nat) : Int)) = (k : Int) + 1 by omega] at hS
  clear hr hv hin
  clear hA hz hwd hr0 hfin hat hwz hsh hfst hdd hsz
  subst hoff
  subst hk
  generalize ss[k] = word at *
  clear hkl
  have p1 : (0 : Int) ≤ (k : Int) := by omega
  have p2 : (k : Int) < (n : Int) := by omega
  go_enter Try.func13, Try.ntmps13
  go_wp2_with (first | (go_at_call 10; refine (hV.out _).mono ?_; rintro e w1 ⟨rfl, hb1⟩; have Hb1 := Lib.hid (below3 hb1); have HF1 := Lib.hid ((Fr.start w _ _ _ _ _ _ _ _).later hb1); obtain ⟨c0, c1, d0, d1, d2, d3, e0, e1, f1, g0, g1, g2, g3, h0, h1, sz⟩ := HF1.out; clear hb1) | (go_at_call 22; refine (hI.out _ Hb1.out).mono ?_; rintro e w2 ⟨rfl, hb2⟩; have Hb2 := Lib.hid (Hb1.out.trans (hb2.mono Hb1.out.size)); have HF2 := Lib.hid (HF1.out.later hb2); clear c0 c1 d0 d1 d2 d3 e0 e1 f1 g0 g1 g2 g3 h0 h1 sz; obtain ⟨c0, c1, d0, d1, d2, d3, e0, e1, f1, g0, g1, g2, g3, h0, h1, sz⟩ := HF2.out; clear hb2; have hcl := (Hb2.out.cell (p := ⟨b0, off0 + k, none⟩) hb0).trans hcell) | (go_at_call 23; refine (hS.out _ (Hb2.out.setCell (p := ⟨w.heap.size, 1, none⟩) (Nat.le_refl _) _)).mono ?_; rintro e w3 ⟨rfl, hb3⟩; have Hb3 := Lib.hid ((Hb2.out.setCell (p := ⟨w.heap.size, 1, none⟩) (Nat.le_refl _) _).trans (hb3.mono (Hb2.out.setCell (p := ⟨w.heap.size, 1, none⟩) (Nat.le_refl _) _).size)); have HF3 := Lib.hid ((HF2.out.set1 _).later hb3); clear c0 c1 d0 d1 d2 d3 e0 e1 f1 g0 g1 g2 g3 h0 h1 sz; have HF4 := Lib.hid (fun o1 o2 => HF3.out.later (below_two (Below.refl _ _) (Nat.le_refl _) o1 o2)); have d0 := fun o1 o2 => (HF4.out o1 o2).d0; have d1 := fun o1 o2 => (HF4.out o1 o2).d1; have d2 := fun o1 o2 => (HF4.out o1 o2).d2; have d3 := fun o1 o2 => (HF4.out o1 o2).d3; have e0 := fun o1 o2 => (HF4.out o1 o2).e0; have e1 := fun o1 o2 => (HF4.out o1 o2).e1; have g0 := fun o1 o2 => (HF4.out o1 o2).g0; have g1 := fun o1 o2 => (HF4.out o1 o2).g1; have g2 := fun o1 o2 => (HF4.out o1 o2).g2; have g3 := fun o1 o2 => (HF4.out o1 o2).g3; have h0 := fun o1 o2 => (HF4.out o1 o2).h0; have h1 := fun o1 o2 => (HF4.out o1 o2).h1; have sz := HF3.out.sz; clear hb3))
  go_region
  go_wp2
  refine bodyPost_ret (v := .tuple #[.agg #[.string L, .string G, .int .i64 st, .string M], .agg #[.int .i64 x, .int .i64 y], .int .i64 0]) (by simp [results, Try.results13, go_sem, d0, d1, d2, d3, e0, e1]) rfl ⟨fin3_eq Hfin.out, ?_⟩
  exact (below_set6 (below_two Hb3.out Hb3.out.size _ _) _ _ _ _ _ _).drew

set_option maxRecDepth 100000 in
set_option maxHeartbeats 1000000 in
theorem next_later (spec : ByteArray) (ss : List ByteArray) (A : Option Addr) (n cap : Nat) (ix off : Int) (w : World) (hA : Strs w w.heap.size A n ss) (hn : n ≤ 100) (hz : ∀ s ∈ ss, s.size ≤ 1000) (hs : spec.size ≤ 100)
    (hv : validS spec.data.toList = 0) (hin : inR (bytesOf' ss) ix off = true) (k : Nat) (hk : ix = k + 1) (hkn : k < n) (at_ : Nat) (hoff : off = at_) (hat1 : 1 ≤ at_) (hatl : at_ < ((bytesOf' ss).getD k []).length) (r : OptR × (Int × Int) × Int) (hr : nextS spec.data.toList (bytesOf' ss) ix off = r) :
    Calls Try.prog 13 #[.string spec, .slice A n cap, .agg #[.int .i64 ix, .int .i64 off]] w fun e w' =>
      e = .returned (.tuple #[optV r.1, stV r.2.1, .int .i64 r.2.2]) ∧ Below w.heap.size w w' := by
  have hV := Lib.hid (fun W => valid_any spec W (by unfold maxLen; omega))
  have hI := Lib.hid (fun W (hW : Below w.heap.size w W) => inRange_any ss A n cap ix off W ((hA.below hW).more hW.size) hn hz)
  rw [hv] at hV
  rw [hin] at hI
  have hkl : k < ss.length := by have := hA.1; omega
  obtain ⟨b0, off0, rfl, hb0, hc0⟩ := hA.2 (by omega)
  have hcell := hc0 k hkl
  clear hc0
  have hwd : wordOf (bytesOf' ss) ix = ss[k].data.toList := by
    rw [wordOf, if_pos (by rw [bytes_len, ← hA.1]; omega), hk, show ((k : Int) + 1 - 1).toNat = k by omega, bytes_get ss k hkl]
  have hwz := hz _ (List.getElem_mem hkl)
  rw [bytes_get ss k hkl] at hatl
  have hfin : r = ((stepS spec.data.toList (bytesOf' ss) ss[k].data.toList ((k + 1 : Nat) : Int) at_).1, (stepS spec.data.toList (bytesOf' ss) ss[k].data.toList ((k + 1 : Nat) : Int) at_).2, 0) := by
    have h0 : ¬ (at_ : Int) = 0 := by omega
    rw [← hr, nextS, if_neg (by simp [hv]), if_neg (by simp [hin]), hwd]
    simp only []
    rw [if_neg (fun h => h0 (hoff ▸ h.1)), if_neg (fun h => h0 (hoff ▸ h.1)), if_neg (fun h => h0 (hoff ▸ h)), hoff, hk, Int.toNat_natCast]
    rfl
  have hat : at_ < ss[k].size := by rw [Lib.size_eq]; omega
  have ho0 : ((at_ : Int) == 0) = false := by rw [beq_eq_false_iff_ne]; omega
  have hsz : ss[k].size = ss[k].data.toList.length := Lib.size_eq _
  generalize hr0 : stepS spec.data.toList (bytesOf' ss) ss[k].data.toList ((k + 1 : Nat) : Int) at_ = r0 at *
  obtain ⟨⟨l0, g0', st, m0⟩, x, y⟩ := r0
  obtain ⟨L, hL⟩ : ∃ L : ByteArray, L.data.toList = l0 := ⟨⟨l0.toArray⟩, rfl⟩
  obtain ⟨G, hG⟩ : ∃ L : ByteArray, L.data.toList = g0' := ⟨⟨g0'.toArray⟩, rfl⟩
  obtain ⟨M, hM⟩ : ∃ L : ByteArray, L.data.toList = m0 := ⟨⟨m0.toArray⟩, rfl⟩
  subst hL hG hM
  have Hfin : Hid (r = (⟨L.data.toList, G.data.toList, st, M.data.toList⟩, (x, y), 0)) := hfin
  have hS := Lib.hid (fun W (hW : Below w.heap.size w W) => step_any2 spec ss[k] ss (some ⟨b0, off0, none⟩) n cap (k + 1) at_ W ((hA.below hW).more hW.size) hn hs hwz hat (by omega) (by omega) hr0)
  rw [show (((k + 1 : Nat) : Int)) = (k : Int) + 1 by omega] at hS
  clear hr hv hin
  clear hA hz hwd hr0 hfin hat hwz hatl hsz
  subst hoff
  subst hk
  generalize ss[k] = word at *
  clear hkl
  have p1 : (0 : Int) ≤ (k : Int) := by omega
  have p2 : (k : Int) < (n : Int) := by omega
  go_enter Try.func13, Try.ntmps13
  go_wp2_with (first | (go_at_call 10; refine (hV.out _).mono ?_; rintro e w1 ⟨rfl, hb1⟩; have Hb1 := Lib.hid (below3 hb1); have HF1 := Lib.hid ((Fr.start w _ _ _ _ _ _ _ _).later hb1); obtain ⟨c0, c1, d0, d1, d2, d3, e0, e1, f1, g0, g1, g2, g3, h0, h1, sz⟩ := HF1.out; clear hb1) | (go_at_call 22; refine (hI.out _ Hb1.out).mono ?_; rintro e w2 ⟨rfl, hb2⟩; have Hb2 := Lib.hid (Hb1.out.trans (hb2.mono Hb1.out.size)); have HF2 := Lib.hid (HF1.out.later hb2); clear c0 c1 d0 d1 d2 d3 e0 e1 f1 g0 g1 g2 g3 h0 h1 sz; obtain ⟨c0, c1, d0, d1, d2, d3, e0, e1, f1, g0, g1, g2, g3, h0, h1, sz⟩ := HF2.out; clear hb2; have hcl := (Hb2.out.cell (p := ⟨b0, off0 + k, none⟩) hb0).trans hcell) | (go_at_call 23; refine (hS.out _ Hb2.out).mono ?_; rintro e w3 ⟨rfl, hb3⟩; have Hb3 := Lib.hid (Hb2.out.trans (hb3.mono Hb2.out.size)); have HF3 := Lib.hid (HF2.out.later hb3); clear c0 c1 d0 d1 d2 d3 e0 e1 f1 g0 g1 g2 g3 h0 h1 sz; have HF4 := Lib.hid (fun o1 o2 => HF3.out.later (below_two (Below.refl _ _) (Nat.le_refl _) o1 o2)); have d0 := fun o1 o2 => (HF4.out o1 o2).d0; have d1 := fun o1 o2 => (HF4.out o1 o2).d1; have d2 := fun o1 o2 => (HF4.out o1 o2).d2; have d3 := fun o1 o2 => (HF4.out o1 o2).d3; have e0 := fun o1 o2 => (HF4.out o1 o2).e0; have e1 := fun o1 o2 => (HF4.out o1 o2).e1; have g0 := fun o1 o2 => (HF4.out o1 o2).g0; have g1 := fun o1 o2 => (HF4.out o1 o2).g1; have g2 := fun o1 o2 => (HF4.out o1 o2).g2; have g3 := fun o1 o2 => (HF4.out o1 o2).g3; have h0 := fun o1 o2 => (HF4.out o1 o2).h0; have h1 := fun o1 o2 => (HF4.out o1 o2).h1; have sz := HF3.out.sz; clear hb3))
  go_region
  go_wp2
  refine bodyPost_ret (v := .tuple #[.agg #[.string L, .string G, .int .i64 st, .string M], .agg #[.int .i64 x, .int .i64 y], .int .i64 0]) (by simp [results, Try.results13, go_sem, d0, d1, d2, d3, e0, e1]) rfl ⟨fin3_eq Hfin.out, ?_⟩
  exact (below_set6 (below_two Hb3.out Hb3.out.size _ _) _ _ _ _ _ _).drew

end Go.Proofs.Ytkenicdcelhdcaa
