/- jobshellref16.Next: the early returns: what the call returns. -/
import Derived.Test.YtkenicdcelhdcaaR1
set_option linter.unusedVariables false
namespace Go.Proofs.Ytkenicdcelhdcaa
open Go.RowKit

set_option maxRecDepth 100000 in
set_option maxHeartbeats 2000000 in
theorem ref_invalid (spec : ByteArray) (ss : List ByteArray) (A : Option Addr) (n cap : Nat) (ix off : Int) (w : World) (hs : spec.size ≤ 100)
    (hv : validS spec.data.toList ≠ 0) (r : OptR × (Int × Int) × Int) (hr : nextS spec.data.toList (bytesOf' ss) ix off = r) :
    Calls Try.prog 14 #[.string spec, .slice A n cap, .agg #[.int .i64 ix, .int .i64 off]] w fun e w' =>
      e = .returned (.tuple #[optV r.1, stV r.2.1, .int .i64 r.2.2]) ∧ Below w.heap.size w w' := by
  have Hfin : Hid (r = (⟨(⟨#[]⟩ : ByteArray).data.toList, (⟨#[]⟩ : ByteArray).data.toList, 0, (⟨#[]⟩ : ByteArray).data.toList⟩, (0, 0), validS spec.data.toList)) := by
    show _ = _
    rw [← hr, nextS, if_pos hv]; rfl
  have hvi : (validS spec.data.toList != 0) = true := by simpa using hv
  have hR := Lib.hid (fun W => refValid_any spec W hs)
  clear hr hv
  generalize validS spec.data.toList = v at *
  go_enter Try.func14, Try.ntmps14
  go_wp2_with (go_at_call 11; refine (hR.out _).mono ?_; rintro e w1 ⟨rfl, hb1⟩; have Hb1 := Lib.hid (below3 hb1); have HF1 := Lib.hid ((Fr.start w _ _ _ _ _ _ _ _).later hb1); obtain ⟨c0, c1, d0, d1, d2, d3, e0, e1, f1, g0, g1, g2, g3, h0, h1, sz⟩ := HF1.out; clear hb1)
  refine bodyPost_ret (v := .tuple #[.agg #[.string ⟨#[]⟩, .string ⟨#[]⟩, .int .i64 0, .string ⟨#[]⟩], .agg #[.int .i64 0, .int .i64 0], .int .i64 v]) (by simp [results, Try.results14, go_sem, d0, d1, d2, d3, e0, e1]) rfl ⟨fin3_eq Hfin.out, ?_⟩
  exact below_set6 Hb1.out _ _ _ _ _ _

set_option maxRecDepth 100000 in
set_option maxHeartbeats 2000000 in
theorem ref_range_ix (spec : ByteArray) (ss : List ByteArray) (A : Option Addr) (n cap : Nat) (w : World) (hA : Strs w w.heap.size A n ss) (hn : n ≤ 100) (hz : ∀ s ∈ ss, s.size ≤ 1000) (hs : spec.size ≤ 100) (ix off : Int)
    (hv : validS spec.data.toList = 0) (hin : inR (bytesOf' ss) ix off = false) (hix : ix < 1) (r : OptR × (Int × Int) × Int) (hr : nextS spec.data.toList (bytesOf' ss) ix off = r) :
    Calls Try.prog 14 #[.string spec, .slice A n cap, .agg #[.int .i64 ix, .int .i64 off]] w fun e w' =>
      e = .returned (.tuple #[optV r.1, stV r.2.1, .int .i64 r.2.2]) ∧ Below w.heap.size w w' := by
  have Hfin : Hid (r = (⟨(⟨#[]⟩ : ByteArray).data.toList, (⟨#[]⟩ : ByteArray).data.toList, 0, (⟨#[]⟩ : ByteArray).data.toList⟩, (0, 0), 2)) := by
    show _ = _
    rw [← hr, nextS, if_neg (by simp [hv]), if_pos hin]; rfl
  have hR := Lib.hid (fun W => refValid_any spec W hs)
  rw [hv] at hR
  have p1 : decide (ix < 1) = true := decide_eq_true hix
  clear hr hv hin
  clear hA hz
  go_enter Try.func14, Try.ntmps14
  go_wp2_with (go_at_call 11; refine (hR.out _).mono ?_; rintro e w1 ⟨rfl, hb1⟩; have Hb1 := Lib.hid (below3 hb1); have HF1 := Lib.hid ((Fr.start w _ _ _ _ _ _ _ _).later hb1); obtain ⟨c0, c1, d0, d1, d2, d3, e0, e1, f1, g0, g1, g2, g3, h0, h1, sz⟩ := HF1.out; clear hb1)
  go_quiet (fail)
  go_wp2
  refine bodyPost_ret (v := .tuple #[.agg #[.string ⟨#[]⟩, .string ⟨#[]⟩, .int .i64 0, .string ⟨#[]⟩], .agg #[.int .i64 0, .int .i64 0], .int .i64 2]) (by simp [results, Try.results14, go_sem, d0, d1, d2, d3, e0, e1]) rfl ⟨fin3_eq Hfin.out, ?_⟩
  exact below_set6 (below_drewN Hb1.out _) _ _ _ _ _ _

set_option maxRecDepth 100000 in
set_option maxHeartbeats 2000000 in
theorem ref_range_neg (spec : ByteArray) (ss : List ByteArray) (A : Option Addr) (n cap : Nat) (w : World) (hA : Strs w w.heap.size A n ss) (hn : n ≤ 100) (hz : ∀ s ∈ ss, s.size ≤ 1000) (hs : spec.size ≤ 100) (ix off : Int)
    (hv : validS spec.data.toList = 0) (hin : inR (bytesOf' ss) ix off = false) (hix : 1 ≤ ix) (hoff : off < 0) (r : OptR × (Int × Int) × Int) (hr : nextS spec.data.toList (bytesOf' ss) ix off = r) :
    Calls Try.prog 14 #[.string spec, .slice A n cap, .agg #[.int .i64 ix, .int .i64 off]] w fun e w' =>
      e = .returned (.tuple #[optV r.1, stV r.2.1, .int .i64 r.2.2]) ∧ Below w.heap.size w w' := by
  have Hfin : Hid (r = (⟨(⟨#[]⟩ : ByteArray).data.toList, (⟨#[]⟩ : ByteArray).data.toList, 0, (⟨#[]⟩ : ByteArray).data.toList⟩, (0, 0), 2)) := by
    show _ = _
    rw [← hr, nextS, if_neg (by simp [hv]), if_pos hin]; rfl
  have hR := Lib.hid (fun W => refValid_any spec W hs)
  rw [hv] at hR
  have p1 : decide (ix < 1) = false := decide_eq_false (by omega)
  have p2 : decide (off < 0) = true := decide_eq_true hoff
  clear hr hv hin
  clear hA hz
  go_enter Try.func14, Try.ntmps14
  go_wp2_with (go_at_call 11; refine (hR.out _).mono ?_; rintro e w1 ⟨rfl, hb1⟩; have Hb1 := Lib.hid (below3 hb1); have HF1 := Lib.hid ((Fr.start w _ _ _ _ _ _ _ _).later hb1); obtain ⟨c0, c1, d0, d1, d2, d3, e0, e1, f1, g0, g1, g2, g3, h0, h1, sz⟩ := HF1.out; clear hb1)
  go_quiet (fail)
  go_wp2
  refine bodyPost_ret (v := .tuple #[.agg #[.string ⟨#[]⟩, .string ⟨#[]⟩, .int .i64 0, .string ⟨#[]⟩], .agg #[.int .i64 0, .int .i64 0], .int .i64 2]) (by simp [results, Try.results14, go_sem, d0, d1, d2, d3, e0, e1]) rfl ⟨fin3_eq Hfin.out, ?_⟩
  exact below_set6 (below_drewN Hb1.out _) _ _ _ _ _ _

set_option maxRecDepth 100000 in
set_option maxHeartbeats 2000000 in
theorem ref_range_past (spec : ByteArray) (ss : List ByteArray) (A : Option Addr) (n cap : Nat) (w : World) (hA : Strs w w.heap.size A n ss) (hn : n ≤ 100) (hz : ∀ s ∈ ss, s.size ≤ 1000) (hs : spec.size ≤ 100) (ix off : Int)
    (hv : validS spec.data.toList = 0) (hin : inR (bytesOf' ss) ix off = false) (hix : 1 ≤ ix) (hoff : 0 < off) (hixn : (n : Int) < ix) (r : OptR × (Int × Int) × Int) (hr : nextS spec.data.toList (bytesOf' ss) ix off = r) :
    Calls Try.prog 14 #[.string spec, .slice A n cap, .agg #[.int .i64 ix, .int .i64 off]] w fun e w' =>
      e = .returned (.tuple #[optV r.1, stV r.2.1, .int .i64 r.2.2]) ∧ Below w.heap.size w w' := by
  have Hfin : Hid (r = (⟨(⟨#[]⟩ : ByteArray).data.toList, (⟨#[]⟩ : ByteArray).data.toList, 0, (⟨#[]⟩ : ByteArray).data.toList⟩, (0, 0), 2)) := by
    show _ = _
    rw [← hr, nextS, if_neg (by simp [hv]), if_pos hin]; rfl
  have hR := Lib.hid (fun W => refValid_any spec W hs)
  rw [hv] at hR
  have p1 : decide (ix < 1) = false := decide_eq_false (by omega)
  have p2 : decide (off < 0) = false := decide_eq_false (by omega)
  have p3 : decide (0 < off) = true := decide_eq_true hoff
  have p4 : decide ((n : Int) < ix) = true := decide_eq_true hixn
  clear hr hv hin
  clear hA hz
  go_enter Try.func14, Try.ntmps14
  go_wp2_with (go_at_call 11; refine (hR.out _).mono ?_; rintro e w1 ⟨rfl, hb1⟩; have Hb1 := Lib.hid (below3 hb1); have HF1 := Lib.hid ((Fr.start w _ _ _ _ _ _ _ _).later hb1); obtain ⟨c0, c1, d0, d1, d2, d3, e0, e1, f1, g0, g1, g2, g3, h0, h1, sz⟩ := HF1.out; clear hb1)
  go_quiet (fail)
  go_wp2
  refine bodyPost_ret (v := .tuple #[.agg #[.string ⟨#[]⟩, .string ⟨#[]⟩, .int .i64 0, .string ⟨#[]⟩], .agg #[.int .i64 0, .int .i64 0], .int .i64 2]) (by simp [results, Try.results14, go_sem, d0, d1, d2, d3, e0, e1]) rfl ⟨fin3_eq Hfin.out, ?_⟩
  exact below_set6 (below_drewN Hb1.out _) _ _ _ _ _ _

set_option maxRecDepth 100000 in
set_option maxHeartbeats 2000000 in
theorem ref_range_long (spec : ByteArray) (ss : List ByteArray) (A : Option Addr) (n cap : Nat) (w : World) (hA : Strs w w.heap.size A n ss) (hn : n ≤ 100) (hz : ∀ s ∈ ss, s.size ≤ 1000) (hs : spec.size ≤ 100) (ix off : Int)
    (hv : validS spec.data.toList = 0) (hin : inR (bytesOf' ss) ix off = false) (k : Nat) (hk : ix = k + 1) (hkn : k < n) (hoff : 0 < off) (hlong : (((bytesOf' ss).getD k []).length : Int) ≤ off) (r : OptR × (Int × Int) × Int) (hr : nextS spec.data.toList (bytesOf' ss) ix off = r) :
    Calls Try.prog 14 #[.string spec, .slice A n cap, .agg #[.int .i64 ix, .int .i64 off]] w fun e w' =>
      e = .returned (.tuple #[optV r.1, stV r.2.1, .int .i64 r.2.2]) ∧ Below w.heap.size w w' := by
  have Hfin : Hid (r = (⟨(⟨#[]⟩ : ByteArray).data.toList, (⟨#[]⟩ : ByteArray).data.toList, 0, (⟨#[]⟩ : ByteArray).data.toList⟩, (0, 0), 2)) := by
    show _ = _
    rw [← hr, nextS, if_neg (by simp [hv]), if_pos hin]; rfl
  have hR := Lib.hid (fun W => refValid_any spec W hs)
  rw [hv] at hR
  have hkl : k < ss.length := by have := hA.1; omega
  obtain ⟨b0, off0, rfl, hb0, hc0⟩ := hA.2 (by omega)
  have hcell := hc0 k hkl
  rw [bytes_get ss k hkl] at hlong
  have hwz := hz _ (List.getElem_mem hkl)
  rw [← Lib.size_eq] at hlong
  clear hr hv hin
  subst hk
  clear hA hz hc0
  generalize ss[k] = word at *
  clear hkl
  have p1 : decide ((k : Int) + 1 < 1) = false := decide_eq_false (by omega)
  have p2 : decide (off < 0) = false := decide_eq_false (by omega)
  have p3 : decide (0 < off) = true := decide_eq_true hoff
  have p4 : decide ((n : Int) < (k : Int) + 1) = false := decide_eq_false (by omega)
  have p5 : decide (n < k + 1) = false := decide_eq_false (by omega)
  have p6 : decide ((word.size : Int) ≤ off) = true := decide_eq_true hlong
  have p7 : (0 : Int) ≤ (k : Int) := by omega
  have p8 : (k : Int) < (n : Int) := by omega
  have q9 : IntKind.i64.wrap (k : Int) = (k : Int) := IntWalk.i64_in _ (by omega)
  go_enter Try.func14, Try.ntmps14
  go_wp2_with (go_at_call 11; refine (hR.out _).mono ?_; rintro e w1 ⟨rfl, hb1⟩; have Hb1 := Lib.hid (below3 hb1); have HF1 := Lib.hid ((Fr.start w _ _ _ _ _ _ _ _).later hb1); obtain ⟨c0, c1, d0, d1, d2, d3, e0, e1, f1, g0, g1, g2, g3, h0, h1, sz⟩ := HF1.out; have hcl := (Hb1.out.cell (p := ⟨b0, off0 + k, none⟩) hb0).trans hcell; clear hb1)
  go_quiet (fail)
  go_wp2
  refine bodyPost_ret (v := .tuple #[.agg #[.string ⟨#[]⟩, .string ⟨#[]⟩, .int .i64 0, .string ⟨#[]⟩], .agg #[.int .i64 0, .int .i64 0], .int .i64 2]) (by simp [results, Try.results14, go_sem, d0, d1, d2, d3, e0, e1]) rfl ⟨fin3_eq Hfin.out, ?_⟩
  exact below_set6 (below_drewN Hb1.out _) _ _ _ _ _ _

set_option maxRecDepth 100000 in
set_option maxHeartbeats 2000000 in
theorem ref_past (spec : ByteArray) (ss : List ByteArray) (A : Option Addr) (n cap : Nat) (w : World) (hA : Strs w w.heap.size A n ss) (hn : n ≤ 100) (hz : ∀ s ∈ ss, s.size ≤ 1000) (hs : spec.size ≤ 100) (ix off : Int)
    (hv : validS spec.data.toList = 0) (hin : inR (bytesOf' ss) ix off = true) (hoff : off = 0) (hix : (n : Int) < ix) (r : OptR × (Int × Int) × Int) (hr : nextS spec.data.toList (bytesOf' ss) ix off = r) :
    Calls Try.prog 14 #[.string spec, .slice A n cap, .agg #[.int .i64 ix, .int .i64 off]] w fun e w' =>
      e = .returned (.tuple #[optV r.1, stV r.2.1, .int .i64 r.2.2]) ∧ Below w.heap.size w w' := by
  have Hfin : Hid (r = (⟨(⟨#[63]⟩ : ByteArray).data.toList, (⟨#[]⟩ : ByteArray).data.toList, 1, (⟨#[]⟩ : ByteArray).data.toList⟩, (ix, 0), 0)) := by
    show _ = _
    have hw : wordOf (bytesOf' ss) ix = [] := by rw [wordOf, if_neg]; rw [bytes_len, ← hA.1]; omega
    rw [← hr, nextS_eq hv hin]
    simp [hw, hoff, endR]
  have hR := Lib.hid (fun W => refValid_any spec W hs)
  rw [hv] at hR
  clear hr hv hin hA hz
  subst hoff
  have p1 : decide (ix < 1) = false := decide_eq_false (by omega)
  go_enter Try.func14, Try.ntmps14
  go_wp2_with (go_at_call 11; refine (hR.out _).mono ?_; rintro e w1 ⟨rfl, hb1⟩; have Hb1 := Lib.hid (below3 hb1); have HF1 := Lib.hid ((Fr.start w _ _ _ _ _ _ _ _).later hb1); obtain ⟨c0, c1, d0, d1, d2, d3, e0, e1, f1, g0, g1, g2, g3, h0, h1, sz⟩ := HF1.out; clear hb1)
  go_quiet (fail)
  have HFq := Lib.hid (HF1.out.later (below_drewN (Below.refl _ _) nq))
  have Hbq := Lib.hid (below_drewN Hb1.out nq)
  clear c0 c1 d0 d1 d2 d3 e0 e1 f1 g0 g1 g2 g3 h0 h1 sz HF1 Hb1
  generalize w1.drewN nq = wq at *
  obtain ⟨c0, c1, d0, d1, d2, d3, e0, e1, f1, g0, g1, g2, g3, h0, h1, sz⟩ := HFq.out
  have l0 : w.heap.size < wq.heap.size := by omega
  have l1 : w.heap.size + 1 < wq.heap.size := by omega
  go_wp2
  go_region
  go_wp2
  refine bodyPost_ret (v := .tuple #[.agg #[.string ⟨#[63]⟩, .string ⟨#[]⟩, .int .i64 1, .string ⟨#[]⟩], .agg #[.int .i64 ix, .int .i64 0], .int .i64 0]) (by simp [results, Try.results14, go_sem, d0, d1, d2, d3, e0, e1, l1, sz]) rfl ⟨fin3_eq Hfin.out, ?_⟩
  exact ((below_set6 Hbq.out _ _ _ _ _ _).alloc (by simp [World.setCell]; omega) _).drew

set_option maxRecDepth 100000 in
set_option maxHeartbeats 2000000 in
theorem ref_empty (spec : ByteArray) (ss : List ByteArray) (A : Option Addr) (n cap : Nat) (w : World) (hA : Strs w w.heap.size A n ss) (hn : n ≤ 100) (hz : ∀ s ∈ ss, s.size ≤ 1000) (hs : spec.size ≤ 100)
    (hv : validS spec.data.toList = 0) (k : Nat) (hkn : k < n) (hword : (bytesOf' ss).getD k [] = []) (r : OptR × (Int × Int) × Int) (hr : nextS spec.data.toList (bytesOf' ss) ((k : Int) + 1) 0 = r) :
    Calls Try.prog 14 #[.string spec, .slice A n cap, .agg #[.int .i64 ((k : Int) + 1), .int .i64 0]] w fun e w' =>
      e = .returned (.tuple #[optV r.1, stV r.2.1, .int .i64 r.2.2]) ∧ Below w.heap.size w w' := by
  have hkl : k < ss.length := by have := hA.1; omega
  obtain ⟨b0, off0, rfl, hb0, hc0⟩ := hA.2 (by omega)
  have hcell := hc0 k hkl
  have hwd : wordOf (bytesOf' ss) ((k : Int) + 1) = ss[k].data.toList := by
    rw [wordOf, if_pos (by rw [bytes_len, ← hA.1]; omega), show ((k : Int) + 1 - 1).toNat = k by omega, bytes_get ss k hkl]
  have hwz := hz _ (List.getElem_mem hkl)
  rw [bytes_get ss k hkl] at hword
  have Hfin : Hid (r = (⟨(⟨#[63]⟩ : ByteArray).data.toList, (⟨#[]⟩ : ByteArray).data.toList, 1, (⟨#[]⟩ : ByteArray).data.toList⟩, (((k : Int) + 1), 0), 0)) := by
    show _ = _
    rw [← hr, nextS_eq hv (inR_iff.2 ⟨by omega, Int.le_refl _, Or.inl rfl⟩), hwd]
    rw [if_neg (fun h => by rw [hword] at h; exact absurd h.2 (by decide)), if_pos ⟨rfl, Or.inl (by rw [hword]; decide)⟩]; rfl
  have hR := Lib.hid (fun W => refValid_any spec W hs)
  rw [hv] at hR
  have hd0 : ss[k].toList.isEmpty = true := by rw [Lib.toList_data, hword]; rfl
  clear hr hv hA hz hc0 hwd hword
  generalize ss[k] = word at *
  clear hkl
  have p1 : (0 : Int) ≤ (k : Int) := by omega
  have p2 : (k : Int) < (n : Int) := by omega
  have p3 : decide ((k : Int) + 1 < 1) = false := decide_eq_false (by omega)
  go_enter Try.func14, Try.ntmps14
  go_wp2_with (go_at_call 11; refine (hR.out _).mono ?_; rintro e w1 ⟨rfl, hb1⟩; have Hb1 := Lib.hid (below3 hb1); have HF1 := Lib.hid ((Fr.start w _ _ _ _ _ _ _ _).later hb1); obtain ⟨c0, c1, d0, d1, d2, d3, e0, e1, f1, g0, g1, g2, g3, h0, h1, sz⟩ := HF1.out; have hcl := (Hb1.out.cell (p := ⟨b0, off0 + k, none⟩) hb0).trans hcell; clear hb1)
  go_quiet (fail)
  have HFq := Lib.hid (HF1.out.later (below_drewN (Below.refl _ _) nq))
  have Hbq := Lib.hid (below_drewN Hb1.out nq)
  clear c0 c1 d0 d1 d2 d3 e0 e1 f1 g0 g1 g2 g3 h0 h1 sz HF1 Hb1 hcl
  generalize w1.drewN nq = wq at *
  obtain ⟨c0, c1, d0, d1, d2, d3, e0, e1, f1, g0, g1, g2, g3, h0, h1, sz⟩ := HFq.out
  have hcl := (Hbq.out.cell (p := ⟨b0, off0 + k, none⟩) hb0).trans hcell; have lb : b0 < wq.heap.size := by omega
  have l0 : w.heap.size < wq.heap.size := by omega
  have l1 : w.heap.size + 1 < wq.heap.size := by omega
  go_wp2
  go_region
  go_wp2
  refine bodyPost_ret (v := .tuple #[.agg #[.string ⟨#[63]⟩, .string ⟨#[]⟩, .int .i64 1, .string ⟨#[]⟩], .agg #[.int .i64 ((k : Int) + 1), .int .i64 0], .int .i64 0]) (by simp [results, Try.results14, go_sem, d0, d1, d2, d3, e0, e1, l0, l1, sz]) rfl ⟨fin3_eq Hfin.out, ?_⟩
  exact (below_two (below_set6 Hbq.out _ _ _ _ _ _) (by simp [World.setCell]; omega) _ _).drew

set_option maxRecDepth 100000 in
set_option maxHeartbeats 2000000 in
theorem ref_dash (spec : ByteArray) (ss : List ByteArray) (A : Option Addr) (n cap : Nat) (w : World) (hA : Strs w w.heap.size A n ss) (hn : n ≤ 100) (hz : ∀ s ∈ ss, s.size ≤ 1000) (hs : spec.size ≤ 100)
    (hv : validS spec.data.toList = 0) (k : Nat) (hkn : k < n) (hword : (bytesOf' ss).getD k [] = [45]) (r : OptR × (Int × Int) × Int) (hr : nextS spec.data.toList (bytesOf' ss) ((k : Int) + 1) 0 = r) :
    Calls Try.prog 14 #[.string spec, .slice A n cap, .agg #[.int .i64 ((k : Int) + 1), .int .i64 0]] w fun e w' =>
      e = .returned (.tuple #[optV r.1, stV r.2.1, .int .i64 r.2.2]) ∧ Below w.heap.size w w' := by
  have hkl : k < ss.length := by have := hA.1; omega
  obtain ⟨b0, off0, rfl, hb0, hc0⟩ := hA.2 (by omega)
  have hcell := hc0 k hkl
  have hwd : wordOf (bytesOf' ss) ((k : Int) + 1) = ss[k].data.toList := by
    rw [wordOf, if_pos (by rw [bytes_len, ← hA.1]; omega), show ((k : Int) + 1 - 1).toNat = k by omega, bytes_get ss k hkl]
  have hwz := hz _ (List.getElem_mem hkl)
  rw [bytes_get ss k hkl] at hword
  have Hfin : Hid (r = (⟨(⟨#[63]⟩ : ByteArray).data.toList, (⟨#[]⟩ : ByteArray).data.toList, 1, (⟨#[]⟩ : ByteArray).data.toList⟩, (((k : Int) + 1), 0), 0)) := by
    show _ = _
    rw [← hr, nextS_eq hv (inR_iff.2 ⟨by omega, Int.le_refl _, Or.inl rfl⟩), hwd]
    rw [if_neg (fun h => by rw [hword] at h; exact absurd h.2 (by decide)), if_pos ⟨rfl, Or.inl (by rw [hword]; decide)⟩]; rfl
  have hR := Lib.hid (fun W => refValid_any spec W hs)
  rw [hv] at hR
  have hd0 : ss[k].toList.isEmpty = false := by rw [Lib.toList_data, hword]; rfl
  have hd1 : (ss[k].toList == [45]) = true := by rw [Lib.toList_data, hword]; rfl
  clear hr hv hA hz hc0 hwd hword
  generalize ss[k] = word at *
  clear hkl
  have p1 : (0 : Int) ≤ (k : Int) := by omega
  have p2 : (k : Int) < (n : Int) := by omega
  have p3 : decide ((k : Int) + 1 < 1) = false := decide_eq_false (by omega)
  go_enter Try.func14, Try.ntmps14
  go_wp2_with (go_at_call 11; refine (hR.out _).mono ?_; rintro e w1 ⟨rfl, hb1⟩; have Hb1 := Lib.hid (below3 hb1); have HF1 := Lib.hid ((Fr.start w _ _ _ _ _ _ _ _).later hb1); obtain ⟨c0, c1, d0, d1, d2, d3, e0, e1, f1, g0, g1, g2, g3, h0, h1, sz⟩ := HF1.out; have hcl := (Hb1.out.cell (p := ⟨b0, off0 + k, none⟩) hb0).trans hcell; clear hb1)
  go_quiet (fail)
  have HFq := Lib.hid (HF1.out.later (below_drewN (Below.refl _ _) nq))
  have Hbq := Lib.hid (below_drewN Hb1.out nq)
  clear c0 c1 d0 d1 d2 d3 e0 e1 f1 g0 g1 g2 g3 h0 h1 sz HF1 Hb1 hcl
  generalize w1.drewN nq = wq at *
  obtain ⟨c0, c1, d0, d1, d2, d3, e0, e1, f1, g0, g1, g2, g3, h0, h1, sz⟩ := HFq.out
  have hcl := (Hbq.out.cell (p := ⟨b0, off0 + k, none⟩) hb0).trans hcell; have lb : b0 < wq.heap.size := by omega
  have l0 : w.heap.size < wq.heap.size := by omega
  have l1 : w.heap.size + 1 < wq.heap.size := by omega
  go_wp2
  go_region
  go_wp2
  refine bodyPost_ret (v := .tuple #[.agg #[.string ⟨#[63]⟩, .string ⟨#[]⟩, .int .i64 1, .string ⟨#[]⟩], .agg #[.int .i64 ((k : Int) + 1), .int .i64 0], .int .i64 0]) (by simp [results, Try.results14, go_sem, d0, d1, d2, d3, e0, e1, l0, l1, sz]) rfl ⟨fin3_eq Hfin.out, ?_⟩
  exact (below_two (below_set6 Hbq.out _ _ _ _ _ _) (by simp [World.setCell]; omega) _ _).drew

set_option maxRecDepth 100000 in
set_option maxHeartbeats 2000000 in
theorem ref_operand (spec : ByteArray) (ss : List ByteArray) (A : Option Addr) (n cap : Nat) (w : World) (hA : Strs w w.heap.size A n ss) (hn : n ≤ 100) (hz : ∀ s ∈ ss, s.size ≤ 1000) (hs : spec.size ≤ 100)
    (hv : validS spec.data.toList = 0) (k : Nat) (hkn : k < n) (hne : (bytesOf' ss).getD k [] ≠ []) (hword : ((bytesOf' ss).getD k []).getD 0 0 ≠ 45) (r : OptR × (Int × Int) × Int) (hr : nextS spec.data.toList (bytesOf' ss) ((k : Int) + 1) 0 = r) :
    Calls Try.prog 14 #[.string spec, .slice A n cap, .agg #[.int .i64 ((k : Int) + 1), .int .i64 0]] w fun e w' =>
      e = .returned (.tuple #[optV r.1, stV r.2.1, .int .i64 r.2.2]) ∧ Below w.heap.size w w' := by
  have hkl : k < ss.length := by have := hA.1; omega
  obtain ⟨b0, off0, rfl, hb0, hc0⟩ := hA.2 (by omega)
  have hcell := hc0 k hkl
  have hwd : wordOf (bytesOf' ss) ((k : Int) + 1) = ss[k].data.toList := by
    rw [wordOf, if_pos (by rw [bytes_len, ← hA.1]; omega), show ((k : Int) + 1 - 1).toNat = k by omega, bytes_get ss k hkl]
  have hwz := hz _ (List.getElem_mem hkl)
  rw [bytes_get ss k hkl] at hword
  have Hfin : Hid (r = (⟨(⟨#[63]⟩ : ByteArray).data.toList, (⟨#[]⟩ : ByteArray).data.toList, 1, (⟨#[]⟩ : ByteArray).data.toList⟩, (((k : Int) + 1), 0), 0)) := by
    show _ = _
    rw [← hr, nextS_eq hv (inR_iff.2 ⟨by omega, Int.le_refl _, Or.inl rfl⟩), hwd]
    rw [if_neg (fun h => hword (by rw [h.2]; rfl)), if_pos ⟨rfl, Or.inr hword⟩]; rfl
  have hR := Lib.hid (fun W => refValid_any spec W hs)
  rw [hv] at hR
  rw [bytes_get ss k hkl] at hne
  have hd0 : ss[k].toList.isEmpty = false := by
    rw [Lib.toList_data]
    cases h : ss[k].data.toList with
    | nil => exact absurd h hne
    | cons _ _ => rfl
  have hd1 : (ss[k].toList == [45]) = false := by
    rw [beq_eq_false_iff_ne, Lib.toList_data]; intro h; rw [h] at hword; exact hword rfl
  have h0sz : 0 < ss[k].size := by
    rw [Lib.size_eq]
    cases h : ss[k].data.toList with
    | nil => exact absurd h hne
    | cons _ _ => simp
  have hf45 : ((ss[k][0].toNat : Int) != 45) = true := by
    rw [bne_iff_ne]; intro e
    apply hword
    rw [List.getD_eq_getElem?_getD, List.getElem?_eq_getElem (by rw [← Lib.size_eq]; exact h0sz)]
    have : ss[k][0] = 45 := UInt8.toNat_inj.1 (by simp; omega)
    exact this
  clear hne
  clear hr hv hA hz hc0 hwd hword
  generalize ss[k] = word at *
  clear hkl
  have p1 : (0 : Int) ≤ (k : Int) := by omega
  have p2 : (k : Int) < (n : Int) := by omega
  have p3 : decide ((k : Int) + 1 < 1) = false := decide_eq_false (by omega)
  go_enter Try.func14, Try.ntmps14
  go_wp2_with (go_at_call 11; refine (hR.out _).mono ?_; rintro e w1 ⟨rfl, hb1⟩; have Hb1 := Lib.hid (below3 hb1); have HF1 := Lib.hid ((Fr.start w _ _ _ _ _ _ _ _).later hb1); obtain ⟨c0, c1, d0, d1, d2, d3, e0, e1, f1, g0, g1, g2, g3, h0, h1, sz⟩ := HF1.out; have hcl := (Hb1.out.cell (p := ⟨b0, off0 + k, none⟩) hb0).trans hcell; clear hb1)
  go_quiet (fail)
  have HFq := Lib.hid (HF1.out.later (below_drewN (Below.refl _ _) nq))
  have Hbq := Lib.hid (below_drewN Hb1.out nq)
  clear c0 c1 d0 d1 d2 d3 e0 e1 f1 g0 g1 g2 g3 h0 h1 sz HF1 Hb1 hcl
  generalize w1.drewN nq = wq at *
  obtain ⟨c0, c1, d0, d1, d2, d3, e0, e1, f1, g0, g1, g2, g3, h0, h1, sz⟩ := HFq.out
  have hcl := (Hbq.out.cell (p := ⟨b0, off0 + k, none⟩) hb0).trans hcell; have lb : b0 < wq.heap.size := by omega
  have l0 : w.heap.size < wq.heap.size := by omega
  have l1 : w.heap.size + 1 < wq.heap.size := by omega
  go_wp2
  go_region
  go_wp2
  refine bodyPost_ret (v := .tuple #[.agg #[.string ⟨#[63]⟩, .string ⟨#[]⟩, .int .i64 1, .string ⟨#[]⟩], .agg #[.int .i64 ((k : Int) + 1), .int .i64 0], .int .i64 0]) (by simp [results, Try.results14, go_sem, d0, d1, d2, d3, e0, e1, l0, l1, sz]) rfl ⟨fin3_eq Hfin.out, ?_⟩
  exact (below_two (below_set6 Hbq.out _ _ _ _ _ _) (by simp [World.setCell]; omega) _ _).drew

set_option maxRecDepth 100000 in
set_option maxHeartbeats 2000000 in
theorem ref_dashes (spec : ByteArray) (ss : List ByteArray) (A : Option Addr) (n cap : Nat) (w : World) (hA : Strs w w.heap.size A n ss) (hn : n ≤ 100) (hz : ∀ s ∈ ss, s.size ≤ 1000) (hs : spec.size ≤ 100)
    (hv : validS spec.data.toList = 0) (k : Nat) (hkn : k < n) (hword : (bytesOf' ss).getD k [] = [45, 45]) (r : OptR × (Int × Int) × Int) (hr : nextS spec.data.toList (bytesOf' ss) ((k : Int) + 1) 0 = r) :
    Calls Try.prog 14 #[.string spec, .slice A n cap, .agg #[.int .i64 ((k : Int) + 1), .int .i64 0]] w fun e w' =>
      e = .returned (.tuple #[optV r.1, stV r.2.1, .int .i64 r.2.2]) ∧ Below w.heap.size w w' := by
  have hkl : k < ss.length := by have := hA.1; omega
  obtain ⟨b0, off0, rfl, hb0, hc0⟩ := hA.2 (by omega)
  have hcell := hc0 k hkl
  have hwd : wordOf (bytesOf' ss) ((k : Int) + 1) = ss[k].data.toList := by
    rw [wordOf, if_pos (by rw [bytes_len, ← hA.1]; omega), show ((k : Int) + 1 - 1).toNat = k by omega, bytes_get ss k hkl]
  have hwz := hz _ (List.getElem_mem hkl)
  rw [bytes_get ss k hkl] at hword
  have Hfin : Hid (r = (⟨(⟨#[63]⟩ : ByteArray).data.toList, (⟨#[]⟩ : ByteArray).data.toList, 1, (⟨#[]⟩ : ByteArray).data.toList⟩, (((k : Int) + 1 + 1), 0), 0)) := by
    show _ = _
    rw [← hr, nextS_eq hv (inR_iff.2 ⟨by omega, Int.le_refl _, Or.inl rfl⟩), hwd]
    rw [if_pos ⟨rfl, hword⟩]; rfl
  have hR := Lib.hid (fun W => refValid_any spec W hs)
  rw [hv] at hR
  have hd0 : ss[k].toList.isEmpty = false := by rw [Lib.toList_data, hword]; rfl
  have hd1 : (ss[k].toList == [45]) = false := by rw [Lib.toList_data, hword]; rfl
  have hd2 : (ss[k].toList == [45, 45]) = true := by rw [Lib.toList_data, hword]; rfl
  have h0sz : 0 < ss[k].size := by rw [Lib.size_eq, hword]; decide
  have hf45 : ((ss[k][0].toNat : Int) != 45) = false := by
    have h' : 0 < ss[k].data.toList.length := by rw [← Lib.size_eq]; exact h0sz
    have : ss[k].data.toList[0]? = some 45 := by rw [hword]; rfl
    rw [List.getElem?_eq_getElem h'] at this
    injection this with this
    have e : ss[k][0] = 45 := this
    rw [e]; rfl
  clear hr hv hA hz hc0 hwd hword
  generalize ss[k] = word at *
  clear hkl
  have p1 : (0 : Int) ≤ (k : Int) := by omega
  have p2 : (k : Int) < (n : Int) := by omega
  have p3 : decide ((k : Int) + 1 < 1) = false := decide_eq_false (by omega)
  go_enter Try.func14, Try.ntmps14
  go_wp2_with (go_at_call 11; refine (hR.out _).mono ?_; rintro e w1 ⟨rfl, hb1⟩; have Hb1 := Lib.hid (below3 hb1); have HF1 := Lib.hid ((Fr.start w _ _ _ _ _ _ _ _).later hb1); obtain ⟨c0, c1, d0, d1, d2, d3, e0, e1, f1, g0, g1, g2, g3, h0, h1, sz⟩ := HF1.out; have hcl := (Hb1.out.cell (p := ⟨b0, off0 + k, none⟩) hb0).trans hcell; clear hb1)
  go_quiet (fail)
  have HFq := Lib.hid (HF1.out.later (below_drewN (Below.refl _ _) nq))
  have Hbq := Lib.hid (below_drewN Hb1.out nq)
  clear c0 c1 d0 d1 d2 d3 e0 e1 f1 g0 g1 g2 g3 h0 h1 sz HF1 Hb1 hcl
  generalize w1.drewN nq = wq at *
  obtain ⟨c0, c1, d0, d1, d2, d3, e0, e1, f1, g0, g1, g2, g3, h0, h1, sz⟩ := HFq.out
  have hcl := (Hbq.out.cell (p := ⟨b0, off0 + k, none⟩) hb0).trans hcell; have lb : b0 < wq.heap.size := by omega
  have l0 : w.heap.size < wq.heap.size := by omega
  have l1 : w.heap.size + 1 < wq.heap.size := by omega
  go_wp2
  go_region
  go_wp2
  refine bodyPost_ret (v := .tuple #[.agg #[.string ⟨#[63]⟩, .string ⟨#[]⟩, .int .i64 1, .string ⟨#[]⟩], .agg #[.int .i64 ((k : Int) + 1 + 1), .int .i64 0], .int .i64 0]) (by simp [results, Try.results14, go_sem, d0, d1, d2, d3, e0, e1, l0, l1, sz]) rfl ⟨fin3_eq Hfin.out, ?_⟩
  exact (below_two (below_set6 Hbq.out _ _ _ _ _ _) (by simp [World.setCell]; omega) _ _).drew

end Go.Proofs.Ytkenicdcelhdcaa
