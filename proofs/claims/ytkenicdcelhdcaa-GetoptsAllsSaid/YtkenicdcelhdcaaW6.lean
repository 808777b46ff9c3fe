/- getopts.step: what the call returns. -/
import Derived.Test.YtkenicdcelhdcaaW5
import Derived.RegionTactic
import Derived.ChangeAlike
import Derived.WideShapes
import Derived.Lib.IndexBytes
namespace Go.Proofs.Ytkenicdcelhdcaa
open Go.RowKit

def strV (l : Bs) : Value := .string ⟨l.toArray⟩
def optV (x : OptR) : Value := .agg #[strV x.letter, strV x.arg, .int .i64 x.status, strV x.msg]
def stV (p : Int × Int) : Value := .agg #[.int .i64 p.1, .int .i64 p.2]

theorem quiet_add_left {P : Program} {f : FuncId} {args : Array Value} {w : World} {a n : Nat} {v : Value}
    (h : Calls P f args (w.drewN (a + n)) fun e w' => e = .returned v ∧ w.drewN (a + n) = w') :
    Calls P f args (w.drewN (a + n)) fun e w'' => e = .returned v ∧ ∃ m, w'' = w.drewN (a + m) :=
  h.mono fun _ _ ⟨he, hm⟩ => ⟨he, n, hm.symm⟩
theorem quiet_left {P : Program} {f : FuncId} {args : Array Value} {w : World} {n : Nat} {v : Value}
    (h : Calls P f args (w.drewN n) fun e w' => e = .returned v ∧ w.drewN n = w') : Calls P f args (w.drewN n) fun e w'' => e = .returned v ∧ ∃ m, w'' = w.drewN m :=
  h.mono fun _ _ ⟨he, hm⟩ => ⟨he, n, hm.symm⟩

theorem letter_facts (word : ByteArray) (at_ : Nat) (h : at_ < word.size) : ∃ c, (word.extract at_ (at_ + 1)).size = 1 ∧ word.data.toList.getD at_ 0 = c ∧ (word.extract at_ (at_ + 1)).data.toList = [c] := by
  have h0 : at_ < word.data.toList.length := by rw [← Lib.size_eq]; exact h
  have h1 : (word.extract at_ (at_ + 1)).data.toList = [word.data.toList[at_]] := by
    rw [Lib.extract_data, List.drop_eq_getElem_cons h0]; simp
  refine ⟨word.data.toList[at_], ?_, ?_, h1⟩
  · rw [Lib.size_eq, h1]; rfl
  · rw [List.getD_eq_getElem?_getD, List.getElem?_eq_getElem h0]; rfl

theorem fin_eq {a b m : ByteArray} {s x y : Int} {r : OptR × (Int × Int)} (h : r = (⟨a.data.toList, b.data.toList, s, m.data.toList⟩, (x, y))) :
    Ending.returned (.tuple #[.agg #[.string a, .string b, .int .i64 s, .string m], .agg #[.int .i64 x, .int .i64 y]]) = .returned (.tuple #[optV r.1, stV r.2]) := by
  subst h; rfl

theorem fin_below (w : World) (o1 o2 o3 o4 : Obj) (a b : Nat) (v1 v2 v3 v4 v5 v6 : Value) :
    Below w.heap.size w ((((((((((((w.alloc o1).alloc o2).alloc o3).drewN a).alloc o4).drewN b).setCell ⟨w.heap.size + 1, 0, none⟩ v1).setCell ⟨w.heap.size + 1, 1, none⟩ v2).setCell ⟨w.heap.size + 1, 2, none⟩ v3).setCell ⟨w.heap.size + 1, 3, none⟩ v4).setCell ⟨w.heap.size + 1 + 1, 0, none⟩ v5).setCell ⟨w.heap.size + 1 + 1, 1, none⟩ v6) := by
  have h1 : Below w.heap.size w (w.alloc o1) := (Below.refl _ _).alloc (Nat.le_refl _) _
  have h2 := h1.alloc h1.size o2
  have h3 := below_drewN (h2.alloc h2.size o3) a
  have h4 := below_drewN (h3.alloc h3.size o4) b
  have g1 : w.heap.size ≤ w.heap.size + 1 := by omega
  have g2 : w.heap.size ≤ w.heap.size + 1 + 1 := by omega
  exact (((((h4.setCell (p := ⟨w.heap.size + 1, 0, none⟩) g1 v1).setCell (p := ⟨w.heap.size + 1, 1, none⟩) g1 v2).setCell (p := ⟨w.heap.size + 1, 2, none⟩) g1 v3).setCell (p := ⟨w.heap.size + 1, 3, none⟩) g1 v4).setCell (p := ⟨w.heap.size + 1 + 1, 0, none⟩) g2 v5).setCell (p := ⟨w.heap.size + 1 + 1, 1, none⟩) g2 v6

theorem step_out (spec word : ByteArray) (n ix at_ : Nat) (c : UInt8) (o : Int) (hs : spec.size ≤ 100) (hat : at_ < word.size)
    (hc : word.data.toList.getD at_ 0 = c) (ho : outS spec.data.toList c (word.data.toList.drop (at_ + 1)) (decide ((ix : Int) < (n : Int))) = o) :
    ∀ (h : 0 < (word.extract at_ (at_ + 1)).size) (W : World), Calls Try.prog 27 #[.string spec, .int .u8 ((word.extract at_ (at_ + 1))[0].toNat), .string (word.extract (at_ + 1) word.size), .bool (decide (ix < n))] W fun e w' => e = .returned (.int .i64 o) ∧ W = w' := by
  intro h W
  obtain ⟨c', _, hc', hlc⟩ := letter_facts word at_ hat
  rw [hc] at hc'
  subst hc'
  have hrest : (word.extract (at_ + 1) word.size).data.toList = word.data.toList.drop (at_ + 1) := Lib.extract_to_end _ _
  have e1 : (word.extract at_ (at_ + 1))[0] = c := by
    have : (word.extract at_ (at_ + 1)).data.toList[0]? = some c := by rw [hlc]; rfl
    have h' : 0 < (word.extract at_ (at_ + 1)).data.toList.length := by rw [← Lib.size_eq]; exact h
    rw [List.getElem?_eq_getElem h'] at this
    injection this
  rw [e1]
  have := outcome_any spec c (word.extract (at_ + 1) word.size) (decide (ix < n)) W (by unfold maxLen; omega)
  rw [hrest, show decide (ix < n) = decide ((ix : Int) < (n : Int)) by simp, ho] at this
  rw [show decide (ix < n) = decide ((ix : Int) < (n : Int)) by simp]
  exact this

set_option maxRecDepth 100000 in
set_option maxHeartbeats 1000000 in
theorem step_alone_end (spec word : ByteArray) (ss : List ByteArray) (A : Option Addr) (n cap ix at_ : Nat) (w : World) (hA : Strs w w.heap.size A n ss) (_hn : n ≤ 100)
    (hs : spec.size ≤ 100) (hw : word.size ≤ 1000) (hat : at_ < word.size) (_hix : 1 ≤ ix) (_hix2 : ix ≤ n) (c : UInt8)
    (hc : word.data.toList.getD at_ 0 = c) (ho : outS spec.data.toList c (word.data.toList.drop (at_ + 1)) (decide ((ix : Int) < (n : Int))) = 1)
    (hre : (word.extract (at_ + 1) word.size).toList.isEmpty = true)
    (r : OptR × (Int × Int)) (hr : stepS spec.data.toList (bytesOf' ss) word.data.toList ix at_ = r) :
    Calls Try.prog 23 #[.string spec, .slice A n cap, .string word, .agg #[.int .i64 ix, .int .i64 at_]] w fun e w' =>
      e = .returned (.tuple #[optV r.1, stV r.2]) ∧ Below w.heap.size w w' := by
  have q1 : (0 : Int) ≤ (at_ : Int) := by omega
  have q2 : (at_ : Int) < (word.size : Int) := by omega
  have q4 : (0 : Int) ≤ (at_ : Int) + 1 := by omega
  have q5 : (at_ : Int) + 1 ≤ (word.size : Int) := by omega
  have q6 : (at_ : Int) ≤ (at_ : Int) + 1 := by omega
  have q8 : at_ + 1 ≤ word.size := by omega
  obtain ⟨c', hl1, hc', hlc⟩ := letter_facts word at_ hat
  rw [hc] at hc'
  subst hc'
  have hrest : (word.extract (at_ + 1) word.size).data.toList = word.data.toList.drop (at_ + 1) := Lib.extract_to_end _ _
  have hO := Lib.hid (step_out spec word n ix at_ c 1 hs hat hc ho)
  have hre2 : word.data.toList.drop (at_ + 1) = [] := by
    rw [← hrest, ← Lib.toList_data, ← List.isEmpty_iff]
    exact hre
  have Hfin : Hid (r = (⟨(word.extract at_ (at_ + 1)).data.toList, (⟨#[]⟩ : ByteArray).data.toList, 0, (⟨#[]⟩ : ByteArray).data.toList⟩, (((ix : Int) + 1), 0))) := by
    show _ = _
    rw [← hr, stepS]
    simp only [hc, bytes_len, ← hA.1, ho]
    rw [hlc]
    simp [hre2]
  clear hr hlc hrest ho hc hA hre2
  have Hl1 := Lib.hid hl1
  clear hl1
  have q7 : ((at_ : Int) + 1).toNat = at_ + 1 := by omega
  have q3 : IntKind.i64.wrap ((at_ : Int) + 1) = (at_ : Int) + 1 := IntWalk.i64_in _ (by omega)
  go_enter Try.func23, Try.ntmps23
  go_wp2
  go_quiet (fail)
  clear q7 q3
  generalize (word.extract at_ (at_ + 1)) = letter at *
  generalize (word.extract (at_ + 1) word.size) = rest at *
  have hl1 : 0 < letter.size := by have := Hl1.out; omega
  have hl3 : letter.size ≤ 1 := by have := Hl1.out; omega
  have hl2 : (0 : Int) < (letter.size : Int) := by omega
  go_wp2
  go_quiet ((go_at_call 27; exact quiet_left (hO.out _ _)))
  go_wp2_with (fail)
  go_region
  go_wp2
  refine bodyPost_ret (v := .tuple #[.agg #[.string letter, .string (⟨#[]⟩ : ByteArray), .int .i64 0, .string (⟨#[]⟩ : ByteArray)], .agg #[.int .i64 ((ix : Int) + 1), .int .i64 0]]) (by simp [results, Try.results23, go_sem]) rfl ⟨fin_eq Hfin.out, ?_⟩
  exact fin_below w _ _ _ _ _ _ _ _ _ _ _ _

set_option maxRecDepth 100000 in
set_option maxHeartbeats 1000000 in
theorem step_alone_mid (spec word : ByteArray) (ss : List ByteArray) (A : Option Addr) (n cap ix at_ : Nat) (w : World) (hA : Strs w w.heap.size A n ss) (_hn : n ≤ 100)
    (hs : spec.size ≤ 100) (hw : word.size ≤ 1000) (hat : at_ < word.size) (_hix : 1 ≤ ix) (_hix2 : ix ≤ n) (c : UInt8)
    (hc : word.data.toList.getD at_ 0 = c) (ho : outS spec.data.toList c (word.data.toList.drop (at_ + 1)) (decide ((ix : Int) < (n : Int))) = 1)
    (hre : (word.extract (at_ + 1) word.size).toList.isEmpty = false)
    (r : OptR × (Int × Int)) (hr : stepS spec.data.toList (bytesOf' ss) word.data.toList ix at_ = r) :
    Calls Try.prog 23 #[.string spec, .slice A n cap, .string word, .agg #[.int .i64 ix, .int .i64 at_]] w fun e w' =>
      e = .returned (.tuple #[optV r.1, stV r.2]) ∧ Below w.heap.size w w' := by
  have q1 : (0 : Int) ≤ (at_ : Int) := by omega
  have q2 : (at_ : Int) < (word.size : Int) := by omega
  have q4 : (0 : Int) ≤ (at_ : Int) + 1 := by omega
  have q5 : (at_ : Int) + 1 ≤ (word.size : Int) := by omega
  have q6 : (at_ : Int) ≤ (at_ : Int) + 1 := by omega
  have q8 : at_ + 1 ≤ word.size := by omega
  obtain ⟨c', hl1, hc', hlc⟩ := letter_facts word at_ hat
  rw [hc] at hc'
  subst hc'
  have hrest : (word.extract (at_ + 1) word.size).data.toList = word.data.toList.drop (at_ + 1) := Lib.extract_to_end _ _
  have hO := Lib.hid (step_out spec word n ix at_ c 1 hs hat hc ho)
  have hre2 : word.data.toList.drop (at_ + 1) ≠ [] := by
    rw [← hrest, ← Lib.toList_data]
    intro h; rw [h] at hre; simp at hre
  have Hfin : Hid (r = (⟨(word.extract at_ (at_ + 1)).data.toList, (⟨#[]⟩ : ByteArray).data.toList, 0, (⟨#[]⟩ : ByteArray).data.toList⟩, ((ix : Int), ((at_ : Int) + 1)))) := by
    show _ = _
    rw [← hr, stepS]
    simp only [hc, bytes_len, ← hA.1, ho]
    rw [hlc]
    simp [hre2]
  clear hr hlc hrest ho hc hA hre2
  have Hl1 := Lib.hid hl1
  clear hl1
  have q7 : ((at_ : Int) + 1).toNat = at_ + 1 := by omega
  have q3 : IntKind.i64.wrap ((at_ : Int) + 1) = (at_ : Int) + 1 := IntWalk.i64_in _ (by omega)
  go_enter Try.func23, Try.ntmps23
  go_wp2
  go_quiet (fail)
  clear q7 q3
  generalize (word.extract at_ (at_ + 1)) = letter at *
  generalize (word.extract (at_ + 1) word.size) = rest at *
  have hl1 : 0 < letter.size := by have := Hl1.out; omega
  have hl3 : letter.size ≤ 1 := by have := Hl1.out; omega
  have hl2 : (0 : Int) < (letter.size : Int) := by omega
  go_wp2
  go_quiet ((go_at_call 27; exact quiet_left (hO.out _ _)))
  go_wp2_with (fail)
  go_region
  go_wp2
  refine bodyPost_ret (v := .tuple #[.agg #[.string letter, .string (⟨#[]⟩ : ByteArray), .int .i64 0, .string (⟨#[]⟩ : ByteArray)], .agg #[.int .i64 (ix : Int), .int .i64 ((at_ : Int) + 1)]]) (by simp [results, Try.results23, go_sem]) rfl ⟨fin_eq Hfin.out, ?_⟩
  exact fin_below w _ _ _ _ _ _ _ _ _ _ _ _

set_option maxRecDepth 100000 in
set_option maxHeartbeats 1000000 in
theorem step_attached (spec word : ByteArray) (ss : List ByteArray) (A : Option Addr) (n cap ix at_ : Nat) (w : World) (hA : Strs w w.heap.size A n ss) (_hn : n ≤ 100)
    (hs : spec.size ≤ 100) (hw : word.size ≤ 1000) (hat : at_ < word.size) (_hix : 1 ≤ ix) (_hix2 : ix ≤ n) (c : UInt8)
    (hc : word.data.toList.getD at_ 0 = c) (ho : outS spec.data.toList c (word.data.toList.drop (at_ + 1)) (decide ((ix : Int) < (n : Int))) = 2)
    (hre : (word.extract (at_ + 1) word.size).toList.isEmpty = false)
    (r : OptR × (Int × Int)) (hr : stepS spec.data.toList (bytesOf' ss) word.data.toList ix at_ = r) :
    Calls Try.prog 23 #[.string spec, .slice A n cap, .string word, .agg #[.int .i64 ix, .int .i64 at_]] w fun e w' =>
      e = .returned (.tuple #[optV r.1, stV r.2]) ∧ Below w.heap.size w w' := by
  have q1 : (0 : Int) ≤ (at_ : Int) := by omega
  have q2 : (at_ : Int) < (word.size : Int) := by omega
  have q4 : (0 : Int) ≤ (at_ : Int) + 1 := by omega
  have q5 : (at_ : Int) + 1 ≤ (word.size : Int) := by omega
  have q6 : (at_ : Int) ≤ (at_ : Int) + 1 := by omega
  have q8 : at_ + 1 ≤ word.size := by omega
  obtain ⟨c', hl1, hc', hlc⟩ := letter_facts word at_ hat
  rw [hc] at hc'
  subst hc'
  have hrest : (word.extract (at_ + 1) word.size).data.toList = word.data.toList.drop (at_ + 1) := Lib.extract_to_end _ _
  have hO := Lib.hid (step_out spec word n ix at_ c 2 hs hat hc ho)
  have hre2 : word.data.toList.drop (at_ + 1) ≠ [] := by
    rw [← hrest, ← Lib.toList_data]
    intro h; rw [h] at hre; simp at hre
  have Hfin : Hid (r = (⟨(word.extract at_ (at_ + 1)).data.toList, (word.extract (at_ + 1) word.size).data.toList, 0, (⟨#[]⟩ : ByteArray).data.toList⟩, (((ix : Int) + 1), 0))) := by
    show _ = _
    rw [← hr, stepS]
    simp only [hc, bytes_len, ← hA.1, ho]
    rw [hlc, hrest]
    simp
  clear hr hlc hrest ho hc hA hre2
  have Hl1 := Lib.hid hl1
  clear hl1
  have q7 : ((at_ : Int) + 1).toNat = at_ + 1 := by omega
  have q3 : IntKind.i64.wrap ((at_ : Int) + 1) = (at_ : Int) + 1 := IntWalk.i64_in _ (by omega)
  go_enter Try.func23, Try.ntmps23
  go_wp2
  go_quiet (fail)
  clear q7 q3
  generalize (word.extract at_ (at_ + 1)) = letter at *
  generalize (word.extract (at_ + 1) word.size) = rest at *
  have hl1 : 0 < letter.size := by have := Hl1.out; omega
  have hl3 : letter.size ≤ 1 := by have := Hl1.out; omega
  have hl2 : (0 : Int) < (letter.size : Int) := by omega
  go_wp2
  go_quiet ((go_at_call 27; exact quiet_left (hO.out _ _)))
  go_wp2_with (fail)
  have q9 : IntKind.i64.wrap ((ix : Int) + 1) = (ix : Int) + 1 := IntWalk.i64_in _ (by omega)
  go_region
  go_wp2
  refine bodyPost_ret (v := .tuple #[.agg #[.string letter, .string rest, .int .i64 0, .string (⟨#[]⟩ : ByteArray)], .agg #[.int .i64 ((ix : Int) + 1), .int .i64 0]]) (by simp [results, Try.results23, go_sem]) rfl ⟨fin_eq Hfin.out, ?_⟩
  exact fin_below w _ _ _ _ _ _ _ _ _ _ _ _

set_option maxRecDepth 100000 in
set_option maxHeartbeats 1000000 in
theorem step_separate (spec word : ByteArray) (ss : List ByteArray) (A : Option Addr) (n cap ix at_ : Nat) (w : World) (hA : Strs w w.heap.size A n ss) (_hn : n ≤ 100)
    (hs : spec.size ≤ 100) (hw : word.size ≤ 1000) (hat : at_ < word.size) (_hix : 1 ≤ ix) (_hix2 : ix ≤ n) (c : UInt8)
    (hc : word.data.toList.getD at_ 0 = c) (ho : outS spec.data.toList c (word.data.toList.drop (at_ + 1)) (decide ((ix : Int) < (n : Int))) = 3)
    (hre : (word.extract (at_ + 1) word.size).toList.isEmpty = true) (hixn : ix < n)
    (r : OptR × (Int × Int)) (hr : stepS spec.data.toList (bytesOf' ss) word.data.toList ix at_ = r) :
    Calls Try.prog 23 #[.string spec, .slice A n cap, .string word, .agg #[.int .i64 ix, .int .i64 at_]] w fun e w' =>
      e = .returned (.tuple #[optV r.1, stV r.2]) ∧ Below w.heap.size w w' := by
  have q1 : (0 : Int) ≤ (at_ : Int) := by omega
  have q2 : (at_ : Int) < (word.size : Int) := by omega
  have q4 : (0 : Int) ≤ (at_ : Int) + 1 := by omega
  have q5 : (at_ : Int) + 1 ≤ (word.size : Int) := by omega
  have q6 : (at_ : Int) ≤ (at_ : Int) + 1 := by omega
  have q8 : at_ + 1 ≤ word.size := by omega
  obtain ⟨c', hl1, hc', hlc⟩ := letter_facts word at_ hat
  rw [hc] at hc'
  subst hc'
  have hrest : (word.extract (at_ + 1) word.size).data.toList = word.data.toList.drop (at_ + 1) := Lib.extract_to_end _ _
  have hO := Lib.hid (step_out spec word n ix at_ c 3 hs hat hc ho)
  have hre2 : word.data.toList.drop (at_ + 1) = [] := by
    rw [← hrest, ← Lib.toList_data, ← List.isEmpty_iff]
    exact hre
  have hixl : ix < ss.length := by have := hA.1; omega
  obtain ⟨b0, off0, rfl, hb0, hc0⟩ := hA.2 (by omega)
  have hcell := hc0 ix hixl
  clear hc0
  have hget := bytes_get ss ix hixl
  rw [show decide (ix < n) = true by simpa using hixn] at hO
  have Hfin : Hid (r = (⟨(word.extract at_ (at_ + 1)).data.toList, ss[ix].data.toList, 0, (⟨#[]⟩ : ByteArray).data.toList⟩, ((ix : Int) + 2, 0))) := by
    show _ = _
    rw [← hr, stepS]
    simp only [hc, bytes_len, ← hA.1, ho]
    rw [hlc]
    simp [bytesOf', hixl]
  clear hr hlc hrest ho hc hA hre2 hget
  have Hl1 := Lib.hid hl1
  clear hl1
  generalize ss[ix] = s at *
  clear hixl
  have hcw : ∀ o1 o2 o3 o4 a, (((((w.alloc o1).alloc o2).alloc o3).drewN a).alloc o4).cell? ⟨b0, off0 + ix, none⟩ = some (.string s) := fun o1 o2 o3 o4 a => by
    have h1 : Below w.heap.size w (w.alloc o1) := (Below.refl _ _).alloc (Nat.le_refl _) _
    have h2 := h1.alloc h1.size o2
    have h3 := below_drewN (h2.alloc h2.size o3) a
    have h4 := h3.alloc h3.size o4
    exact (h4.cell (p := ⟨b0, off0 + ix, none⟩) hb0).trans hcell
  have p1 : (0 : Int) ≤ (ix : Int) := by omega
  have p2 : (ix : Int) < (n : Int) := by omega
  have q7 : ((at_ : Int) + 1).toNat = at_ + 1 := by omega
  have q3 : IntKind.i64.wrap ((at_ : Int) + 1) = (at_ : Int) + 1 := IntWalk.i64_in _ (by omega)
  go_enter Try.func23, Try.ntmps23
  go_wp2
  go_quiet (fail)
  clear q7 q3
  generalize (word.extract at_ (at_ + 1)) = letter at *
  generalize (word.extract (at_ + 1) word.size) = rest at *
  have hl1 : 0 < letter.size := by have := Hl1.out; omega
  have hl3 : letter.size ≤ 1 := by have := Hl1.out; omega
  have hl2 : (0 : Int) < (letter.size : Int) := by omega
  go_wp2
  go_quiet ((go_at_call 27; exact quiet_left (hO.out _ _)))
  go_wp2_with (fail)
  have q9 : IntKind.i64.wrap ((ix : Int) + 2) = (ix : Int) + 2 := IntWalk.i64_in _ (by omega)
  go_region
  go_wp2
  refine bodyPost_ret (v := .tuple #[.agg #[.string letter, .string s, .int .i64 0, .string (⟨#[]⟩ : ByteArray)], .agg #[.int .i64 ((ix : Int) + 2), .int .i64 0]]) (by simp [results, Try.results23, go_sem]) rfl ⟨fin_eq Hfin.out, ?_⟩
  exact fin_below w _ _ _ _ _ _ _ _ _ _ _ _

set_option maxRecDepth 100000 in
set_option maxHeartbeats 1000000 in
theorem step_missing_silent (spec word : ByteArray) (ss : List ByteArray) (A : Option Addr) (n cap ix at_ : Nat) (w : World) (hA : Strs w w.heap.size A n ss) (_hn : n ≤ 100)
    (hs : spec.size ≤ 100) (hw : word.size ≤ 1000) (hat : at_ < word.size) (_hix : 1 ≤ ix) (_hix2 : ix ≤ n) (c : UInt8)
    (hc : word.data.toList.getD at_ 0 = c) (ho : outS spec.data.toList c (word.data.toList.drop (at_ + 1)) (decide ((ix : Int) < (n : Int))) = 4)
    (hre : (word.extract (at_ + 1) word.size).toList.isEmpty = true) (hcol : colon spec = true)
    (r : OptR × (Int × Int)) (hr : stepS spec.data.toList (bytesOf' ss) word.data.toList ix at_ = r) :
    Calls Try.prog 23 #[.string spec, .slice A n cap, .string word, .agg #[.int .i64 ix, .int .i64 at_]] w fun e w' =>
      e = .returned (.tuple #[optV r.1, stV r.2]) ∧ Below w.heap.size w w' := by
  have q1 : (0 : Int) ≤ (at_ : Int) := by omega
  have q2 : (at_ : Int) < (word.size : Int) := by omega
  have q4 : (0 : Int) ≤ (at_ : Int) + 1 := by omega
  have q5 : (at_ : Int) + 1 ≤ (word.size : Int) := by omega
  have q6 : (at_ : Int) ≤ (at_ : Int) + 1 := by omega
  have q8 : at_ + 1 ≤ word.size := by omega
  obtain ⟨c', hl1, hc', hlc⟩ := letter_facts word at_ hat
  rw [hc] at hc'
  subst hc'
  have hrest : (word.extract (at_ + 1) word.size).data.toList = word.data.toList.drop (at_ + 1) := Lib.extract_to_end _ _
  have hO := Lib.hid (step_out spec word n ix at_ c 4 hs hat hc ho)
  have hre2 : word.data.toList.drop (at_ + 1) = [] := by
    rw [← hrest, ← Lib.toList_data, ← List.isEmpty_iff]
    exact hre
  have hcolL : colonL spec.data.toList = true := hcol
  have Hfin : Hid (r = (⟨(⟨#[58]⟩ : ByteArray).data.toList, (word.extract at_ (at_ + 1)).data.toList, 2, (⟨#[]⟩ : ByteArray).data.toList⟩, (((ix : Int) + 1), 0))) := by
    show _ = _
    rw [← hr, stepS]
    simp only [hc, bytes_len, ← hA.1, ho]
    rw [hlc]
    simp [hre2, hcolL]
  clear hr hlc hrest ho hc hA hre2 hcolL
  have Hl1 := Lib.hid hl1
  clear hl1
  have q7 : ((at_ : Int) + 1).toNat = at_ + 1 := by omega
  have q3 : IntKind.i64.wrap ((at_ : Int) + 1) = (at_ : Int) + 1 := IntWalk.i64_in _ (by omega)
  go_enter Try.func23, Try.ntmps23
  go_wp2
  go_quiet (fail)
  clear q7 q3
  generalize (word.extract at_ (at_ + 1)) = letter at *
  generalize (word.extract (at_ + 1) word.size) = rest at *
  have hl1 : 0 < letter.size := by have := Hl1.out; omega
  have hl3 : letter.size ≤ 1 := by have := Hl1.out; omega
  have hl2 : (0 : Int) < (letter.size : Int) := by omega
  go_wp2
  go_quiet ((go_at_call 27; exact quiet_left (hO.out _ _)))
  go_wp2_with (go_at_call 28; refine (silent_any _ _ (by unfold maxLen; omega)).mono ?_; rintro e w' ⟨rfl, rfl⟩)
  go_region
  go_wp2
  refine bodyPost_ret (v := .tuple #[.agg #[.string (⟨#[58]⟩ : ByteArray), .string letter, .int .i64 2, .string (⟨#[]⟩ : ByteArray)], .agg #[.int .i64 ((ix : Int) + 1), .int .i64 0]]) (by simp [results, Try.results23, go_sem]) rfl ⟨fin_eq Hfin.out, ?_⟩
  exact fin_below w _ _ _ _ _ _ _ _ _ _ _ _

set_option maxRecDepth 100000 in
set_option maxHeartbeats 1000000 in
theorem step_missing_loud (spec word : ByteArray) (ss : List ByteArray) (A : Option Addr) (n cap ix at_ : Nat) (w : World) (hA : Strs w w.heap.size A n ss) (_hn : n ≤ 100)
    (hs : spec.size ≤ 100) (hw : word.size ≤ 1000) (hat : at_ < word.size) (_hix : 1 ≤ ix) (_hix2 : ix ≤ n) (c : UInt8)
    (hc : word.data.toList.getD at_ 0 = c) (ho : outS spec.data.toList c (word.data.toList.drop (at_ + 1)) (decide ((ix : Int) < (n : Int))) = 4)
    (hre : (word.extract (at_ + 1) word.size).toList.isEmpty = true) (hcol : colon spec = false)
    (r : OptR × (Int × Int)) (hr : stepS spec.data.toList (bytesOf' ss) word.data.toList ix at_ = r) :
    Calls Try.prog 23 #[.string spec, .slice A n cap, .string word, .agg #[.int .i64 ix, .int .i64 at_]] w fun e w' =>
      e = .returned (.tuple #[optV r.1, stV r.2]) ∧ Below w.heap.size w w' := by
  have q1 : (0 : Int) ≤ (at_ : Int) := by omega
  have q2 : (at_ : Int) < (word.size : Int) := by omega
  have q4 : (0 : Int) ≤ (at_ : Int) + 1 := by omega
  have q5 : (at_ : Int) + 1 ≤ (word.size : Int) := by omega
  have q6 : (at_ : Int) ≤ (at_ : Int) + 1 := by omega
  have q8 : at_ + 1 ≤ word.size := by omega
  obtain ⟨c', hl1, hc', hlc⟩ := letter_facts word at_ hat
  rw [hc] at hc'
  subst hc'
  have hrest : (word.extract (at_ + 1) word.size).data.toList = word.data.toList.drop (at_ + 1) := Lib.extract_to_end _ _
  have hO := Lib.hid (step_out spec word n ix at_ c 4 hs hat hc ho)
  have hre2 : word.data.toList.drop (at_ + 1) = [] := by
    rw [← hrest, ← Lib.toList_data, ← List.isEmpty_iff]
    exact hre
  have hcolL : colonL spec.data.toList = false := hcol
  have Hfin : Hid (r = (⟨(⟨#[63]⟩ : ByteArray).data.toList, (⟨#[]⟩ : ByteArray).data.toList, 2, ((⟨#[111, 112, 116, 105, 111, 110, 32, 114, 101, 113, 117, 105, 114, 101, 115, 32, 97, 110, 32, 97, 114, 103, 117, 109, 101, 110, 116, 32, 45, 45, 32]⟩ : ByteArray) ++ (word.extract at_ (at_ + 1))).data.toList⟩, (((ix : Int) + 1), 0))) := by
    show _ = _
    rw [← hr, stepS]
    simp only [hc, bytes_len, ← hA.1, ho]
    rw [Joins.data_append, hlc]
    simp [hre2, hcolL, reqMsg]
  clear hr hlc hrest ho hc hA hre2 hcolL
  have Hl1 := Lib.hid hl1
  clear hl1
  have q7 : ((at_ : Int) + 1).toNat = at_ + 1 := by omega
  have q3 : IntKind.i64.wrap ((at_ : Int) + 1) = (at_ : Int) + 1 := IntWalk.i64_in _ (by omega)
  go_enter Try.func23, Try.ntmps23
  go_wp2
  go_quiet (fail)
  clear q7 q3
  generalize (word.extract at_ (at_ + 1)) = letter at *
  generalize (word.extract (at_ + 1) word.size) = rest at *
  have hl1 : 0 < letter.size := by have := Hl1.out; omega
  have hl3 : letter.size ≤ 1 := by have := Hl1.out; omega
  have hl2 : (0 : Int) < (letter.size : Int) := by omega
  go_wp2
  go_quiet ((go_at_call 27; exact quiet_left (hO.out _ _)))
  go_wp2_with (go_at_call 28; refine (silent_any _ _ (by unfold maxLen; omega)).mono ?_; rintro e w' ⟨rfl, rfl⟩)
  go_region
  go_wp2
  refine bodyPost_ret (v := .tuple #[.agg #[.string (⟨#[63]⟩ : ByteArray), .string (⟨#[]⟩ : ByteArray), .int .i64 2, .string ((⟨#[111, 112, 116, 105, 111, 110, 32, 114, 101, 113, 117, 105, 114, 101, 115, 32, 97, 110, 32, 97, 114, 103, 117, 109, 101, 110, 116, 32, 45, 45, 32]⟩ : ByteArray) ++ letter)], .agg #[.int .i64 ((ix : Int) + 1), .int .i64 0]]) (by simp [results, Try.results23, go_sem]) rfl ⟨fin_eq Hfin.out, ?_⟩
  exact fin_below w _ _ _ _ _ _ _ _ _ _ _ _

set_option maxRecDepth 100000 in
set_option maxHeartbeats 1000000 in
theorem step_unknown_silent_end (spec word : ByteArray) (ss : List ByteArray) (A : Option Addr) (n cap ix at_ : Nat) (w : World) (hA : Strs w w.heap.size A n ss) (_hn : n ≤ 100)
    (hs : spec.size ≤ 100) (hw : word.size ≤ 1000) (hat : at_ < word.size) (_hix : 1 ≤ ix) (_hix2 : ix ≤ n) (c : UInt8)
    (hc : word.data.toList.getD at_ 0 = c) (ho : outS spec.data.toList c (word.data.toList.drop (at_ + 1)) (decide ((ix : Int) < (n : Int))) = 0)
    (hre : (word.extract (at_ + 1) word.size).toList.isEmpty = true) (hcol : colon spec = true)
    (r : OptR × (Int × Int)) (hr : stepS spec.data.toList (bytesOf' ss) word.data.toList ix at_ = r) :
    Calls Try.prog 23 #[.string spec, .slice A n cap, .string word, .agg #[.int .i64 ix, .int .i64 at_]] w fun e w' =>
      e = .returned (.tuple #[optV r.1, stV r.2]) ∧ Below w.heap.size w w' := by
  have q1 : (0 : Int) ≤ (at_ : Int) := by omega
  have q2 : (at_ : Int) < (word.size : Int) := by omega
  have q4 : (0 : Int) ≤ (at_ : Int) + 1 := by omega
  have q5 : (at_ : Int) + 1 ≤ (word.size : Int) := by omega
  have q6 : (at_ : Int) ≤ (at_ : Int) + 1 := by omega
  have q8 : at_ + 1 ≤ word.size := by omega
  obtain ⟨c', hl1, hc', hlc⟩ := letter_facts word at_ hat
  rw [hc] at hc'
  subst hc'
  have hrest : (word.extract (at_ + 1) word.size).data.toList = word.data.toList.drop (at_ + 1) := Lib.extract_to_end _ _
  have hO := Lib.hid (step_out spec word n ix at_ c 0 hs hat hc ho)
  have hre2 : word.data.toList.drop (at_ + 1) = [] := by
    rw [← hrest, ← Lib.toList_data, ← List.isEmpty_iff]
    exact hre
  have hcolL : colonL spec.data.toList = true := hcol
  have Hfin : Hid (r = (⟨(⟨#[63]⟩ : ByteArray).data.toList, (word.extract at_ (at_ + 1)).data.toList, 2, (⟨#[]⟩ : ByteArray).data.toList⟩, (((ix : Int) + 1), 0))) := by
    show _ = _
    rw [← hr, stepS]
    simp only [hc, bytes_len, ← hA.1, ho]
    rw [hlc]
    simp [hre2, hcolL]
  clear hr hlc hrest ho hc hA hre2 hcolL
  have Hl1 := Lib.hid hl1
  clear hl1
  have q7 : ((at_ : Int) + 1).toNat = at_ + 1 := by omega
  have q3 : IntKind.i64.wrap ((at_ : Int) + 1) = (at_ : Int) + 1 := IntWalk.i64_in _ (by omega)
  go_enter Try.func23, Try.ntmps23
  go_wp2
  go_quiet (fail)
  clear q7 q3
  generalize (word.extract at_ (at_ + 1)) = letter at *
  generalize (word.extract (at_ + 1) word.size) = rest at *
  have hl1 : 0 < letter.size := by have := Hl1.out; omega
  have hl3 : letter.size ≤ 1 := by have := Hl1.out; omega
  have hl2 : (0 : Int) < (letter.size : Int) := by omega
  go_wp2
  go_quiet ((go_at_call 27; exact quiet_left (hO.out _ _)))
  go_wp2_with (go_at_call 28; refine (silent_any _ _ (by unfold maxLen; omega)).mono ?_; rintro e w' ⟨rfl, rfl⟩)
  go_region
  go_wp2
  refine bodyPost_ret (v := .tuple #[.agg #[.string (⟨#[63]⟩ : ByteArray), .string letter, .int .i64 2, .string (⟨#[]⟩ : ByteArray)], .agg #[.int .i64 ((ix : Int) + 1), .int .i64 0]]) (by simp [results, Try.results23, go_sem]) rfl ⟨fin_eq Hfin.out, ?_⟩
  exact fin_below w _ _ _ _ _ _ _ _ _ _ _ _

set_option maxRecDepth 100000 in
set_option maxHeartbeats 1000000 in
theorem step_unknown_silent_mid (spec word : ByteArray) (ss : List ByteArray) (A : Option Addr) (n cap ix at_ : Nat) (w : World) (hA : Strs w w.heap.size A n ss) (_hn : n ≤ 100)
    (hs : spec.size ≤ 100) (hw : word.size ≤ 1000) (hat : at_ < word.size) (_hix : 1 ≤ ix) (_hix2 : ix ≤ n) (c : UInt8)
    (hc : word.data.toList.getD at_ 0 = c) (ho : outS spec.data.toList c (word.data.toList.drop (at_ + 1)) (decide ((ix : Int) < (n : Int))) = 0)
    (hre : (word.extract (at_ + 1) word.size).toList.isEmpty = false) (hcol : colon spec = true)
    (r : OptR × (Int × Int)) (hr : stepS spec.data.toList (bytesOf' ss) word.data.toList ix at_ = r) :
    Calls Try.prog 23 #[.string spec, .slice A n cap, .string word, .agg #[.int .i64 ix, .int .i64 at_]] w fun e w' =>
      e = .returned (.tuple #[optV r.1, stV r.2]) ∧ Below w.heap.size w w' := by
  have q1 : (0 : Int) ≤ (at_ : Int) := by omega
  have q2 : (at_ : Int) < (word.size : Int) := by omega
  have q4 : (0 : Int) ≤ (at_ : Int) + 1 := by omega
  have q5 : (at_ : Int) + 1 ≤ (word.size : Int) := by omega
  have q6 : (at_ : Int) ≤ (at_ : Int) + 1 := by omega
  have q8 : at_ + 1 ≤ word.size := by omega
  obtain ⟨c', hl1, hc', hlc⟩ := letter_facts word at_ hat
  rw [hc] at hc'
  subst hc'
  have hrest : (word.extract (at_ + 1) word.size).data.toList = word.data.toList.drop (at_ + 1) := Lib.extract_to_end _ _
  have hO := Lib.hid (step_out spec word n ix at_ c 0 hs hat hc ho)
  have hre2 : word.data.toList.drop (at_ + 1) ≠ [] := by
    rw [← hrest, ← Lib.toList_data]
    intro h; rw [h] at hre; simp at hre
  have hcolL : colonL spec.data.toList = true := hcol
  have Hfin : Hid (r = (⟨(⟨#[63]⟩ : ByteArray).data.toList, (word.extract at_ (at_ + 1)).data.toList, 2, (⟨#[]⟩ : ByteArray).data.toList⟩, ((ix : Int), ((at_ : Int) + 1)))) := by
    show _ = _
    rw [← hr, stepS]
    simp only [hc, bytes_len, ← hA.1, ho]
    rw [hlc]
    simp [hre2, hcolL]
  clear hr hlc hrest ho hc hA hre2 hcolL
  have Hl1 := Lib.hid hl1
  clear hl1
  have q7 : ((at_ : Int) + 1).toNat = at_ + 1 := by omega
  have q3 : IntKind.i64.wrap ((at_ : Int) + 1) = (at_ : Int) + 1 := IntWalk.i64_in _ (by omega)
  go_enter Try.func23, Try.ntmps23
  go_wp2
  go_quiet (fail)
  clear q7 q3
  generalize (word.extract at_ (at_ + 1)) = letter at *
  generalize (word.extract (at_ + 1) word.size) = rest at *
  have hl1 : 0 < letter.size := by have := Hl1.out; omega
  have hl3 : letter.size ≤ 1 := by have := Hl1.out; omega
  have hl2 : (0 : Int) < (letter.size : Int) := by omega
  go_wp2
  go_quiet ((go_at_call 27; exact quiet_left (hO.out _ _)))
  go_wp2_with (go_at_call 28; refine (silent_any _ _ (by unfold maxLen; omega)).mono ?_; rintro e w' ⟨rfl, rfl⟩)
  go_region
  go_wp2
  refine bodyPost_ret (v := .tuple #[.agg #[.string (⟨#[63]⟩ : ByteArray), .string letter, .int .i64 2, .string (⟨#[]⟩ : ByteArray)], .agg #[.int .i64 (ix : Int), .int .i64 ((at_ : Int) + 1)]]) (by simp [results, Try.results23, go_sem]) rfl ⟨fin_eq Hfin.out, ?_⟩
  exact fin_below w _ _ _ _ _ _ _ _ _ _ _ _

set_option maxRecDepth 100000 in
set_option maxHeartbeats 1000000 in
theorem step_unknown_loud_end (spec word : ByteArray) (ss : List ByteArray) (A : Option Addr) (n cap ix at_ : Nat) (w : World) (hA : Strs w w.heap.size A n ss) (_hn : n ≤ 100)
    (hs : spec.size ≤ 100) (hw : word.size ≤ 1000) (hat : at_ < word.size) (_hix : 1 ≤ ix) (_hix2 : ix ≤ n) (c : UInt8)
    (hc : word.data.toList.getD at_ 0 = c) (ho : outS spec.data.toList c (word.data.toList.drop (at_ + 1)) (decide ((ix : Int) < (n : Int))) = 0)
    (hre : (word.extract (at_ + 1) word.size).toList.isEmpty = true) (hcol : colon spec = false)
    (r : OptR × (Int × Int)) (hr : stepS spec.data.toList (bytesOf' ss) word.data.toList ix at_ = r) :
    Calls Try.prog 23 #[.string spec, .slice A n cap, .string word, .agg #[.int .i64 ix, .int .i64 at_]] w fun e w' =>
      e = .returned (.tuple #[optV r.1, stV r.2]) ∧ Below w.heap.size w w' := by
  have q1 : (0 : Int) ≤ (at_ : Int) := by omega
  have q2 : (at_ : Int) < (word.size : Int) := by omega
  have q4 : (0 : Int) ≤ (at_ : Int) + 1 := by omega
  have q5 : (at_ : Int) + 1 ≤ (word.size : Int) := by omega
  have q6 : (at_ : Int) ≤ (at_ : Int) + 1 := by omega
  have q8 : at_ + 1 ≤ word.size := by omega
  obtain ⟨c', hl1, hc', hlc⟩ := letter_facts word at_ hat
  rw [hc] at hc'
  subst hc'
  have hrest : (word.extract (at_ + 1) word.size).data.toList = word.data.toList.drop (at_ + 1) := Lib.extract_to_end _ _
  have hO := Lib.hid (step_out spec word n ix at_ c 0 hs hat hc ho)
  have hre2 : word.data.toList.drop (at_ + 1) = [] := by
    rw [← hrest, ← Lib.toList_data, ← List.isEmpty_iff]
    exact hre
  have hcolL : colonL spec.data.toList = false := hcol
  have Hfin : Hid (r = (⟨(⟨#[63]⟩ : ByteArray).data.toList, (⟨#[]⟩ : ByteArray).data.toList, 2, ((⟨#[105, 108, 108, 101, 103, 97, 108, 32, 111, 112, 116, 105, 111, 110, 32, 45, 45, 32]⟩ : ByteArray) ++ (word.extract at_ (at_ + 1))).data.toList⟩, (((ix : Int) + 1), 0))) := by
    show _ = _
    rw [← hr, stepS]
    simp only [hc, bytes_len, ← hA.1, ho]
    rw [Joins.data_append, hlc]
    simp [hre2, hcolL, illMsg]
  clear hr hlc hrest ho hc hA hre2 hcolL
  have Hl1 := Lib.hid hl1
  clear hl1
  have q7 : ((at_ : Int) + 1).toNat = at_ + 1 := by omega
  have q3 : IntKind.i64.wrap ((at_ : Int) + 1) = (at_ : Int) + 1 := IntWalk.i64_in _ (by omega)
  go_enter Try.func23, Try.ntmps23
  go_wp2
  go_quiet (fail)
  clear q7 q3
  generalize (word.extract at_ (at_ + 1)) = letter at *
  generalize (word.extract (at_ + 1) word.size) = rest at *
  have hl1 : 0 < letter.size := by have := Hl1.out; omega
  have hl3 : letter.size ≤ 1 := by have := Hl1.out; omega
  have hl2 : (0 : Int) < (letter.size : Int) := by omega
  go_wp2
  go_quiet ((go_at_call 27; exact quiet_left (hO.out _ _)))
  go_wp2_with (go_at_call 28; refine (silent_any _ _ (by unfold maxLen; omega)).mono ?_; rintro e w' ⟨rfl, rfl⟩)
  go_region
  go_wp2
  refine bodyPost_ret (v := .tuple #[.agg #[.string (⟨#[63]⟩ : ByteArray), .string (⟨#[]⟩ : ByteArray), .int .i64 2, .string ((⟨#[105, 108, 108, 101, 103, 97, 108, 32, 111, 112, 116, 105, 111, 110, 32, 45, 45, 32]⟩ : ByteArray) ++ letter)], .agg #[.int .i64 ((ix : Int) + 1), .int .i64 0]]) (by simp [results, Try.results23, go_sem]) rfl ⟨fin_eq Hfin.out, ?_⟩
  exact fin_below w _ _ _ _ _ _ _ _ _ _ _ _

set_option maxRecDepth 100000 in
set_option maxHeartbeats 1000000 in
theorem step_unknown_loud_mid (spec word : ByteArray) (ss : List ByteArray) (A : Option Addr) (n cap ix at_ : Nat) (w : World) (hA : Strs w w.heap.size A n ss) (_hn : n ≤ 100)
    (hs : spec.size ≤ 100) (hw : word.size ≤ 1000) (hat : at_ < word.size) (_hix : 1 ≤ ix) (_hix2 : ix ≤ n) (c : UInt8)
    (hc : word.data.toList.getD at_ 0 = c) (ho : outS spec.data.toList c (word.data.toList.drop (at_ + 1)) (decide ((ix : Int) < (n : Int))) = 0)
    (hre : (word.extract (at_ + 1) word.size).toList.isEmpty = false) (hcol : colon spec = false)
    (r : OptR × (Int × Int)) (hr : stepS spec.data.toList (bytesOf' ss) word.data.toList ix at_ = r) :
    Calls Try.prog 23 #[.string spec, .slice A n cap, .string word, .agg #[.int .i64 ix, .int .i64 at_]] w fun e w' =>
      e = .returned (.tuple #[optV r.1, stV r.2]) ∧ Below w.heap.size w w' := by
  have q1 : (0 : Int) ≤ (at_ : Int) := by omega
  have q2 : (at_ : Int) < (word.size : Int) := by omega
  have q4 : (0 : Int) ≤ (at_ : Int) + 1 := by omega
  have q5 : (at_ : Int) + 1 ≤ (word.size : Int) := by omega
  have q6 : (at_ : Int) ≤ (at_ : Int) + 1 := by omega
  have q8 : at_ + 1 ≤ word.size := by omega
  obtain ⟨c', hl1, hc', hlc⟩ := letter_facts word at_ hat
  rw [hc] at hc'
  subst hc'
  have hrest : (word.extract (at_ + 1) word.size).data.toList = word.data.toList.drop (at_ + 1) := Lib.extract_to_end _ _
  have hO := Lib.hid (step_out spec word n ix at_ c 0 hs hat hc ho)
  have hre2 : word.data.toList.drop (at_ + 1) ≠ [] := by
    rw [← hrest, ← Lib.toList_data]
    intro h; rw [h] at hre; simp at hre
  have hcolL : colonL spec.data.toList = false := hcol
  have Hfin : Hid (r = (⟨(⟨#[63]⟩ : ByteArray).data.toList, (⟨#[]⟩ : ByteArray).data.toList, 2, ((⟨#[105, 108, 108, 101, 103, 97, 108, 32, 111, 112, 116, 105, 111, 110, 32, 45, 45, 32]⟩ : ByteArray) ++ (word.extract at_ (at_ + 1))).data.toList⟩, ((ix : Int), ((at_ : Int) + 1)))) := by
    show _ = _
    rw [← hr, stepS]
    simp only [hc, bytes_len, ← hA.1, ho]
    rw [Joins.data_append, hlc]
    simp [hre2, hcolL, illMsg]
  clear hr hlc hrest ho hc hA hre2 hcolL
  have Hl1 := Lib.hid hl1
  clear hl1
  have q7 : ((at_ : Int) + 1).toNat = at_ + 1 := by omega
  have q3 : IntKind.i64.wrap ((at_ : Int) + 1) = (at_ : Int) + 1 := IntWalk.i64_in _ (by omega)
  go_enter Try.func23, Try.ntmps23
  go_wp2
  go_quiet (fail)
  clear q7 q3
  generalize (word.extract at_ (at_ + 1)) = letter at *
  generalize (word.extract (at_ + 1) word.size) = rest at *
  have hl1 : 0 < letter.size := by have := Hl1.out; omega
  have hl3 : letter.size ≤ 1 := by have := Hl1.out; omega
  have hl2 : (0 : Int) < (letter.size : Int) := by omega
  go_wp2
  go_quiet ((go_at_call 27; exact quiet_left (hO.out _ _)))
  go_wp2_with (go_at_call 28; refine (silent_any _ _ (by unfold maxLen; omega)).mono ?_; rintro e w' ⟨rfl, rfl⟩)
  go_region
  go_wp2
  refine bodyPost_ret (v := .tuple #[.agg #[.string (⟨#[63]⟩ : ByteArray), .string (⟨#[]⟩ : ByteArray), .int .i64 2, .string ((⟨#[105, 108, 108, 101, 103, 97, 108, 32, 111, 112, 116, 105, 111, 110, 32, 45, 45, 32]⟩ : ByteArray) ++ letter)], .agg #[.int .i64 (ix : Int), .int .i64 ((at_ : Int) + 1)]]) (by simp [results, Try.results23, go_sem]) rfl ⟨fin_eq Hfin.out, ?_⟩
  exact fin_below w _ _ _ _ _ _ _ _ _ _ _ _

end Go.Proofs.Ytkenicdcelhdcaa
