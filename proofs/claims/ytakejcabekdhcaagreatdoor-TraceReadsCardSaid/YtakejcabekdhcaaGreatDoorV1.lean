/- Events in memory; few: what the call returns. -/
import Derived.Test.YtakejcabekdhcaaGreatDoorW3
namespace Go.Proofs.YtakejcabekdhcaaGreatDoor
open Go.RowKit

structure Evn where
  pid : Int
  kind : Int
  pos : Int
  n : Int
  text : ByteArray

/-- The slice value '.slice A n c' holds the events es, below block B. -/
def Evs (w : World) (B : Nat) (A : Option Addr) (n : Nat) (es : List Evn) : Prop :=
  n = es.length ∧ (0 < es.length → ∃ b off, A = some ⟨b, off, none⟩ ∧ b < B ∧ ∀ k (hk : k < es.length), w.cell? ⟨b, off + k * 5, none⟩ = some (.int .i64 es[k].pid) ∧ w.cell? ⟨b, off + k * 5 + 1, none⟩ = some (.int .i64 es[k].kind) ∧
    w.cell? ⟨b, off + k * 5 + 2, none⟩ = some (.int .i64 es[k].pos) ∧ w.cell? ⟨b, off + k * 5 + 3, none⟩ = some (.int .i64 es[k].n) ∧ w.cell? ⟨b, off + k * 5 + 4, none⟩ = some (.string es[k].text))
theorem Evs.below {w w' : World} {B n : Nat} {A : Option Addr} {es : List Evn} (h : Evs w B A n es) (hb : Below B w w') : Evs w' B A n es :=
  ⟨h.1, fun h0 => by
    obtain ⟨b, off, e, hB, hc⟩ := h.2 h0
    refine ⟨b, off, e, hB, fun k hk => ?_⟩
    obtain ⟨c0, c1, c2, c3, c4⟩ := hc k hk
    exact ⟨(hb.cell (p := ⟨b, _, none⟩) hB).trans c0, (hb.cell (p := ⟨b, _, none⟩) hB).trans c1, (hb.cell (p := ⟨b, _, none⟩) hB).trans c2, (hb.cell (p := ⟨b, _, none⟩) hB).trans c3, (hb.cell (p := ⟨b, _, none⟩) hB).trans c4⟩⟩
theorem Evs.more {w : World} {B B' n : Nat} {A : Option Addr} {es : List Evn} (h : Evs w B A n es) (hB : B ≤ B') : Evs w B' A n es :=
  ⟨h.1, fun h0 => by
    obtain ⟨b, off, e, hb, hc⟩ := h.2 h0
    exact ⟨b, off, e, Nat.lt_of_lt_of_le hb hB, hc⟩⟩
theorem Evs.later {w w' : World} {A : Option Addr} {n : Nat} {es : List Evn} (h : Evs w w.heap.size A n es) (hb : Below w.heap.size w w') : Evs w' w'.heap.size A n es := (h.below hb).more hb.size

def fewTo (es : List Evn) (k : Nat) : Prop := ∀ j (hj : j < es.length), j < k → es[j].text.size ≤ 200
def fewB (es : List Evn) : Bool := decide (es.length ≤ 60) && es.all fun e => decide (e.text.size ≤ 200)
theorem few_stop {es : List Evn} {k : Nat} (hk : k < es.length) (h : ¬ es[k].text.size ≤ 200) : false = fewB es := by
  unfold fewB
  have : (es.all fun e => decide (e.text.size ≤ 200)) = false := by
    cases ha : (es.all fun e => decide (e.text.size ≤ 200)) with
    | false => rfl
    | true => exact absurd (of_decide_eq_true (List.all_eq_true.1 ha _ (List.getElem_mem hk))) h
  rw [this, Bool.and_false]
theorem few_all {es : List Evn} (h60 : es.length ≤ 60) (h : fewTo es es.length) : true = fewB es := by
  unfold fewB
  rw [decide_eq_true h60]
  symm
  rw [Bool.true_and, List.all_eq_true]
  intro e he
  obtain ⟨j, hj, rfl⟩ := List.getElem_of_mem he
  exact decide_eq_true (h j hj hj)
theorem few_long {es : List Evn} (h60 : ¬ es.length ≤ 60) : false = fewB es := by
  unfold fewB
  rw [decide_eq_false h60]
  rfl

set_option maxHeartbeats 4000000 in
set_option maxRecDepth 100000 in
theorem few_any (es : List Evn) (A : Option Addr) (n cap : Nat) (w : World) (hA : Evs w w.heap.size A n es) (hn : n ≤ maxLen) (hz : ∀ e ∈ es, e.text.size ≤ maxLen) :
    Calls Tryz.prog 8 #[.slice A n cap] w fun e w' => e = .returned (.bool (fewB es)) ∧ Below w.heap.size w w' := by
  obtain rfl := hA.1
  have HA := Lib.hid hA
  have HZ := Lib.hid hz
  unfold maxLen at hn
  clear hA hz
  by_cases h60 : es.length ≤ 60
  · have hfa := Lib.hid (few_all (es := es) h60)
    have hfs := Lib.hid (fun k hk h => few_stop (es := es) (k := k) hk h)
    generalize fewB es = r at *
    go_enter Tryz.func8, Tryz.ntmps8
    go_wp2
    go_loopw [10] (fun i wr => ∃ k : Nat, i = .int .i64 k ∧ k ≤ es.length ∧ Hid (fewTo es k) ∧ Hid (Below w.heap.size w wr)) (fun i wr => es.length - (Lib.intOf i).toNat)
    case atStart => exact ⟨0, rfl, Nat.zero_le _, fun j hj h => by omega, Below.refl _ _⟩
    case round =>
      obtain ⟨k, rfl, hk, hsh, Hb⟩ := hrel
      by_cases hkn : k < es.length
      · obtain ⟨b, off, rfl, hb, hc⟩ := (HA.out.below Hb.out).2 (by omega)
        obtain ⟨c0, c1, c2, c3, c4⟩ := hc k hkn
        have hbw : b < wr.heap.size := Nat.lt_of_lt_of_le hb Hb.out.size
        have hsk : es[k].text.size ≤ 9223372036854775807 := by have := HZ.out _ (List.getElem_mem hkn); unfold maxLen at this; exact this
        have hmore : Hid (es[k].text.size ≤ 200 → fewTo es (k + 1)) := fun h j hj hjk => by
          by_cases e : j = k
          · subst e; exact h
          · exact hsh.out j hj (by omega)
        have hstop := Lib.hid (hfs.out k hkn)
        clear hc
        generalize es[k] = f at *
        obtain ⟨pid, kind, pos, en, text⟩ := f
        simp only [] at c0 c1 c2 c3 c4 hsk hmore hstop
        by_cases h200 : text.size ≤ 200
        · go_wp2
          exact ⟨⟨k + 1, by go_num, by omega, hmore.out h200, Hb.out.alloc Hb.out.size _⟩, by simp [Lib.intOf]; omega⟩
        · go_wp2
          go_ret
          exact ⟨ret_bool (hstop.out h200), Hb.out.alloc Hb.out.size _⟩
      · have hke : k = es.length := by omega
        subst hke
        have hall := Lib.hid (hfa.out hsh.out)
        go_wp2
        go_ret
        exact ⟨ret_bool hall.out, Hb.out⟩
  · have hfl := Lib.hid (few_long h60)
    generalize fewB es = r at *
    go_enter Tryz.func8, Tryz.ntmps8
    go_wp2
    go_ret
    exact ⟨ret_bool hfl.out, Below.refl _ _⟩

/-! Appending one string -/
theorem info9 : (Tryz.prog.info? 9).map (fun i => (i.zero, i.size, i.bytes)) = some (some (.string ⟨#[]⟩), 1, 16) := by kernel_rfl
theorem info3 : (Tryz.prog.info? 3).map (fun i => (i.zero, i.size, i.bytes)) = some (some (.int .i64 0), 1, 8) := by kernel_rfl
theorem info_parts {t : TypeId} {z : Value} {a b : Nat} (h : (Tryz.prog.info? t).map (fun i => (i.zero, i.size, i.bytes)) = some (some z, a, b)) : ∃ i, Tryz.prog.info? t = some i ∧ i.zero = some z ∧ i.size = a ∧ i.bytes = b := by
  cases hi : Tryz.prog.info? t with
  | none => rw [hi] at h; cases h
  | some i =>
    rw [hi] at h
    simp only [Option.map_some, Option.some.injEq, Prod.mk.injEq] at h
    exact ⟨i, rfl, h.1, h.2.1, h.2.2⟩
theorem cell_one_new {w : World} {n : Nat} (hn : n = w.heap.size) (v : Value) (t : TypeId) : ∀ j u, [v][j]? = some u → (w.alloc (.cells #[v] t)).cell? ((⟨n, 0, none⟩ : Addr).add j) = some u := by
  subst hn
  intro j u hu
  cases j with
  | succ j => simp at hu
  | zero =>
    have : v = u := by simpa using hu
    subst this
    have e : (⟨w.heap.size, 0, none⟩ : Addr).add 0 = ⟨w.heap.size, 0, none⟩ := by simp [Addr.add]
    have e2 := heap_alloc_new w (.cells #[v] t)
    rw [e]
    unfold World.cell?
    simp only [e2]
    rfl
def strVs (ss : List ByteArray) : List Value := ss.map fun s => Value.string s
theorem owns_strs {w : World} {B n : Nat} {v : Value} {l : List ByteArray} (h : w.ownsRow B 9 1 v n (strVs l)) : ∃ V c, v = .slice V n c ∧ Strs w w.heap.size V n l ∧ (V = none → c = 0) := by
  have hl : n = l.length := by have := h.1; simp [strVs] at this; omega
  rcases h.2 with ⟨hv, h0⟩ | ⟨g, cap, cur, hv, _⟩
  · exact ⟨none, 0, by rw [hv, h0], ⟨hl, fun h => by omega⟩, fun _ => rfl⟩
  · subst hv
    refine ⟨_, cap, rfl, ⟨hl, fun _ => ⟨g, 0, rfl, (h.lt g rfl).2, fun k hk => ?_⟩⟩, fun h => by cases h⟩
    rw [Nat.zero_add, h.cellAt k (by omega)]
    simp [strVs, hk]

def cmdsTo (es : List Evn) (k : Nat) : List ByteArray := ((es.take k).filter fun e => e.kind == 2).map (·.text)
theorem cmdsTo_hit (es : List Evn) (k : Nat) (h : k < es.length) (he : (es[k].kind == 2) = true) : cmdsTo es (k + 1) = cmdsTo es k ++ [es[k].text] := by
  unfold cmdsTo
  rw [List.take_succ_eq_append_getElem h, List.filter_append, List.map_append]
  simp [he]
theorem cmdsTo_miss (es : List Evn) (k : Nat) (h : k < es.length) (he : (es[k].kind == 2) = false) : cmdsTo es (k + 1) = cmdsTo es k := by
  unfold cmdsTo
  rw [List.take_succ_eq_append_getElem h, List.filter_append, List.map_append]
  simp [he]
theorem cmdsTo_length (es : List Evn) (k : Nat) : (cmdsTo es k).length ≤ k := by
  unfold cmdsTo
  rw [List.length_map]
  exact Nat.le_trans (List.length_filter_le _ _) (by rw [List.length_take]; omega)
def CRel (es : List Evn) (w : World) (v i : Value) (wr : World) : Prop :=
  ∃ k : Nat, i = .int .i64 k ∧ k ≤ es.length ∧ wr.ownsRow w.heap.size 9 1 v (cmdsTo es k).length (strVs (cmdsTo es k)) ∧ Below w.heap.size w wr

set_option maxHeartbeats 4000000 in
set_option maxRecDepth 100000 in
theorem commands_any (es : List Evn) (A : Option Addr) (n cap : Nat) (w : World) (hA : Evs w w.heap.size A n es) (hn : n ≤ 60) :
    Calls Tryz.prog 10 #[.slice A n cap] w fun e w' => ∃ v, e = .returned v ∧ w'.ownsRow w.heap.size 9 1 v (cmdsTo es n).length (strVs (cmdsTo es n)) ∧ Below w.heap.size w w' := by
  obtain ⟨i0, hi, hz0, hz1, hz2⟩ := info_parts info9
  obtain rfl := hA.1
  have HA := Lib.hid hA
  clear hA
  go_enter Tryz.func10, Tryz.ntmps10
  go_wp2
  go_loopw [3, 8] (fun v i wr => CRel es w v i wr) (fun _ i wr => es.length - (Lib.intOf i).toNat)
  case atStart => exact ⟨0, rfl, Nat.zero_le _, World.ownsRow_nil _ _ _ _, Below.refl _ _⟩
  case round =>
    obtain ⟨k, rfl, hk, hown, hbw⟩ := hrel
    have hcl := cmdsTo_length es k
    by_cases hkn : k < es.length
    · obtain ⟨b, off, rfl, hb, hc⟩ := (HA.out.below hbw).2 (by omega)
      obtain ⟨c0, c1, c2, c3, c4⟩ := hc k hkn
      have hbw' : b < wr.heap.size := Nat.lt_of_lt_of_le hb hbw.size
      have Hown := Lib.hid hown
      have Hb := Lib.hid hbw
      clear hc hown hbw
      cases he : (es[k].kind == 2) with
      | true =>
        have ht := Lib.hid (cmdsTo_hit es k hkn he)
        generalize es[k] = f at *
        obtain ⟨pid, kind, pos, en, text⟩ := f
        simp only [] at c0 c1 c2 c3 c4 he ht
        generalize cmdsTo es k = cs at *
        go_wp2_with (at_builtin; refine wpList_append_own _ rfl _ _ 22 rfl w.heap.size 9 i0 _ 1 16 Tryz.underlying22 hi hz0 hz1 hz2 rfl (by decide) _ _ _ rfl ((Hown.out.alloc _).alloc _) ⟨wr.heap.size + 1, 0, none⟩ 1 1 [.string text] rfl rfl (cell_one_new (by simp) _ _) (by simp [Value.oneCell']) (by unfold maxLen; omega) (by omega) (by simp; have := Hb.out.size; omega) ?_; intro v' w3 hown' hg _)
        have hsz := Hb.out.size
        have Hb3 := Lib.hid (((Hb.out.alloc hsz _).alloc (by simp; omega) _).grown hg (by simp; omega) (fun q hq => (Hown.out.lt q hq).1))
        refine ⟨⟨k + 1, by go_num, by omega, ?_, Hb3.out⟩, by simp [Lib.intOf]; omega⟩
        rw [ht.out, List.length_append, strVs, List.map_append]
        exact hown'
      | false =>
        have ht := Lib.hid (cmdsTo_miss es k hkn he)
        generalize es[k] = f at *
        obtain ⟨pid, kind, pos, en, text⟩ := f
        simp only [] at c0 c1 c2 c3 c4 he ht
        generalize cmdsTo es k = cs at *
        go_wp2
        refine ⟨⟨k + 1, by go_num, by omega, ?_, Hb.out.alloc Hb.out.size _⟩, by simp [Lib.intOf]; omega⟩
        rw [ht.out]
        exact Hown.out.alloc _
    · have hke : k = es.length := by omega
      subst hke
      have Hown := Lib.hid hown
      have Hb := Lib.hid hbw
      clear hown hbw
      go_wp2
      go_ret
      exact ⟨_, rfl, Hown.out, Hb.out⟩

set_option maxHeartbeats 4000000 in
set_option maxRecDepth 100000 in
theorem refCommands_any (es : List Evn) (A : Option Addr) (n cap : Nat) (w : World) (hA : Evs w w.heap.size A n es) (hn : n ≤ 60) :
    Calls Tryz.prog 11 #[.slice A n cap] w fun e w' => ∃ v, e = .returned v ∧ w'.ownsRow w.heap.size 9 1 v (cmdsTo es n).length (strVs (cmdsTo es n)) ∧ Below w.heap.size w w' := by
  obtain ⟨i0, hi, hz0, hz1, hz2⟩ := info_parts info9
  obtain rfl := hA.1
  have HA := Lib.hid hA
  clear hA
  go_enter Tryz.func11, Tryz.ntmps11
  go_wp2
  go_loopw [3, 8] (fun v i wr => CRel es w v i wr) (fun _ i wr => es.length - (Lib.intOf i).toNat)
  case atStart => exact ⟨0, rfl, Nat.zero_le _, World.ownsRow_nil _ _ _ _, Below.refl _ _⟩
  case round =>
    obtain ⟨k, rfl, hk, hown, hbw⟩ := hrel
    have hcl := cmdsTo_length es k
    by_cases hkn : k < es.length
    · obtain ⟨b, off, rfl, hb, hc⟩ := (HA.out.below hbw).2 (by omega)
      obtain ⟨c0, c1, c2, c3, c4⟩ := hc k hkn
      have hbw' : b < wr.heap.size := Nat.lt_of_lt_of_le hb hbw.size
      have Hown := Lib.hid hown
      have Hb := Lib.hid hbw
      clear hc hown hbw
      cases he : (es[k].kind == 2) with
      | true =>
        have ht := Lib.hid (cmdsTo_hit es k hkn he)
        generalize es[k] = f at *
        obtain ⟨pid, kind, pos, en, text⟩ := f
        simp only [] at c0 c1 c2 c3 c4 he ht
        generalize cmdsTo es k = cs at *
        go_wp2_with (at_builtin; refine wpList_append_own _ rfl _ _ 22 rfl w.heap.size 9 i0 _ 1 16 Tryz.underlying22 hi hz0 hz1 hz2 rfl (by decide) _ _ _ rfl ((Hown.out.alloc _).alloc _) ⟨wr.heap.size + 1, 0, none⟩ 1 1 [.string text] rfl rfl (cell_one_new (by simp) _ _) (by simp [Value.oneCell']) (by unfold maxLen; omega) (by omega) (by simp; have := Hb.out.size; omega) ?_; intro v' w3 hown' hg _)
        have hsz := Hb.out.size
        have Hb3 := Lib.hid (((Hb.out.alloc hsz _).alloc (by simp; omega) _).grown hg (by simp; omega) (fun q hq => (Hown.out.lt q hq).1))
        refine ⟨⟨k + 1, by go_num, by omega, ?_, Hb3.out⟩, by simp [Lib.intOf]; omega⟩
        rw [ht.out, List.length_append, strVs, List.map_append]
        exact hown'
      | false =>
        have ht := Lib.hid (cmdsTo_miss es k hkn he)
        generalize es[k] = f at *
        obtain ⟨pid, kind, pos, en, text⟩ := f
        simp only [] at c0 c1 c2 c3 c4 he ht
        generalize cmdsTo es k = cs at *
        go_wp2
        refine ⟨⟨k + 1, by go_num, by omega, ?_, Hb.out.alloc Hb.out.size _⟩, by simp [Lib.intOf]; omega⟩
        rw [ht.out]
        exact Hown.out.alloc _
    · have hke : k = es.length := by omega
      subst hke
      have Hown := Lib.hid hown
      have Hb := Lib.hid hbw
      clear hown hbw
      go_wp2
      go_ret
      exact ⟨_, rfl, Hown.out, Hb.out⟩

end Go.Proofs.YtakejcabekdhcaaGreatDoor
