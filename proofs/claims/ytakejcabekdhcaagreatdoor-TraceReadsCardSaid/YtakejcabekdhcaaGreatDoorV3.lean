/- Check: what the call returns. -/
import Derived.Test.YtakejcabekdhcaaGreatDoorV2
import Derived.Maps.Own
import Derived.Maps.Views
import Derived.Carry
namespace Go.Proofs.YtakejcabekdhcaaGreatDoor
open Go.RowKit Go.Maps

/-- What Check returns, from an event on. -/
def checkF : List Evn → List Int → List Int → Int
  | [], _, _ => 0
  | e :: r, K, G => if e.kind < 1 ∨ 6 < e.kind then 1 else if (!K.contains e.pid || G.contains e.pid) = true then 21
    else if e.kind = 3 then (if K.contains e.n = true then 9 else checkF r (K ++ [e.n]) G) else if e.kind = 4 then checkF r K (G ++ [e.pid]) else checkF r K G

def inI64 (n : Int) : Prop := -9223372036854775808 ≤ n ∧ n ≤ 9223372036854775807
theorem wf_of {n : Int} (h : inI64 n) : (Lit.int .i64 n).wf = true := by
  obtain ⟨h1, h2⟩ := h
  simp [Lit.wf, IntKind.min, IntKind.max, IntKind.bits, IntKind.signed]
  omega
theorem key_of {n : Int} (h : inI64 n) : keyOf Tryz.prog 3 (.int .i64 n) = some (.int .i64 n) := keyOf_int_mk Tryz.underlying3 (wf_of h)
theorem keyed3 : Keyed Tryz.prog 3 := int_keyed Tryz.underlying3

/-- Block b is a map that holds true at the numbers K. -/
def MapSet (w : World) (b : Nat) (K : List Int) (m : Nat) : Prop :=
  ∃ D : DataW Unit, w.ownsMap Tryz.prog 3 (plainElem Tryz.prog 4) b m D ∧ IsMap D ∧ ∀ n, D.atKey (.int .i64 n) (.lit (.bool false)) = .lit (.bool (K.contains n))

theorem MapSet.made (w : World) : MapSet (w.alloc (.map #[] 0)) w.heap.size [] 0 :=
  ⟨.map [], World.ownsMap_made w _ _ _, isMap_empty, fun _ => rfl⟩
theorem MapSet.kept {w w' : World} {b m : Nat} {K : List Int} {row : Option Nat} (h : MapSet w b K m) (hg : w.grownBy w' row) (hne : some b ≠ row) : MapSet w' b K m := by
  obtain ⟨D, h1, h2, h3⟩ := h
  exact ⟨D, h1.kept hg hne, h2, h3⟩
theorem MapSet.alloc {w : World} {b m : Nat} {K : List Int} (h : MapSet w b K m) (o : Obj) : MapSet (w.alloc o) b K m := h.kept (World.grownBy_alloc w o none) (by simp)
theorem MapSet.lt {w : World} {b m : Nat} {K : List Int} (h : MapSet w b K m) : b < w.heap.size := h.choose_spec.1.lt

set_option maxRecDepth 1000000 in
theorem MapSet.look {w : World} {b m : Nat} {K : List Int} (h : MapSet w b K m) {n : Int} (hn : inI64 n) : (Instr.lookup 52 (.map (some b)) (.int .i64 n) false).run Tryz.prog w = .ok (.bool (K.contains n)) w := by
  obtain ⟨D, h1, _, h3⟩ := h
  obtain ⟨v, ps, e1, e2⟩ := h1.lookup keyed3 Tryz.underlying52 (Tryz.zeroValue4 w) (plainElem_bool Tryz.underlying4 false) (key_of hn)
  rw [h3] at e2
  have : v = .bool (K.contains n) := by
    unfold plainElem at e2
    rw [Tryz.underlying4] at e2
    cases v <;> simp at e2
    case bool x => rw [e2.1]; simp
  rw [e1, this]
set_option maxRecDepth 1000000 in
theorem MapSet.put {w : World} {b m : Nat} {K : List Int} (h : MapSet w b K m) (hm : m ≤ 1000) {n : Int} (hn : inI64 n) : ∃ w', (Instr.mapUpdate 52 (.map (some b)) (.int .i64 n) (.bool true)).run Tryz.prog w = .ok () w' ∧ MapSet w' b (K ++ [n]) (m + 1) ∧ w.grownBy w' (some b) := by
  obtain ⟨D, h1, h2, h3⟩ := h
  obtain ⟨w', e1, e2, e3⟩ := h1.update keyed3 Tryz.underlying52 (by unfold maxLen; omega) (key_of hn) (plainElem_bool Tryz.underlying4 true)
  refine ⟨w', e1, ⟨_, e2, ?_, fun k => ?_⟩, e3⟩
  · obtain ⟨es, rfl⟩ := h2
    exact ⟨_, rfl⟩
  · by_cases hk : k = n
    · subst hk
      rw [atKey_put_same h2 (by simp [WideAt.IsKeyLit])]
      simp
    · rw [atKey_put_other (by simpa using hk), h3]
      simp [List.contains_eq_mem, hk]

/-- What Check carries from round to round. -/
def KRel (es : List Evn) (w : World) (b2 : Nat) (i : Value) (wr : World) : Prop :=
  ∃ (k : Nat) (K G : List Int), i = .int .i64 k ∧ k ≤ es.length ∧ checkF (es.drop k) K G = checkF es [2] [] ∧ MapSet wr w.heap.size K (k + 1) ∧ MapSet wr b2 G (k + 1) ∧ Below w.heap.size w wr
theorem MapSet.mono {w : World} {b m m' : Nat} {K : List Int} (h : MapSet w b K m) (hm : m ≤ m') : MapSet w b K m' := by
  obtain ⟨D, h1, h2⟩ := h
  exact ⟨D, h1.mono hm, h2⟩

theorem below_put {N : Nat} {w wr w2 : World} {b : Nat} (h : Below N w wr) (o : Obj) (hN : N ≤ wr.heap.size) (hg : (wr.alloc o).grownBy w2 (some b)) (hb : N ≤ b) : Below N w w2 :=
  (h.alloc hN o).grown hg (by simp; omega) (fun q hq => by injection hq with hq; omega)

set_option maxHeartbeats 4000000 in
set_option maxRecDepth 100000 in
theorem check_any (es : List Evn) (A : Option Addr) (n cap : Nat) (w : World) (hA : Evs w w.heap.size A n es) (hn : n ≤ 60) (hz : ∀ e ∈ es, inI64 e.pid ∧ inI64 e.n) :
    Calls Tryz.prog 14 #[.slice A n cap] w fun e w' => e = .returned (.int .i64 (checkF es [2] [])) ∧ Below w.heap.size w w' := by
  obtain rfl := hA.1
  have HA := Lib.hid hA
  have HZ := Lib.hid hz
  obtain ⟨w1, hins, hM1, hg1⟩ := (MapSet.made w).put (n := 2) (by omega) (by unfold inI64; omega)
  have HM1 := Lib.hid hM1
  have Hb1 := Lib.hid (below_put (Below.refl w.heap.size w) (.map #[] 0) (Nat.le_refl _) hg1 (Nat.le_refl _))
  have h2 : w.heap.size < w1.heap.size := hM1.lt
  clear hA hz hM1 hg1
  have hmk : (Instr.makeMap 52 none).run Tryz.prog w = .ok (.map (some w.heap.size)) (w.alloc (.map #[] 0)) := run_makeMap 52 w
  have hmk1 : (Instr.makeMap 52 none).run Tryz.prog w1 = .ok (.map (some w1.heap.size)) (w1.alloc (.map #[] 0)) := run_makeMap 52 w1
  go_enter Tryz.func14, Tryz.ntmps14
  go_wp2
  clear hins hmk hmk1
  go_loopw [12] (fun i wr => KRel es w w1.heap.size i wr) (fun i wr => es.length - (Lib.intOf i).toNat)
  case atStart => exact ⟨0, [2], [], rfl, Nat.zero_le _, rfl, HM1.out.alloc _, (MapSet.made w1).mono (by omega), Hb1.out.alloc (by omega) _⟩
  case round =>
    obtain ⟨k, K, G, rfl, hk, hch, hMK, hMG, hbw⟩ := hrel
    have hsw := hbw.size
    by_cases hkn : k < es.length
    · obtain ⟨b, off, rfl, hb, hc⟩ := (HA.out.below hbw).2 (by omega)
      obtain ⟨c0, c1, c2, c3, c4⟩ := hc k hkn
      have hbw' : b < wr.heap.size := Nat.lt_of_lt_of_le hb hbw.size
      obtain ⟨i1, i2⟩ := HZ.out _ (List.getElem_mem hkn)
      have Hb := Lib.hid hbw
      rw [List.drop_eq_getElem_cons hkn] at hch
      clear hc hbw
      generalize es[k] = f at *
      obtain ⟨pid, kind, pos, en, text⟩ := f
      simp only [checkF] at c0 c1 c2 c3 c4 i1 i2 hch
      have l1 := (hMK.alloc (.cells #[.int .i64 pid, .int .i64 kind, .int .i64 pos, .int .i64 en, .string text] 39)).look i1
      have l2 := (hMG.alloc (.cells #[.int .i64 pid, .int .i64 kind, .int .i64 pos, .int .i64 en, .string text] 39)).look i1
      have l3 := (hMK.alloc (.cells #[.int .i64 pid, .int .i64 kind, .int .i64 pos, .int .i64 en, .string text] 39)).look i2
      obtain ⟨wk, u1, uM1, ug1⟩ := (hMK.alloc (.cells #[.int .i64 pid, .int .i64 kind, .int .i64 pos, .int .i64 en, .string text] 39)).put (n := en) (by omega) i2
      obtain ⟨wg, u2, uM2, ug2⟩ := (hMG.alloc (.cells #[.int .i64 pid, .int .i64 kind, .int .i64 pos, .int .i64 en, .string text] 39)).put (n := pid) (by omega) i1
      have HR1 := Lib.hid (show MapSet wk w.heap.size (K ++ [en]) (k + 1 + 1) ∧ MapSet wk w1.heap.size G (k + 1 + 1) ∧ Below w.heap.size w wk from ⟨uM1, ((hMG.alloc _).kept ug1 (by simp; omega)).mono (by omega), below_put Hb.out _ hsw ug1 (Nat.le_refl _)⟩)
      have HR2 := Lib.hid (show MapSet wg w.heap.size K (k + 1 + 1) ∧ MapSet wg w1.heap.size (G ++ [pid]) (k + 1 + 1) ∧ Below w.heap.size w wg from ⟨((hMK.alloc _).kept ug2 (by simp; omega)).mono (by omega), uM2, below_put Hb.out _ hsw ug2 (by omega)⟩)
      have HR3 := Lib.hid (fun o => (show MapSet (wr.alloc o) w.heap.size K (k + 1 + 1) ∧ MapSet (wr.alloc o) w1.heap.size G (k + 1 + 1) ∧ Below w.heap.size w (wr.alloc o) from ⟨(hMK.alloc o).mono (by omega), (hMG.alloc o).mono (by omega), Hb.out.alloc hsw o⟩))
      clear hMK hMG uM1 uM2 ug1 ug2
      generalize K.contains pid = bk at *
      generalize G.contains pid = bg at *
      generalize K.contains en = bn at *
      by_cases h1 : kind < 1
      · rw [if_pos (Or.inl h1)] at hch
        have Hch := Lib.hid hch
        clear hch
        go_wp2
        go_ret
        exact ⟨ret_int Hch.out, (HR3.out _).2.2⟩
      by_cases h6 : 6 < kind
      · rw [if_pos (Or.inr h6)] at hch
        have Hch := Lib.hid hch
        clear hch
        go_wp2
        go_ret
        exact ⟨ret_int Hch.out, (HR3.out _).2.2⟩
      rw [if_neg (by omega)] at hch
      by_cases hb2 : (!bk || bg) = true
      · rw [if_pos hb2] at hch
        have Hch := Lib.hid hch
        clear hch
        cases bk <;> cases bg <;> first | (exact absurd hb2 (by decide)) | (
          go_wp2
          go_ret
          exact ⟨ret_int Hch.out, (HR3.out _).2.2⟩)
      rw [if_neg hb2] at hch
      have hbk : bk = true ∧ bg = false := by cases bk <;> cases bg <;> simp at hb2 ⊢
      obtain ⟨rfl, rfl⟩ := hbk
      clear hb2
      by_cases h3 : kind = 3
      · subst h3
        rw [if_pos rfl] at hch
        cases bn with
        | true =>
          rw [if_pos rfl] at hch
          have Hch := Lib.hid hch
          clear hch
          go_wp2
          go_ret
          exact ⟨ret_int Hch.out, (HR3.out _).2.2⟩
        | false =>
          rw [if_neg (by decide)] at hch
          have Hch := Lib.hid hch
          clear hch
          go_wp2
          exact ⟨⟨k + 1, K ++ [en], G, by go_num, by omega, Hch.out, HR1.out.1, HR1.out.2.1, HR1.out.2.2⟩, by simp [Lib.intOf]; omega⟩
      by_cases h4 : kind = 4
      · subst h4
        rw [if_neg (by decide), if_pos rfl] at hch
        have Hch := Lib.hid hch
        clear hch
        go_wp2
        exact ⟨⟨k + 1, K, G ++ [pid], by go_num, by omega, Hch.out, HR2.out.1, HR2.out.2.1, HR2.out.2.2⟩, by simp [Lib.intOf]; omega⟩
      · rw [if_neg h3, if_neg h4] at hch
        have Hch := Lib.hid hch
        have q3 : (kind == 3) = false := beq_eq_false_iff_ne.2 h3
        have q4 : (kind == 4) = false := beq_eq_false_iff_ne.2 h4
        clear hch h3 h4
        go_wp2
        exact ⟨⟨k + 1, K, G, by go_num, by omega, Hch.out, (HR3.out _).1, (HR3.out _).2.1, (HR3.out _).2.2⟩, by simp [Lib.intOf]; omega⟩
    · have hke : k = es.length := by omega
      subst hke
      have Hb := Lib.hid hbw
      rw [List.drop_length] at hch
      have Hch := Lib.hid (show 0 = checkF es [2] [] from hch)
      clear hbw hch hMK hMG
      go_wp2
      go_ret
      exact ⟨ret_int Hch.out, Hb.out⟩

end Go.Proofs.YtakejcabekdhcaaGreatDoor
