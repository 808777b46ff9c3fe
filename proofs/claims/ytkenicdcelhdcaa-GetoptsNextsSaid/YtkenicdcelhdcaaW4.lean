/- jobshellref16.Valid and find: what the calls return. -/
import Derived.Test.YtkenicdcelhdcaaW3
import Derived.Deep.QuietTactic
import Derived.BigQuiet
import Derived.WalkSmall
namespace Go.Proofs.Ytkenicdcelhdcaa
open Go.RowKit

theorem nodup_step {l : Bs} {i : Nat} (hi : i < l.length) : (l.take (i + 1)).Nodup ↔ (l.take i).Nodup ∧ ∀ j, j < i → l[j]? ≠ l[i]? := by
  rw [List.take_succ_eq_append_getElem hi, List.nodup_append]
  constructor
  · rintro ⟨h1, _, h3⟩
    refine ⟨h1, fun j hj e => ?_⟩
    have hjl : j < l.length := by omega
    rw [List.getElem?_eq_getElem hjl, List.getElem?_eq_getElem hi] at e
    injection e with e
    exact h3 l[j] (by rw [List.mem_take_iff_getElem]; exact ⟨j, by omega, rfl⟩) l[i] (by simp) e
  · rintro ⟨h1, h2⟩
    refine ⟨h1, by simp, fun a ha b hb e => ?_⟩
    simp at hb
    subst hb
    rw [List.mem_take_iff_getElem] at ha
    obtain ⟨j, hj, rfl⟩ := ha
    have hj' : j < i := by omega
    exact h2 j hj' (by rw [List.getElem?_eq_getElem (by omega), List.getElem?_eq_getElem hi, e])

theorem ps_len (l : Bs) : ∀ L, ps l = some L → L.length ≤ l.length := by
  induction l using ps.induct with
  | case1 => intro L h; simp [ps] at h; subst h; simp
  | case2 c h => intro L e; simp [ps, h] at e; subst e; simp
  | case3 c h => intro L e; simp [ps, h] at e
  | case4 c r h ih =>
    intro L e
    simp only [ps, h, if_true, Option.map_eq_some_iff] at e
    obtain ⟨M, hM, rfl⟩ := e
    have := ih M hM
    simp; omega
  | case5 c d r h hd ih =>
    intro L e
    simp only [ps, h, hd, if_true, if_false, Option.map_eq_some_iff] at e
    obtain ⟨M, hM, rfl⟩ := e
    have := ih M hM
    simp at this ⊢; omega
  | case6 c d r h => intro L e; simp [ps, h] at e

theorem body_len (l : Bs) : (body l).length ≤ l.length := by
  cases l with
  | nil => simp [body]
  | cons c r => by_cases hc : c = 58 <;> simp [body, hc]

theorem names_size {spec names : ByteArray} {L : List (UInt8 × Bool)} (hs : spec.size ≤ 100) (h : ps (body spec.data.toList) = some L) (hn : names.data.toList = L.map Prod.fst) : names.size = L.length ∧ L.length ≤ 100 := by
  have h1 := ps_len _ _ h
  have h2 := body_len spec.data.toList
  rw [← Lib.size_eq] at h2
  rw [Lib.size_eq, hn, List.length_map]
  omega

def ORel (s : ByteArray) (w : World) (i : Value) (wr : World) : Prop :=
  ∃ k : Nat, k ≤ s.size ∧ i = .int .i64 k ∧ (s.data.toList.take k).Nodup ∧ Below w.heap.size w wr
def IRel (s : ByteArray) (w : World) (i : Nat) (k : Value) (wr : World) : Prop :=
  ∃ j : Nat, j ≤ i ∧ k = .int .i64 j ∧ (∀ a, a < j → s.data.toList[a]? ≠ s.data.toList[i]?) ∧ Below w.heap.size w wr

theorem dup_not {s : ByteArray} {i j : Nat} (hj : j < s.size) (hi : i < s.size) (hji : j < i) (h : ((s[j].toNat : Int) == (s[i].toNat : Int)) = true) (hn : (s.data.toList).Nodup) : False := by
  have e : s[j] = s[i] := UInt8.toNat_inj.1 (by have := eq_of_beq h; omega)
  have e' : s.data.toList[j]'(by rw [← Lib.size_eq]; exact hj) = s.data.toList[i]'(by rw [← Lib.size_eq]; exact hi) := e
  exact List.pairwise_iff_getElem.1 hn j i _ _ hji e'

theorem ne_at {s : ByteArray} {i j : Nat} (hj : j < s.size) (hi : i < s.size) (h : ((s[j].toNat : Int) == (s[i].toNat : Int)) = false) : s.data.toList[j]? ≠ s.data.toList[i]? := by
  rw [List.getElem?_eq_getElem (by rw [← Lib.size_eq]; exact hj), List.getElem?_eq_getElem (by rw [← Lib.size_eq]; exact hi)]
  intro e
  injection e with e
  have e' : s[j] = s[i] := e
  rw [e'] at h
  simp at h

set_option maxRecDepth 100000 in
set_option maxHeartbeats 1000000 in
theorem refValid_any (spec : ByteArray) (w : World) (hs : spec.size ≤ 100) :
    Calls Try.prog 11 #[.string spec] w fun e w' => e = .returned (.int .i64 (validS spec.data.toList)) ∧ Below w.heap.size w w' := by
  go_enter Try.func11, Try.ntmps11
  go_wp2_with fail
  refine letters_any spec _ hs _ ?_ ?_
  · intro h w' hb
    have hT := Lib.hid (show validS spec.data.toList = 6 by rw [validS, h])
    clear h
    have Hb := Lib.hid hb
    clear hb
    go_wp2
    go_ret
    exact ⟨ret_int hT.out.symm, Hb.out⟩
  · intro L h names v w' hn hown hb
    have hT := Lib.hid (show validS spec.data.toList = if (names.data.toList).Nodup then 0 else 9 by rw [validS, h, hn])
    have hnz : names.size ≤ 100 := by have := names_size hs h hn; omega
    clear h hn hown
    have Hb := Lib.hid hb
    clear hb
    go_wp2
    go_loopw [6] (fun i wr => ORel names w i wr) (fun i _ => names.size - (intOf i).toNat)
    case atStart => exact ⟨0, Nat.zero_le _, rfl, by simp, Hb.out⟩
    case round =>
      obtain ⟨i, hi, rfl, hnd, hb⟩ := hrel
      have Hnd := Lib.hid hnd
      have Hbr := Lib.hid hb
      clear hnd hb
      by_cases hlt : i < names.size
      · go_wp2
        obtain ⟨wo, rfl⟩ : ∃ wo : World, wo = wr := ⟨_, rfl⟩
        go_loopw [7] (fun k wr => IRel names w i k wr) (fun k _ => i - (intOf k).toNat)
        case atStart => exact ⟨0, Nat.zero_le _, rfl, fun a ha => absurd ha (by omega), Hbr.out⟩
        case round =>
          obtain ⟨j, hj, rfl, hne, hb2⟩ := hrel
          have Hne := Lib.hid hne
          have Hb2 := Lib.hid hb2
          clear hne hb2
          by_cases hjl : j < i
          · have q1 : (j : Int) < (names.size : Int) := by omega
            have q2 : (0 : Int) ≤ (j : Int) := by omega
            have q3 : (i : Int) < (names.size : Int) := by omega
            have q4 : (0 : Int) ≤ (i : Int) := by omega
            have q5 : j < names.size := by omega
            by_cases heq : ((names[j].toNat : Int) == (names[i].toNat : Int)) = true
            · go_wp2
              go_quiet (fail)
              go_wp2
              go_ret
              exact ⟨ret_int (by rw [hT.out, if_neg]; exact fun h => dup_not q5 hlt hjl heq h), below_drewN Hb2.out _⟩
            · have heq' : ((names[j].toNat : Int) == (names[i].toNat : Int)) = false := by simpa using heq
              clear heq
              go_wp2
              go_quiet (fail)
              go_wp2
              exact ⟨⟨j + 1, by omega, by go_num, fun a ha => (Nat.lt_succ_iff_lt_or_eq.1 ha).elim (fun h => Hne.out a h) (fun h => by subst h; exact ne_at q5 hlt heq'), below_drewN Hb2.out _⟩, by simp [intOf]; omega⟩
          · go_wp2
            exact ⟨⟨i + 1, by omega, by go_num, (nodup_step (by rw [← Lib.size_eq]; omega)).2 ⟨Hnd.out, fun a ha => Hne.out a (by omega)⟩, Hb2.out⟩, by simp [intOf]; omega⟩
      · go_wp2
        go_ret
        exact ⟨ret_int (by rw [hT.out, if_pos]; have := Hnd.out; rwa [List.take_of_length_le (by rw [← Lib.size_eq]; omega)] at this), Hbr.out⟩


theorem find_at {L : List (UInt8 × Bool)} {b : UInt8} {k : Nat} (hk : k < L.length) (h : ∀ j, j < k → L[j]?.map Prod.fst ≠ some b) (he : L[k].1 = b) : find L b = some L[k].2 := by
  induction L generalizing k with
  | nil => simp at hk
  | cons x M ih =>
    cases k with
    | zero => simp at he; simp [find, he]
    | succ k =>
      have h0 : x.1 ≠ b := by have := h 0 (by omega); simpa using this
      have := ih (k := k) (by simpa using hk) (fun j hj => by have := h (j + 1) (by omega); simpa using this) (by simpa using he)
      simp only [find, List.find?_cons] at this ⊢
      rw [beq_eq_false_iff_ne.2 h0]
      simpa using this

theorem find_none {L : List (UInt8 × Bool)} {b : UInt8} (h : ∀ j, j < L.length → L[j]?.map Prod.fst ≠ some b) : find L b = none := by
  rw [find, Option.map_eq_none_iff, List.find?_eq_none]
  intro x hx
  obtain ⟨j, hj, rfl⟩ := List.getElem_of_mem hx
  have := h j hj
  rw [List.getElem?_eq_getElem hj] at this
  simpa using this

set_option maxRecDepth 100000 in
set_option maxHeartbeats 1000000 in
theorem find_any (spec : ByteArray) (b : UInt8) (L : List (UInt8 × Bool)) (w : World) (hs : spec.size ≤ 100) (hL : ps (body spec.data.toList) = some L) :
    Calls Try.prog 24 #[.string spec, .int .u8 b.toNat] w fun e w' => e = .returned (.tuple #[.bool (find L b).isSome, .bool ((find L b).getD false)]) ∧ Below w.heap.size w w' := by
  have HL := Lib.hid hL
  clear hL
  go_enter Try.func24, Try.ntmps24
  go_wp2_with fail
  refine letters_any spec _ hs _ ?_ ?_
  · intro h w' hb
    rw [HL.out] at h
    cases h
  · intro M h names v w1 hn hown hb
    rw [HL.out] at h
    injection h with h
    subst h
    have hnz := names_size hs HL.out hn
    have Hn := Lib.hid hn
    have Hown := Lib.hid hown
    have Hb := Lib.hid hb
    clear hn hown hb
    have hnz2 := hnz.2
    have Hnz := Lib.hid hnz.1
    have hle : names.size ≤ 100 := by omega
    clear hnz
    go_wp2
    go_loop [9] (fun i => ∃ k : Nat, k ≤ L.length ∧ i = .int .i64 k ∧ Hid (∀ j, j < k → L[j]?.map Prod.fst ≠ some b)) (fun i => names.size - (intOf i).toNat)
    case atStart => exact ⟨0, Nat.zero_le _, rfl, fun j hj => absurd hj (by omega)⟩
    case round =>
      obtain ⟨k, hk, rfl, hne⟩ := hrel
      by_cases hlt : k < names.size
      · have hkL : k < L.length := by have := Hnz.out; omega
        have hbk : Hid (names[k] = L[k].1) := by
          have h1 : names.data.toList[k]'(by rw [← Lib.size_eq]; exact hlt) = names[k] := rfl
          show _ = _
          rw [← h1]
          simp [Hn.out]
        by_cases heq : ((names[k].toNat : Int) == (b.toNat : Int)) = true
        · have hT : Hid (find L b = some L[k].2) := find_at hkL hne.out (by rw [← hbk.out]; exact UInt8.toNat_inj.1 (by have := eq_of_beq heq; omega))
          have hform : ∃ g cap, v = .slice (some ⟨g, 0, none⟩) L.length cap := by
            rcases Hown.out.2 with ⟨_, h0⟩ | ⟨g, cap, _, h, _⟩
            · omega
            · exact ⟨g, cap, h⟩
          obtain ⟨g, cap, hv⟩ := hform
          rw [hv] at Hown
          rw [hv]
          clear hv
          have hcl := Hown.out.cellAt k (by omega)
          have e1 : (marks L)[k]? = some (.bool L[k].2) := by simp [marks, hkL]
          rw [e1] at hcl
          clear e1
          have q1 : (k : Int) < (L.length : Int) := by omega
          have q2 : (0 : Int) ≤ (k : Int) := by omega
          generalize L[k].2 = x at *
          go_wp2
          go_quiet (fail)
          go_wp2
          go_ret2
          exact ⟨by rw [hT.out]; rfl, below_drewN Hb.out _⟩
        · have heq' : ((names[k].toNat : Int) == (b.toNat : Int)) = false := by simpa using heq
          clear heq
          have hne' : Hid (L[k]?.map Prod.fst ≠ some b) := by
            show _ ≠ _
            rw [List.getElem?_eq_getElem hkL, Option.map_some, ← hbk.out]
            intro e
            injection e with e
            rw [e] at heq'
            simp at heq'
          go_wp2
          exact ⟨⟨k + 1, by omega, by go_num, fun j hj => (Nat.lt_succ_iff_lt_or_eq.1 hj).elim (fun h => hne.out j h) (fun h => by subst h; exact hne'.out)⟩, by simp [intOf]; omega⟩
      · have hT : Hid (find L b = none) := find_none fun j hj => hne.out j (by have := Hnz.out; omega)
        go_wp2
        go_ret2
        exact ⟨by rw [hT.out]; rfl, Hb.out⟩

end Go.Proofs.Ytkenicdcelhdcaa
