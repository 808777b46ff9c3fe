/- GetoptsOperands: the walk of the law. -/
import Derived.Test.YtkenicdcelhdcaaW14
import Derived.Laws.AppendOwnNone
namespace Go.Proofs.Ytkenicdcelhdcaa
open Go.RowKit

theorem Try.info9 : (Try.prog.info? 9).map (fun i => (i.zero, i.size, i.bytes)) = some (some (.string ⟨#[]⟩), 1, 16) := by kernel_rfl

def strVs (ss : List ByteArray) : List Value := ss.map fun s => Value.string s

theorem Strs.cells {w : World} {B n : Nat} {A : Option Addr} {ss : List ByteArray} (h : Strs w B A n ss) {ad : Addr} (hA : A = some ad) : ∀ j u, (strVs ss)[j]? = some u → w.cell? (ad.add j) = some u := by
  intro j u hu
  have hj : j < ss.length := by
    rcases Nat.lt_or_ge j ss.length with h | h
    · exact h
    · rw [List.getElem?_eq_none (by simpa [strVs] using h)] at hu; cases hu
  obtain ⟨b, off, hA', _, hc⟩ := h.2 (by omega)
  rw [hA] at hA'
  injection hA' with hA'
  subst hA'
  have e : (⟨b, off, none⟩ : Addr).add j = ⟨b, off + j, none⟩ := by
    unfold Addr.add
    by_cases h0 : j = 0
    · simp [h0]
    · simp [h0]
  rw [e, hc j hj, ← hu]
  simp [strVs, hj]

/-- 'append(v, args...)' of strings to a row of the call's own, nil or not. -/
theorem append_strs {w : World} {ops : Array Oper} {rest : List Oper} {o : Oper} {a : Act} {Q : Exit → Act → World → Prop} (hgd : o.guard = none) (s x : Operand)
    (ho : o.op = .call { callee := .builtin .append, args := #[s, x], argTypes := #[27, 27] }) (base : Nat) (v : Value) (n : Nat) (xs : List Value) (hs : a.eval s = v) (hown : w.ownsRow base 9 1 v n xs)
    (A : Option Addr) (m c : Nat) (ss : List ByteArray) (hx : a.eval x = .slice A m c) (B : Nat) (hS : Strs w B A m ss) (hnil : A = none → c = 0) (hnm : n + m ≤ 1000) (hbase : base ≤ w.heap.size)
    (h : ∀ v' w', w'.ownsRow base 9 1 v' (n + m) (xs ++ strVs ss) → w.grownBy w' v.ownBlock → wpList Try.prog ops Q rest (a.put o.dst v') w') : wpList Try.prog ops Q (o :: rest) a w := by
  obtain ⟨i0, hi, hz0, hz1, hz2⟩ := info_parts Try.info9
  cases A with
  | none =>
    have hm : m = 0 := by
      rcases Nat.eq_zero_or_pos m with h0 | h0
      · exact h0
      · obtain ⟨b, off, hb, _⟩ := hS.2 (by have := hS.1; omega)
        cases hb
    have hc := hnil rfl
    subst hm hc
    have hss : ss = [] := List.eq_nil_of_length_eq_zero hS.1.symm
    subst hss
    refine wpList_append_own_none hgd s x 27 ho base 9 i0 1 Try.underlying27 hi v n xs hs hown hx (h v w ?_ ?_)
    · simpa [strVs] using hown
    · exact ⟨rfl, rfl, rfl, Nat.le_refl _, fun _ _ _ => rfl⟩
  | some ad =>
    refine wpList_append_own w hgd s x 27 ho base 9 i0 _ 1 16 Try.underlying27 hi hz0 hz1 hz2 rfl (by decide) v n xs hs hown ad m c (strVs ss) hx (by rw [hS.1]; simp [strVs]) (hS.cells rfl) (fun u hu => ?_) (by unfold maxLen; omega) (by omega) hbase (fun v' w' h1 h2 _ => h v' w' h1 h2)
    simp only [strVs, List.mem_map] at hu
    obtain ⟨s', _, rfl⟩ := hu
    rfl

theorem owns_strs {w : World} {B n : Nat} {v : Value} {l : List ByteArray} (h : w.ownsRow B 9 1 v n (strVs l)) : ∃ V c, v = .slice V n c ∧ Strs w w.heap.size V n l ∧ (V = none → c = 0) := by
  have hl : n = l.length := by have := h.1; simp [strVs] at this; omega
  rcases h.2 with ⟨hv, h0⟩ | ⟨g, cap, cur, hv, _⟩
  · exact ⟨none, 0, by rw [hv, h0], ⟨hl, fun h => by omega⟩, fun _ => rfl⟩
  · subst hv
    refine ⟨_, cap, rfl, ⟨hl, fun _ => ⟨g, 0, rfl, (h.lt g rfl).2, fun k hk => ?_⟩⟩, fun h => by cases h⟩
    rw [Nat.zero_add, h.cellAt k (by omega)]
    simp [strVs, hk]

theorem strs_one (w : World) (s : ByteArray) : Strs (w.alloc (.cells #[.string s] 9)) (w.alloc (.cells #[.string s] 9)).heap.size (some ⟨w.heap.size, 0, none⟩) 1 [s] := strs_new w [s] _ rfl

theorem strVs_app (a b : List ByteArray) : strVs a ++ strVs b = strVs (a ++ b) := by simp [strVs]

theorem bytes_app (a b : List ByteArray) : bytesOf' (a ++ b) = bytesOf' a ++ bytesOf' b := by simp [bytesOf']

theorem below_own {N : Nat} {w w1 w2 : World} {v : Value} {n : Nat} {xs : List Value} (h : Below N w w1) (hown : w1.ownsRow N 9 1 v n xs) (o : Obj) (hg : (w1.alloc o).grownBy w2 v.ownBlock) (hN : N ≤ w1.heap.size) : Below N w w2 :=
  (h.alloc hN o).grown hg (by simp; omega) (fun k hk => (hown.lt k hk).1)

def opB : ByteArray := ⟨#[111, 112, 101, 114, 97, 110, 100]⟩
theorem opB_list : bytesOf' [opB] = [operandW] := rfl

theorem all_operands {spec : Bs} {args more : List Bs} (hv : validS spec = 0) (hk : (allS spec (args ++ [operandW])).2.1 ≤ args.length) : allS spec (args ++ [operandW] ++ more) = allS spec (args ++ [operandW]) := by
  rw [allS_eq hv] at hk
  rw [allS_eq hv, allS_eq hv, run_operands hv _ (1, 0) (inR_start _) (Nat.le_refl _) ?_ (by simp only [] at hk; omega) (inR_start _)]
  rcases Nat.eq_zero_or_pos args.length with h | h
  · right; simp [h]
  · left; simp only []; omega

theorem below_grown {N : Nat} {w w1 w2 : World} {g : Nat} (h : Below N w w1) (hg : w1.grownBy w2 (some g)) (hN : N ≤ w1.heap.size) (hgN : N ≤ g) : Below N w w2 :=
  h.grown hg hN (fun k hk => by injection hk with hk; omega)

set_option maxRecDepth 100000 in
set_option maxHeartbeats 2000000 in
theorem law_operands_small (spec : ByteArray) (ss ms : List ByteArray) (A A' : Option Addr) (n cap n' cap' : Nat) (w : World) (hA : Strs w w.heap.size A n ss) (hA' : Strs w w.heap.size A' n' ms) (hs : spec.size ≤ 40) (hsh : shB ss = true) (hsm : shB ms = true) (hnil : A = none → cap = 0) (hnil' : A' = none → cap' = 0) :
    Calls Try.prog 7 #[.string spec, .slice A n cap, .slice A' n' cap'] w fun e w' => e = .returned (.bool true) ∧ Below w.heap.size w w' := by
  have hsh' := shB_true hsh
  have hsm' := shB_true hsm
  have hn : n ≤ 12 := by rw [hA.1]; exact hsh'.1
  have hn' : n' ≤ 12 := by rw [hA'.1]; exact hsm'.1
  have hS := Lib.hid (small_any spec ss A n cap w hA (by unfold maxLen; omega) (fun s h => by have := hsh'.2 s h; unfold maxLen; omega) (by unfold maxLen; omega))
  rw [show smB spec ss = true by simp [smB, hs, hsh]] at hS
  have hS2 := Lib.hid (short_any ms A' n' cap' w hA' (by unfold maxLen; omega) (fun s h => by have := hsm'.2 s h; unfold maxLen; omega))
  rw [hsm] at hS2
  have HA := Lib.hid hA
  have HA' := Lib.hid hA'
  clear hA hA'
  go_enter Try.func7, Try.ntmps7
  go_wp2_with (first | (go_at_call 12; refine (hS.out).mono ?_; rintro e w' ⟨rfl, rfl⟩) | (go_at_call 18; refine (hS2.out).mono ?_; rintro e w' ⟨rfl, rfl⟩) | (at_builtin; refine append_strs rfl (.tmp 24) (.tmp 25) rfl w.heap.size _ 0 [] rfl (World.ownsRow_lit w #[] 0 (Nat.le_refl _) (by unfold maxLen; omega) rfl) A n cap ss rfl _ (HA.out.below ((Below.refl _ _).alloc (Nat.le_refl _) _)) hnil (by omega) (by simp) ?_; intro v1 w1 hown1 hg1; rw [Nat.zero_add, List.nil_append] at hown1; have Hg1 := Lib.hid (below_grown ((Below.refl w.heap.size w).alloc (Nat.le_refl _) (.cells #[] 9)) hg1 (by simp) (Nat.le_refl _)); have Hown1 := Lib.hid hown1; clear hg1 hown1) | (at_builtin; refine append_strs rfl (.tmp 26) (.tmp 27) rfl w.heap.size _ n _ rfl (Hown1.out.alloc _) _ 1 1 [⟨#[111, 112, 101, 114, 97, 110, 100]⟩] rfl _ (strs_one w1 _) (fun h => by cases h) (by omega) (by have := Hg1.out.size; simp; omega) ?_; intro v2 w2 hown2 hg2; rw [strVs_app] at hown2; have Hb2 := Lib.hid (below_own Hg1.out Hown1.out _ hg2 Hg1.out.size); obtain ⟨V2, c2, hv2, hS2', hnil2⟩ := owns_strs hown2; rw [hv2]; have HS2 := Lib.hid hS2'; have Hnil2 := Lib.hid hnil2; clear hg2 hown2 hv2 hS2' hnil2))
  have hz1 : ∀ s ∈ ss ++ [opB], s.size ≤ 40 := fun s h => by
    rcases List.mem_append.1 h with h | h
    · exact hsh'.2 s h
    · simp at h; subst h; decide
  have hz2 : ∀ s ∈ ss ++ [opB] ++ ms, s.size ≤ 40 := fun s h => by
    rcases List.mem_append.1 h with h | h
    · exact hz1 s h
    · exact hsm'.2 s h
  have hl1 : (ss ++ [opB]).length ≤ 30 := by simp; have := hsh'.1; omega
  have hl2 : (ss ++ [opB] ++ ms).length ≤ 30 := by simp; have := hsh'.1; have := hsm'.1; omega
  have hmu1 := mu_small hl1 hz1
  have hmu2 := mu_small hl2 hz2
  refine (all_any spec (ss ++ [opB]) V2 (n + 1) c2 w2 HS2.out (by omega) (fun s h => by have := hz1 s h; omega) (by omega) (by omega)).mono ?_
  rintro e w3 ⟨vL, rfl, hownL, hb3⟩
  have hop := fun hv hk => all_operands (spec := spec.data.toList) (args := bytesOf' ss) (more := bytesOf' ms) hv hk
  rw [← opB_list, ← bytes_app, ← bytes_app, bytes_len, ← HA.out.1] at hop
  have hlen := all_len (spec := spec.data.toList) (args := bytesOf' (ss ++ [opB])) 1230 hmu1
  have hev : (allS spec.data.toList (bytesOf' (ss ++ [opB]))).2.2 = validS spec.data.toList := by
    by_cases hv : validS spec.data.toList = 0
    · rw [allS_eq hv, hv]
    · rw [allS, if_pos hv]
  have hAll2 := Lib.hid (fun W V c hSt => all_any spec (ss ++ [opB] ++ ms) V (n + 1 + n') c W hSt (by omega) (fun s h => by have := hz2 s h; omega) (by omega) (by omega))
  generalize allS spec.data.toList (bytesOf' (ss ++ [opB])) = r1 at *
  obtain ⟨l, k, e1⟩ := r1
  simp only [] at hownL hop hlen hev
  obtain ⟨VL, cL, hvL, hOL⟩ := owns_opts hownL
  rw [hvL]
  have HOL := Lib.hid hOL
  have Hb3 := Lib.hid hb3
  have Hbw3 := Lib.hid (Hb2.out.trans (hb3.mono Hb2.out.size))
  clear hvL hownL hOL hb3 hz1 hz2 hl1 hl2 hmu1 hmu2 hsh hsm hsh' hsm'
  simp only []
  by_cases he : e1 = 0
  · subst he
    by_cases hk : k ≤ n
    · have hr := hop hev.symm hk
      rw [hr] at hAll2
      clear hop hr hev
      go_wp2_with (first | (at_builtin; refine append_strs rfl (.tmp 47) (.tmp 48) rfl w3.heap.size _ 0 [] rfl (World.ownsRow_lit w3 #[] 0 (Nat.le_refl _) (by unfold maxLen; omega) rfl) V2 (n + 1) c2 (ss ++ [opB]) rfl _ ((HS2.out.below Hb3.out).keep (fun p hp => World.cell?_alloc_lt w3 _ p (Nat.lt_of_lt_of_le hp Hb3.out.size))) Hnil2.out (by omega) (by simp) ?_; intro v4 w4 hown4 hg4; rw [Nat.zero_add, List.nil_append] at hown4; have Hg4 := Lib.hid (below_grown ((Below.refl w3.heap.size w3).alloc (Nat.le_refl _) (.cells #[] 9)) hg4 (by simp) (Nat.le_refl _)); have Hown4 := Lib.hid hown4; clear hg4 hown4) | (at_builtin; refine append_strs rfl (.tmp 49) (.tmp 50) rfl w3.heap.size _ (n + 1) _ rfl Hown4.out A' n' cap' ms rfl _ (HA'.out.below (Hbw3.out.trans (Hg4.out.mono Hbw3.out.size))) hnil' (by omega) Hg4.out.size ?_; intro v5 w5 hown5 hg5; rw [strVs_app] at hown5; have Hb5 := Lib.hid (Hg4.out.grown hg5 Hg4.out.size (fun k hk => (Hown4.out.lt k hk).1)); obtain ⟨V5, c5, hv5, hS5, _⟩ := owns_strs hown5; rw [hv5]; have HS5 := Lib.hid hS5; clear hg5 hown5 hv5 hS5))
      refine (hAll2.out w5 V5 c5 HS5.out).mono ?_
      rintro e w6 ⟨vM, rfl, hownM, hb6⟩
      simp only [] at hownM
      obtain ⟨VM, cM, hvM, hOM⟩ := owns_opts hownM
      rw [hvM]
      have HOM := Lib.hid hOM
      have Hb36 := Lib.hid (Hb5.out.trans (hb6.mono Hb5.out.size))
      clear hvM hownM hOM hb6
      simp only []
      go_wp2_with (first | (go_at_call 17; refine (same_any l _ _ _ _ _ (HOL.out.later Hb36.out) HOM.out (by omega)).mono ?_; rintro e' w7 ⟨rfl, hb7⟩; have Hb7 := Lib.hid hb7; clear hb7) | (go_at_call 9; refine (awake_any _).mono ?_; rintro e' w9 ⟨rfl, hb9⟩; have Hb9 := Lib.hid hb9; clear hb9))
      go_ret
      have h6 := Hbw3.out.trans (Hb36.out.mono Hbw3.out.size)
      have h7 := h6.trans (Hb7.out.mono h6.size)
      exact ⟨rfl, h7.trans (Hb9.out.mono h7.size)⟩
    · have hk' : decide ((n : Int) < k) = true := by simp; omega
      clear hop hev
      go_wp2_with (go_at_call 9; refine (awake_any _).mono ?_; rintro e' w9 ⟨rfl, hb9⟩; have Hb9 := Lib.hid hb9; clear hb9)
      go_ret
      exact ⟨rfl, Hbw3.out.trans (Hb9.out.mono Hbw3.out.size)⟩
  · have he' : (e1 != 0) = true := by simpa using he
    clear he hop hev
    go_wp2_with (go_at_call 9; refine (awake_any _).mono ?_; rintro e' w9 ⟨rfl, hb9⟩; have Hb9 := Lib.hid hb9; clear hb9)
    go_ret
    exact ⟨rfl, Hbw3.out.trans (Hb9.out.mono Hbw3.out.size)⟩

end Go.Proofs.Ytkenicdcelhdcaa
