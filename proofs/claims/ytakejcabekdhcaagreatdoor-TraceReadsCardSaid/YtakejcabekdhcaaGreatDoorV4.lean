/- The reference's has and Check: what each call returns. -/
import Derived.Test.YtakejcabekdhcaaGreatDoorV3
import Derived.Maps.AppendAt
namespace Go.Proofs.YtakejcabekdhcaaGreatDoor
open Go.RowKit Go.Maps

def intVs (l : List Int) : List Value := l.map fun n => Value.int .i64 n
/-- The slice value '.slice A n c' holds the numbers l. -/
def Ints (w : World) (A : Option Addr) (n : Nat) (l : List Int) : Prop :=
  n = l.length ∧ (0 < l.length → ∃ b off, A = some ⟨b, off, none⟩ ∧ ∀ k (hk : k < l.length), w.cell? ⟨b, off + k, none⟩ = some (.int .i64 l[k]))
theorem owns_ints {w : World} {B : Nat} {v : Value} {l : List Int} (h : w.ownsRow B 3 1 v l.length (intVs l)) : ∃ V c, v = .slice V l.length c ∧ Ints w V l.length l := by
  rcases h.2 with ⟨hv, h0⟩ | ⟨g, cap, cur, hv, _⟩
  · exact ⟨none, 0, by rw [hv, h0], ⟨rfl, fun h => by omega⟩⟩
  · subst hv
    refine ⟨_, cap, rfl, ⟨rfl, fun _ => ⟨g, 0, rfl, fun k hk => ?_⟩⟩⟩
    rw [Nat.zero_add, h.cellAt k (by omega)]
    simp [intVs, hk]

theorem has_more {l : List Int} {k : Nat} {n : Int} (hk : k < l.length) (hn : n ∉ l.take k) (he : (l[k] == n) = false) : n ∉ l.take (k + 1) := by
  rw [List.take_succ_eq_append_getElem hk]
  intro hm
  rcases List.mem_append.1 hm with hm | hm
  · exact hn hm
  · have : n = l[k] := List.mem_singleton.1 hm
    rw [this] at he
    simp at he
theorem has_hit {l : List Int} {k : Nat} {n : Int} (hk : k < l.length) (he : (l[k] == n) = true) : true = l.contains n := by
  have : n ∈ l := by rw [← eq_of_beq he]; exact List.getElem_mem hk
  simpa using this
theorem has_none {l : List Int} {k : Nat} {n : Int} (hk : ¬ k < l.length) (hn : n ∉ l.take k) : false = l.contains n := by
  rw [List.take_of_length_le (by omega)] at hn
  symm
  simpa using hn

set_option maxHeartbeats 1000000 in
set_option maxRecDepth 100000 in
theorem has_any (l : List Int) (A : Option Addr) (cap : Nat) (n : Int) (w : World) (hA : Ints w A l.length l) (hl : l.length ≤ 1000) :
    Calls Tryz.prog 23 #[.slice A l.length cap, .int .i64 n] w fun e w' => e = .returned (.bool (l.contains n)) ∧ w = w' := by
  have HA := Lib.hid hA
  generalize hr : l.contains n = r
  have Hr := Lib.hid hr
  clear hr hA
  go_enter Tryz.func23, Tryz.ntmps23
  go_wp2
  go_loop [9] (fun i => ∃ k : Nat, i = .int .i64 k ∧ k ≤ l.length ∧ Hid (n ∉ l.take k)) (fun i => l.length - (Lib.intOf i).toNat)
  case atStart => exact ⟨0, rfl, Nat.zero_le _, by simp [Hid]⟩
  case round =>
    obtain ⟨k, rfl, hk, hn⟩ := hrel
    by_cases hlt : k < l.length
    · obtain ⟨b, off, rfl, hc⟩ := HA.out.2 (by omega)
      have hcell := hc k hlt
      have hhit := Lib.hid (fun he => (has_hit (n := n) hlt he).trans Hr.out)
      have hmore := Lib.hid (has_more hlt hn.out)
      clear hc
      generalize l[k] = x at *
      cases he : (x == n) with
      | true =>
        have ht := Lib.hid (hhit.out he)
        go_wp2
        go_ret
        exact ⟨ret_bool ht.out, rfl⟩
      | false =>
        have ht := Lib.hid (hmore.out he)
        go_wp2
        go_round
        case rel => exact ⟨k + 1, by go_num, by omega, ht⟩
        case measure => simp [Lib.intOf]; omega
    · have ht := Lib.hid ((has_none hlt hn.out).trans Hr.out)
      have hke : k = l.length := by omega
      subst hke
      go_wp2
      go_ret
      exact ⟨ret_bool ht.out, rfl⟩
theorem has_own {w : World} {B : Nat} {v : Value} {l : List Int} (h : w.ownsRow B 3 1 v l.length (intVs l)) (hl : l.length ≤ 1000) (n : Int) :
    Calls Tryz.prog 23 #[v, .int .i64 n] w fun e w' => e = .returned (.bool (l.contains n)) ∧ w = w' := by
  obtain ⟨V, c, rfl, hI⟩ := owns_ints h
  exact has_any l V c n w hI hl

/-- What the reference's Check carries from round to round. -/
def JRel (es : List Evn) (w : World) (v u i : Value) (wr : World) : Prop :=
  ∃ (k : Nat) (K G : List Int), i = .int .i64 k ∧ k ≤ es.length ∧ checkF (es.drop k) K G = checkF es [2] [] ∧ K.length ≤ k + 1 ∧ G.length ≤ k ∧ wr.ownsRow w.heap.size 3 1 v K.length (intVs K) ∧ wr.ownsRow w.heap.size 3 1 u G.length (intVs G) ∧
    (u.ownBlock = none ∨ v.ownBlock = none ∨ u.ownBlock ≠ v.ownBlock) ∧ Below w.heap.size w wr
theorem intVs_app (K : List Int) (n : Int) : intVs K ++ [Value.int .i64 n] = intVs (K ++ [n]) := by simp [intVs]
theorem kind_kept {wr w3 : World} {B n : Nat} {v a0 a1 a2 a3 a4 : Value} {xs : List Value} {Y : Obj} (hown : wr.ownsRow B 3 1 v n xs) (hg : ((wr.alloc (.cells #[a0, a1, a2, a3, a4] 39)).alloc Y).grownBy w3 v.ownBlock) : w3.cell? ⟨wr.heap.size, 1, none⟩ = some a1 := by
  have h1 : wr.heap.size < ((wr.alloc (.cells #[a0, a1, a2, a3, a4] 39)).alloc Y).heap.size := by simp; omega
  have h2 : w3.heap[wr.heap.size]? = some (.cells #[a0, a1, a2, a3, a4] 39) := by
    rw [hg.block wr.heap.size h1 (fun e => by have := (hown.lt _ e.symm).2; omega), heap_alloc_old _ _ (by simp), heap_alloc_new]
  rw [Lib.cell_of_heap h2]
  rfl
theorem apart_symm {u v : Value} (h : u.ownBlock = none ∨ v.ownBlock = none ∨ u.ownBlock ≠ v.ownBlock) : v.ownBlock = none ∨ u.ownBlock = none ∨ v.ownBlock ≠ u.ownBlock := by
  rcases h with h | h | h
  · exact Or.inr (Or.inl h)
  · exact Or.inl h
  · exact Or.inr (Or.inr (fun e => h e.symm))
theorem apart_next {W W' : World} {B : Nat} {v u v' : Value} {n : Nat} {xs : List Value} (hu : W.ownsRow B 3 1 u n xs) (hap : u.ownBlock = none ∨ v.ownBlock = none ∨ u.ownBlock ≠ v.ownBlock) (hg : W.grownBy W' v.ownBlock)
    (hat : v'.ownBlock = v.ownBlock ∨ v'.ownBlock = some W.heap.size) : W'.ownsRow B 3 1 u n xs ∧ (u.ownBlock = none ∨ v'.ownBlock = none ∨ u.ownBlock ≠ v'.ownBlock) := by
  have hne : u.ownBlock = none ∨ u.ownBlock ≠ v.ownBlock := by
    rcases hap with h | h | h
    · exact Or.inl h
    · cases hu' : u.ownBlock with
      | none => exact Or.inl rfl
      | some g => exact Or.inr (by rw [h]; simp)
    · exact Or.inr h
  refine ⟨hu.kept hg hne, ?_⟩
  rcases hat with h | h
  · rw [h]; exact hap
  · cases hu' : u.ownBlock with
    | none => exact Or.inl rfl
    | some g =>
      right; right
      rw [h]
      intro e
      injection e with e
      have := (hu.lt g hu').2
      omega

set_option maxHeartbeats 1000000 in
set_option maxRecDepth 100000 in
theorem refCheck_any (es : List Evn) (A : Option Addr) (n cap : Nat) (w : World) (hA : Evs w w.heap.size A n es) (hn : n ≤ 60) :
    Calls Tryz.prog 15 #[.slice A n cap] w fun e w' => e = .returned (.int .i64 (checkF es [2] [])) ∧ Below w.heap.size w w' := by
  obtain ⟨i0, hi, hz0, hz1, hz2⟩ := info_parts info3
  obtain rfl := hA.1
  have HA := Lib.hid hA
  clear hA
  go_enter Tryz.func15, Tryz.ntmps15
  go_wp2_with (at_builtin; refine wpList_append_own_at _ rfl _ _ 35 rfl w.heap.size 3 i0 _ 1 8 Tryz.underlying35 hi hz0 hz1 hz2 rfl (by decide) _ 0 [] rfl (World.ownsRow_nil _ _ _ _) ⟨w.heap.size, 0, none⟩ 1 1 [.int .i64 2] rfl rfl (cell_one_new rfl _ _) (by simp [Value.oneCell']) (by unfold maxLen; omega) (by omega) (by simp) ?_; intro v0 w1 hown0 hg0 _ hat0; have Hown0 := Lib.hid hown0; have Hg0 := Lib.hid hg0; clear hown0 hg0 hat0)
  go_loopw [3, 4, 12] (fun v u i wr => JRel es w v u i wr) (fun _ _ i wr => es.length - (Lib.intOf i).toNat)
  case atStart => exact ⟨0, [2], [], rfl, Nat.zero_le _, rfl, by simp, by simp, Hown0.out, World.ownsRow_nil _ _ _ _, Or.inl rfl, ((Below.refl w.heap.size w).alloc (Nat.le_refl _) _).grown Hg0.out (by simp) (fun q hq => by cases hq)⟩
  case round =>
    obtain ⟨k, K, G, rfl, hk, hch, hKl, hGl, hoK, hoG, hap, hbw⟩ := hrel
    have hsw := hbw.size
    by_cases hkn : k < es.length
    · obtain ⟨b, off, rfl, hb, hc⟩ := (HA.out.below hbw).2 (by omega)
      obtain ⟨c0, c1, c2, c3, c4⟩ := hc k hkn
      have hbw' : b < wr.heap.size := Nat.lt_of_lt_of_le hb hbw.size
      have Hb := Lib.hid hbw
      rw [List.drop_eq_getElem_cons hkn] at hch
      clear hc hbw
      generalize es[k] = f at *
      obtain ⟨pid, kind, pos, en, text⟩ := f
      simp only [checkF] at c0 c1 c2 c3 c4 hch
      have l1 := Lib.hid (fun o => has_own (hoK.alloc o) (by omega) pid)
      have l2 := Lib.hid (fun o => has_own (hoG.alloc o) (by omega) pid)
      have l3 := Lib.hid (fun o => has_own (hoK.alloc o) (by omega) en)
      have HK := Lib.hid hoK
      have HG := Lib.hid hoG
      have HP := Lib.hid hap
      have HP' := Lib.hid (apart_symm hap)
      clear hoK hoG hap
      generalize K.contains pid = bk at *
      generalize G.contains pid = bg at *
      generalize K.contains en = bn at *
      by_cases h1 : kind < 1
      · rw [if_pos (Or.inl h1)] at hch
        have Hch := Lib.hid hch
        clear hch
        go_wp2
        go_ret
        exact ⟨ret_int Hch.out, Hb.out.alloc hsw _⟩
      by_cases h6 : 6 < kind
      · rw [if_pos (Or.inr h6)] at hch
        have Hch := Lib.hid hch
        clear hch
        go_wp2
        go_ret
        exact ⟨ret_int Hch.out, Hb.out.alloc hsw _⟩
      rw [if_neg (by omega)] at hch
      by_cases hb2 : (!bk || bg) = true
      · rw [if_pos hb2] at hch
        have Hch := Lib.hid hch
        clear hch
        cases bk with
        | false =>
          go_wp2_with fail
          refine (l1.out _).mono ?_
          rintro e w' ⟨rfl, rfl⟩
          go_wp2_with fail
          go_ret
          exact ⟨ret_int Hch.out, Hb.out.alloc hsw _⟩
        | true =>
          cases bg with
          | false => exact absurd hb2 (by decide)
          | true =>
            go_wp2_with fail
            refine (l1.out _).mono ?_
            rintro e w' ⟨rfl, rfl⟩
            go_wp2_with fail
            refine (l2.out _).mono ?_
            rintro e w' ⟨rfl, rfl⟩
            go_wp2_with fail
            go_ret
            exact ⟨ret_int Hch.out, Hb.out.alloc hsw _⟩
      rw [if_neg hb2] at hch
      have hbk : bk = true ∧ bg = false := by cases bk <;> cases bg <;> simp at hb2 ⊢
      obtain ⟨rfl, rfl⟩ := hbk
      clear hb2
      by_cases h3 : kind = 3
      · subst h3
        rw [if_pos rfl] at hch
        cases bn with
        | true =>
          rw [if_pos rfl] at hch
          have Hch := Lib.hid hch
          clear hch
          go_wp2_with fail
          refine (l1.out _).mono ?_
          rintro e w' ⟨rfl, rfl⟩
          go_wp2_with fail
          refine (l2.out _).mono ?_
          rintro e w' ⟨rfl, rfl⟩
          go_wp2_with fail
          refine (l3.out _).mono ?_
          rintro e w' ⟨rfl, rfl⟩
          go_wp2_with fail
          go_ret
          exact ⟨ret_int Hch.out, Hb.out.alloc hsw _⟩
        | false =>
          rw [if_neg (by decide)] at hch
          have Hch := Lib.hid hch
          clear hch
          go_wp2_with fail
          refine (l1.out _).mono ?_
          rintro e w' ⟨rfl, rfl⟩
          go_wp2_with fail
          refine (l2.out _).mono ?_
          rintro e w' ⟨rfl, rfl⟩
          go_wp2_with fail
          refine (l3.out _).mono ?_
          rintro e w' ⟨rfl, rfl⟩
          go_wp2_with (at_builtin; refine wpList_append_own_at _ rfl _ _ 35 rfl w.heap.size 3 i0 _ 1 8 Tryz.underlying35 hi hz0 hz1 hz2 rfl (by decide) _ _ _ rfl ((HK.out.alloc _).alloc _) ⟨wr.heap.size + 1, 0, none⟩ 1 1 [.int .i64 en] rfl rfl (cell_one_new (by simp) _ _) (by simp [Value.oneCell']) (by unfold maxLen; omega) (by omega) (by simp; omega) ?_; intro v' w3 hown' hg' _ hat'; have ck := kind_kept HK.out hg'; have HA3 := Lib.hid (apart_next ((HG.out.alloc _).alloc _) HP.out hg' hat'); have Hb3 := Lib.hid (((Hb.out.alloc hsw _).alloc (by simp; omega) _).grown hg' (by simp; omega) (fun q hq => (HK.out.lt q hq).1)); have Hown' := Lib.hid hown'; clear hown' hg' hat')
          have hke := Hown'.out
          rw [intVs_app] at hke
          refine ⟨⟨k + 1, K ++ [en], G, by go_num, by omega, Hch.out, by simp; omega, by omega, ?_, HA3.out.1, HA3.out.2, Hb3.out⟩, by simp [Lib.intOf]; omega⟩
          rw [List.length_append]
          exact hke
      by_cases h4 : kind = 4
      · subst h4
        rw [if_neg (by decide), if_pos rfl] at hch
        have Hch := Lib.hid hch
        clear hch
        go_wp2_with fail
        refine (l1.out _).mono ?_
        rintro e w' ⟨rfl, rfl⟩
        go_wp2_with fail
        refine (l2.out _).mono ?_
        rintro e w' ⟨rfl, rfl⟩
        go_wp2_with (at_builtin; refine wpList_append_own_at _ rfl _ _ 35 rfl w.heap.size 3 i0 _ 1 8 Tryz.underlying35 hi hz0 hz1 hz2 rfl (by decide) _ _ _ rfl ((HG.out.alloc _).alloc _) ⟨wr.heap.size + 1, 0, none⟩ 1 1 [.int .i64 pid] rfl rfl (cell_one_new (by simp) _ _) (by simp [Value.oneCell']) (by unfold maxLen; omega) (by omega) (by simp; omega) ?_; intro v' w3 hown' hg' _ hat'; have HA3 := Lib.hid (apart_next ((HK.out.alloc _).alloc _) HP'.out hg' hat'); have Hb3 := Lib.hid (((Hb.out.alloc hsw _).alloc (by simp; omega) _).grown hg' (by simp; omega) (fun q hq => (HG.out.lt q hq).1)); have Hown' := Lib.hid hown'; clear hown' hg' hat')
        have hke := Hown'.out
        rw [intVs_app] at hke
        refine ⟨⟨k + 1, K, G ++ [pid], by go_num, by omega, Hch.out, by omega, by simp; omega, HA3.out.1, ?_, apart_symm HA3.out.2, Hb3.out⟩, by simp [Lib.intOf]; omega⟩
        rw [List.length_append]
        exact hke
      · rw [if_neg h3, if_neg h4] at hch
        have Hch := Lib.hid hch
        have q3 : (kind == 3) = false := beq_eq_false_iff_ne.2 h3
        have q4 : (kind == 4) = false := beq_eq_false_iff_ne.2 h4
        clear hch h3 h4
        go_wp2_with fail
        refine (l1.out _).mono ?_
        rintro e w' ⟨rfl, rfl⟩
        go_wp2_with fail
        refine (l2.out _).mono ?_
        rintro e w' ⟨rfl, rfl⟩
        go_wp2_with fail
        exact ⟨⟨k + 1, K, G, by go_num, by omega, Hch.out, by omega, by omega, HK.out.alloc _, HG.out.alloc _, HP.out, Hb.out.alloc hsw _⟩, by simp [Lib.intOf]; omega⟩
    · have hke : k = es.length := by omega
      subst hke
      have Hb := Lib.hid hbw
      rw [List.drop_length] at hch
      have Hch := Lib.hid (show 0 = checkF es [2] [] from hch)
      clear hbw hch hoK hoG hap
      go_wp2
      go_ret
      exact ⟨ret_int Hch.out, Hb.out⟩

end Go.Proofs.YtakejcabekdhcaaGreatDoor
