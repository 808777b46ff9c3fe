/- What the evaluator asks of the program's tables holds of this program. -/
import Derived.Test.YtakejcabekdhcaaGreatDoorE3
import Derived.Test.YtakejcabekdhcaaGreatDoorProg
import Derived.KernelRfl
namespace Go.Proofs.YtakejcabekdhcaaGreatDoor
open Go.Ev

def notNum (fn : Func) : Bool := fn.name != "runtime.NumGoroutine"
theorem nums : Tryz.prog.funcs.toList.all notNum = true := by kernel_rfl
theorem num_ok (f : Nat) (fn : Func) (h : Tryz.prog.funcs[f]? = some fn) : fn.name ≠ "runtime.NumGoroutine" := by
  have h1 : fn ∈ Tryz.prog.funcs.toList := by
    rw [← Array.getElem?_toList] at h
    exact List.mem_of_getElem? h
  have := List.all_eq_true.1 nums fn h1
  simpa [notNum] using this

noncomputable def tyOk (t : Nat) : Bool := match Tryz.prog.underlying t with
  | some (.struct fs) => bif scalFs (Env.of Tryz.prog) fs.toList then !Tryz.prog.stoodInHeld t && !Tryz.prog.eqGuardType Tryz.prog.depth t && fs.toList.all (fun f => f.name != "_") else true
  | _ => true
theorem tys : (List.range Tryz.prog.types.size).all tyOk = true := by kernel_rfl
theorem und_lt {t : Nat} {d : TypeDesc} (h : (Env.of Tryz.prog).und t = some d) : t < Tryz.prog.types.size := by
  unfold Env.und at h
  rw [types_get] at h
  cases hi : Tryz.prog.types[t]? with
  | none => rw [hi] at h; cases h
  | some i => exact (Array.getElem?_eq_some_iff.1 hi).1
theorem good_types : GoodT Tryz.prog := ⟨fun t fs hd hs => by
  have h1 := List.all_eq_true.1 tys t (List.mem_range.2 (und_lt hd))
  unfold tyOk at h1
  rw [und_ok hd] at h1
  simp only [hs, cond_true, Bool.and_eq_true, Bool.not_eq_true', List.all_eq_true, bne_iff_ne] at h1
  exact ⟨h1.1.1, h1.1.2, h1.2⟩⟩
theorem good_esc (fn : Func) (hfn : Tryz.prog.funcs[nEsc]? = some fn) (_ : fn.body = none) : Extern.findNext fn = none ∧ Extern.find fn = some Extern.AbiNoEscape.same := by
  have h : Tryz.prog.funcs[43]? = some fn := hfn
  rw [Tryz.func43] at h
  injection h with h
  subst h
  exact ⟨by kernel_rfl, by kernel_rfl⟩
theorem good_idx (fn : Func) (hfn : Tryz.prog.funcs[nIdx]? = some fn) (_ : fn.body = none) : Extern.findNext fn = none ∧ Extern.find fn = some Extern.BytealgIndexByte.indexByte := by
  have h : Tryz.prog.funcs[120]? = some fn := hfn
  rw [Tryz.func120] at h
  injection h with h
  subst h
  exact ⟨by kernel_rfl, by kernel_rfl⟩
theorem good_cnt (fn : Func) (hfn : Tryz.prog.funcs[nCnt]? = some fn) (_ : fn.body = none) : Extern.findNext fn = none ∧ Extern.find fn = some Extern.BytealgCount.count := by
  have h : Tryz.prog.funcs[96]? = some fn := hfn
  rw [Tryz.func96] at h
  injection h with h
  subst h
  exact ⟨by kernel_rfl, by kernel_rfl⟩
theorem good : Good Tryz.prog := ⟨good_types, num_ok, good_esc, good_idx, good_cnt⟩

end Go.Proofs.YtakejcabekdhcaaGreatDoor
