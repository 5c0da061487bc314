/- A walk that the kernel carries out: this program. -/
import Derived.Test.YtmihblocomnfjaaDoorConUse
set_option linter.unusedSimpArgs false
set_option linter.unusedVariables false
namespace Go.Proofs.YtmihblocomnfjaaDoor
open Go Sy

noncomputable def exts : List (FuncId × (Array Value → Sem Value)) := [(53, Extern.Atomic.loadT (.int .u64)), (54, Extern.Atomic.swapT (.int .u64)),
  (55, Extern.Atomic.update (Op.intArith .add) .u64 true)]

def namesOk : List Func → Bool
  | [] => true
  | fn :: r => match fn.name == "runtime.NumGoroutine" with
    | true => false
    | false => namesOk r
theorem names_mem : ∀ {l : List Func}, namesOk l = true → ∀ fn ∈ l, (fn.name == "runtime.NumGoroutine") = false
  | x :: r, h, fn, hm => by
    simp only [namesOk] at h
    split at h
    · cases h
    · rename_i hx
      rcases List.mem_cons.1 hm with rfl | hm
      · exact hx
      · exact names_mem h fn hm
theorem names_ok : namesOk Tryd.prog.funcs.toList = true := by kernel_rfl

theorem ext_ok : ∀ x ∈ exts, ∃ fn, Tryd.prog.funcs[x.1]? = some fn ∧ (fn.name == "runtime.NumGoroutine") = false ∧ fn.body = none ∧ Extern.findNext fn = none ∧ Extern.find fn = some x.2 := by
  intro x hx
  simp only [exts, List.mem_cons, List.not_mem_nil, or_false] at hx
  rcases hx with rfl | rfl | rfl
  · exact ⟨Tryd.f53, by kernel_rfl, by kernel_rfl, by kernel_rfl, by kernel_rfl, by kernel_rfl⟩
  · exact ⟨Tryd.f54, by kernel_rfl, by kernel_rfl, by kernel_rfl, by kernel_rfl, by kernel_rfl⟩
  · exact ⟨Tryd.f55, by kernel_rfl, by kernel_rfl, by kernel_rfl, by kernel_rfl, by kernel_rfl⟩
theorem cas_ok : ∀ f ∈ [56], ∃ fn, Tryd.prog.funcs[f]? = some fn ∧ (fn.name == "runtime.NumGoroutine") = false ∧ fn.body = none ∧ Extern.findNext fn = none ∧ Extern.find fn = some (Extern.Atomic.casT (.int .u64)) := by
  intro f hf
  simp only [List.mem_cons, List.not_mem_nil, or_false] at hf
  subst hf
  exact ⟨Tryd.f56, by kernel_rfl, by kernel_rfl, by kernel_rfl, by kernel_rfl, by kernel_rfl⟩

/-- The program, with contracts of functions of it. -/
noncomputable def hostOf (cs : List Contract) (h : ∀ c ∈ cs, c.Ok Tryd.prog) : Host Tryd.prog := ⟨exts, [56], absOf cs, by kernel_rfl, ext_ok, cas_ok, fun f fn h => names_mem names_ok fn (by
  obtain ⟨hlt, e⟩ := Array.getElem?_eq_some_iff.1 h
  rw [← e]; simp), absOf_ok h⟩
noncomputable def host : Host Tryd.prog := hostOf [] (fun _ h => by cases h)
end Go.Proofs.YtmihblocomnfjaaDoor
