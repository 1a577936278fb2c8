/-
  What is proved: what must come at any rate of this layer does come: 'heads' answers true in any world and leaves what lay there. Conditions: none.
-/
import Derived.Test.YtbjncdcfojjacaaGreatSxSort
import Derived.Test.YtbjncdcfojjacaaGreatList
namespace Go.Proofs.YtbjncdcfojjacaaGreat.Heads
open Go.Sx Go.RowKit

theorem cloneOk : ∀ f g, (some 175 : Option FuncId) = some f → Tryz.prog.funcs[f]? = some g → Extern.findNext g = none ∧ Extern.find g = some Extern.MapsClone.clone := by
  intro f g hf hg
  cases hf
  have : g = Tryz.f175 := (Option.some.inj (Tryz.func175.symm.trans hg)).symm
  subst this
  exact ⟨by kernel_rfl, rfl⟩
theorem envOk : EnvOk (Env.of Tryz.prog (some 175)) Tryz.prog :=
  EnvOk.of (of_decide_eq_true (by kernel_rfl)) (of_decide_eq_true (by kernel_rfl)) (by kernel_rfl) (by kernel_rfl) (by kernel_rfl) cloneOk
def hook0 : Hook := fun f => if f = 162 then some (sortedMap 3) else none
theorem listOk {args : List Value} {S S' : St} {e : AEnd} (h : sortedMap 3 args S = some (e, S')) : CallOk Tryz.prog 162 args S e S' :=
  sortedMap_ok (mt := 3) Tryz.underlying3 (by kernel_rfl) (fun b nn D0 w h1 h2 h3 => Lists.list_ok b nn D0 anyVal w h1 h2 h3) h
theorem hookOk0 : HookOk Tryz.prog hook0 := by
  intro i r hi args S e S' hr
  unfold hook0 at hi
  split at hi
  · rename_i he; subst he; cases hi; exact listOk hr
  · cases hi
theorem heads_run : isTrue (callA (Env.of Tryz.prog (some 175)) Tryz.prog hook0 200 12 [] ⟨.nil, 1, 0, []⟩) = true := by kernel_rfl
theorem heads (w : World) : Calls Tryz.prog 12 #[] w fun en w' => en = .returned (.bool true) ∧ Below w.heap.size w w' :=
  closed_true envOk hookOk0 heads_run w
end Go.Proofs.YtbjncdcfojjacaaGreat.Heads
