/- The evaluator: every operation. -/
import Derived.Test.YtbjncdcfojjacaaGreatSxN
namespace Go.Sx
open Go Go.RowKit

section
variable {E : Env} {P : Program} {o : Oper} {a : Act} {B lim N : Nat} {hp : Hp} {nx : Nat} {ρ : Ren} {w : World} {tm : T} {n : ANext} {e : Eff}

/-- what a call of a function comes to, as the operation sees it -/
def CallDone (P : Program) (f : FuncId) (args' : Array Value) (B lim : Nat) (hp : Hp) (nx : Nat) (ρ : Ren) (w : World) (n : ANext) (e : Eff) : Prop :=
  ∃ ρ' w', HRel P B lim (e.hp hp nx) (e.nx nx) ρ' w' ∧ Step hp (e.hp hp nx) nx (e.nx nx) ρ ρ' w w' ∧
    match n with
    | .value v => ∃ v', (callFunc f args').run P w = .ok (.value v') w' ∧ VR ρ' v v'
    | .enter g as => ∃ as', (callFunc f args').run P w = .ok (.enter g as') w' ∧ All2 (VR ρ') as as'.toList
    | _ => False
theorem run_clone {t : TypeId} {r c : Nat} {es : Array MapEntry} (h : w.heap[r]? = some (.map es c)) :
    (Extern.MapsClone.clone #[.iface t (.map (some r))]).run P w = .ok (.iface t (.map (some w.heap.size))) (w.alloc (.map es c)) := by
  have e : Extern.MapsClone.clone #[.iface t (.map (some r))] = (do
    let .map entries clock ← getObj r | stuck "maps.clone: a map expected"
    pure (.iface t (.map (some (← newObj (.map entries clock)))))) := rfl
  rw [e]
  simp [run_getMap h]
def ptrFits : TypeDesc → Bool → Bool
  | .pointer _, b => b
  | _, b => !b
theorem callTo_ok (hE : EnvOk E P) (hr : HRel P B lim hp nx ρ w) (hl : nx < lim) {f : FuncId} {args args' : List Value} (h : callTo E hp nx f args = some (n, e)) (ha : All2 (VR ρ) args args') :
    CallDone P f ⟨args'⟩ B lim hp nx ρ w n e := by
  unfold callTo at h
  cases hg : E.fn.get f with
  | none => simp [hg] at h
  | some g =>
    have hf := hE.fn f g hg
    have hname : (g.name == "runtime.NumGoroutine") = false := by
      have := hE.name f g hg
      simpa [plainName] using this
    simp only [hg] at h
    cases hb : g.body with
    | some c =>
      simp only [hb, Option.some.injEq, Prod.mk.injEq] at h
      obtain ⟨rfl, rfl⟩ := h
      refine ⟨ρ, w, hr, Step.refl _ _ _ _, ⟨args'⟩, ?_, ha⟩
      unfold callFunc
      simp only [Sem.run_bind, run_program, Result.andThen_ok, hf, hname, hb]
      rfl
    | none =>
      simp only [hb] at h
      split at h
      · rename_i hc
        obtain ⟨c1, c2⟩ := hE.clone f g hc hf
        unfold aClone at h
        split at h
        · rename_i t r
          split at h
          · rename_i es c hob
            simp only [Option.some.injEq, Prod.mk.injEq] at h
            obtain ⟨rfl, rfl⟩ := h
            obtain ⟨x', rfl, hx⟩ := all2_one ha
            obtain ⟨m', hm, rfl⟩ := hx.iface
            obtain ⟨p, hp0, rfl⟩ := hm.map
            obtain ⟨es', g1, g2⟩ := map_obj hr hob hp0
            obtain ⟨r1, r2⟩ := rel_new (w' := w.alloc (.map es' c)) (c := 0) (o := .map es c) hr hl rfl rfl rfl rfl fun ρ' hle hn =>
              ⟨_, hn, rfl, hr.base, rfl, es', heap_alloc_new w _, by have := g2.length; simpa using this, fun i x hx => by
                obtain ⟨y, a1, a2⟩ := g2.get i x hx
                exact ⟨y, by simpa using a1, (a2.mono hle)⟩⟩
            refine ⟨_, _, r1, r2, .iface t (.map (some w.heap.size)), ?_, VR.mkIface (VR.mkMap (Ren.put_same _ _ _))⟩
            unfold callFunc
            simp only [Sem.run_bind, run_program, Result.andThen_ok, hf, hname, hb, c1, c2]
            have hc' := run_clone (P := P) (t := t) g1
            rw [if_neg (by simp), if_pos (by rfl)]
            show ((mark (.extern f) : Sem Unit) >>= fun _ => ((Extern.MapsClone.clone #[.iface t (.map (some p.1.block))]) >>= fun x => pure (Next.value x))).run P w = _
            simp only [Sem.run_bind, run_mark, Result.andThen_ok, hc', Sem.run_pure]
          · cases h
        · cases h
      · cases h
theorem method_ok (hE : EnvOk E P) {t : TypeId} {v v' : Value} {name : String} {r : FuncId × Value} (h : aMethod E t v name = some r) (hv : VR ρ v v') (m : Nat) :
    ∃ u, (method (m + 1) t v' name).run P w = .ok (r.1, u) w ∧ VR ρ r.2 u := by
  unfold aMethod at h
  simp only [Option.bind_eq_some_iff] at h
  obtain ⟨i, hi, mt, hm, h⟩ := h
  split at h
  · rename_i hpath
    have hpl : mt.path.toList = [] := by
      have : mt.path = #[] := by simpa using hpath
      rw [this]
    split at h
    · rename_i f ptr hfn
      have key : ∀ s, E.und t = some s → ptrFits s ptr = true → (receiverAt t (.val v') ptr (if mt.path.isEmpty then some ((name.splitOn ".").getLastD name) else none)).run P w = .ok v' w := by
        intro s hs hpt
        unfold receiverAt
        simp only [Sem.run_bind, hE.run_und hs, Result.andThen_ok]
        cases s <;> cases ptr <;> first | (cases hpt; done) | rfl
      have run : ∀ s, E.und t = some s → ptrFits s ptr = true → (method (m + 1) t v' name).run P w = .ok (f, v') w := by
        intro s hs hpt
        unfold method
        simp only [Sem.run_bind, hE.info hi, Result.andThen_ok, hm, hpl, follow, Sem.run_pure, hfn]
        rw [key s hs hpt]
        rfl
      cases hu : E.und t with
      | none => simp [hu] at h
      | some s =>
        rw [hu] at h
        cases s <;> cases ptr <;> simp only [Option.some.injEq, reduceCtorEq] at h <;> (subst h; exact ⟨v', run _ hu rfl, hv⟩)
    · cases h
  · cases h
theorem op_call (hE : EnvOk E P) (hr : HRel P B lim hp nx ρ w) (hl : nx < lim) (ht : TRel N ρ tm a.tmps) {c : Call} (ho : o.op = .call c) (h : opA E P tm hp nx o = some (n, e)) : OpDone P o a B lim hp nx ρ w n e := by
  simp only [opA, ho, Option.bind_eq_some_iff] at h
  obtain ⟨args, hargs, h⟩ := h
  have ha := evs_ok ht hargs
  have hmap : (c.args.map a.eval) = ⟨c.args.toList.map a.eval⟩ := by apply Array.toList_inj.1; simp
  split at h
  · rename_i b hb
    simp only [Option.bind_eq_some_iff, Option.some.injEq, Prod.mk.injEq] at h
    obtain ⟨⟨v, e'⟩, hv, rfl, rfl⟩ := h
    obtain ⟨h1, ρ', w', v', r1, r2, r3, r4⟩ := aBuiltin_ok (ty := o.type) hE hr hl hv ha
    refine ⟨ρ', w', r1, r2, v', ?_, r4⟩
    unfold execOp
    simp only [ho, resolve, hb, hmap, Sem.run_bind, Sem.run_pure, Result.andThen_ok, invoke]
    rcases h1 with rfl | rfl | rfl | rfl | rfl | rfl <;> simp only [builtinRun] at r3 <;> simp only [builtin, Sem.run_bind, r3, Result.andThen_ok, Sem.run_pure]
  · rename_i f hf
    simp only [Option.bind_eq_some_iff] at h
    obtain ⟨fv, hfv, h⟩ := h
    have hc := ev_ok ht hfv
    split at h
    · rename_i g fi ca
      obtain ⟨fi', ca', k1, k2, k3⟩ := hc.func
      obtain ⟨ρ', w', r1, r2, r3⟩ := callTo_ok hE hr hl h ((k1.append ha).append k2)
      have hrun : (execOp a.eval o).run P w = (callFunc g ⟨fi' ++ c.args.toList.map a.eval ++ ca'⟩).run P w := by
        unfold execOp
        simp only [ho, resolve, hf, hmap, k3, Deferred.ofValue, Sem.run_bind, Sem.run_pure, Result.andThen_ok, invoke]
        congr 2
        apply Array.toList_inj.1
        simp
      refine ⟨ρ', w', r1, r2, ?_⟩
      cases n with
      | value v => obtain ⟨v', q1, q2⟩ := r3; exact ⟨v', hrun.trans q1, q2⟩
      | enter g as => obtain ⟨v', q1, q2⟩ := r3; exact ⟨v', hrun.trans q1, q2⟩
      | skip => exact r3.elim
      | panic v => exact r3.elim
    · cases h
  · rename_i rc name hi
    simp only [Option.bind_eq_some_iff] at h
    obtain ⟨rv, hrv, h⟩ := h
    have hc := ev_ok ht hrv
    split at h
    · rename_i t v
      simp only [Option.bind_eq_some_iff] at h
      obtain ⟨fw, hfw, h⟩ := h
      obtain ⟨v', hv', k3⟩ := hc.iface
      obtain ⟨m, hm⟩ : ∃ m, P.types.size + Made.depth = m + 1 := ⟨P.types.size + 99, rfl⟩
      obtain ⟨u, m1, m2⟩ := method_ok (w := w) hE hfw hv' m
      obtain ⟨ρ', w', r1, r2, r3⟩ := callTo_ok hE hr hl h (args' := u :: c.args.toList.map a.eval) ⟨m2, ha⟩
      have hrun : (execOp a.eval o).run P w = (callFunc fw.1 ⟨u :: c.args.toList.map a.eval⟩).run P w := by
        unfold execOp
        simp only [ho, resolve, hi, hmap, k3, Sem.run_bind, Sem.run_pure, Result.andThen_ok, invoke]
        have hsz : (c.args.toList.map a.eval).take c.args.size = c.args.toList.map a.eval := List.take_of_length_le (by simp)
        simp [callMethod, hm, m1, hsz]
      refine ⟨ρ', w', r1, r2, ?_⟩
      cases n with
      | value v => obtain ⟨v', q1, q2⟩ := r3; exact ⟨v', hrun.trans q1, q2⟩
      | enter g as => obtain ⟨v', q1, q2⟩ := r3; exact ⟨v', hrun.trans q1, q2⟩
      | skip => exact r3.elim
      | panic v => exact r3.elim
    · cases h
theorem opA_ok (hE : EnvOk E P) (hr : HRel P B lim hp nx ρ w) (hl : nx < lim) (ht : TRel N ρ tm a.tmps) (h : opA E P tm hp nx o = some (n, e)) : OpDone P o a B lim hp nx ρ w n e := by
  cases ho : o.op with
  | move x => exact op_move hr ht ho h
  | assign x => exact op_assign hr ht ho h
  | pick x y z => exact op_pick hr ht ho h
  | alloc t =>
    simp only [opA, ho, Option.bind_eq_some_iff, Option.some.injEq, Prod.mk.injEq] at h
    obtain ⟨z, hz, rfl, rfl⟩ := h
    exact op_alloc hE hr hl ho hz
  | box t x =>
    simp only [opA, ho, Option.bind_eq_some_iff, Option.some.injEq, Prod.mk.injEq] at h
    obtain ⟨z, hz, rfl, rfl⟩ := h
    exact op_box hr hl ho (ev_ok ht hz)
  | build t ps => exact op_build hE hr ht ho h
  | buildSlice t k ps => exact op_buildSlice hE hr hl ht ho h
  | insert t x y z => exact op_mapUpdate hE hr ht (.inr ho) h
  | load t x => exact op_load hE hr ht ho h
  | store t x y => exact op_store hE hr ht ho h
  | nilCheck x => exact op_nilCheck hr ht ho h
  | binOp op t x y t' => exact op_binOp hE hr ht ho h
  | unOp op t x => exact op_unOp hr ht ho h
  | convert s d x => exact op_convert hE hr ht ho h
  | makeInterface t x => exact op_makeInterface hE hr ht ho h
  | makeFunc f x y => exact op_makeFunc hr ht ho h
  | makeMap t x => exact op_makeMap hE hr hl ht ho h
  | makeSlice t x y => exact op_makeSlice hE hr hl ht ho h
  | slice t x l h' m => exact op_slice hE hr ht ho h
  | fieldAddr t x f => exact op_fieldAddr hE hr ht ho h
  | field t x f => exact op_field hE hr ht ho h
  | indexAddr t x y => exact op_indexAddr hE hr ht ho h
  | index t x y => exact op_index hE hr ht ho h
  | lookup t x y ok => exact op_lookup hE hr ht ho h
  | mapUpdate t x y z => exact op_mapUpdate hE hr ht (.inl ho) h
  | typeAssert x t t' ok => exact op_typeAssert hE hr ht ho h
  | extract x i => exact op_extract hr ht ho h
  | call c => exact op_call hE hr hl ht ho h
  | panic x => exact op_panic hr ht ho h
  | _ => simp [opA, ho] at h
end
end Go.Sx
