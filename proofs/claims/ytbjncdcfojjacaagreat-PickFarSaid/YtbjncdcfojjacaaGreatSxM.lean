/- The evaluator: maps, the other built-ins, calls. -/
import Derived.Test.YtbjncdcfojjacaaGreatSxL
namespace Go.Sx
open Go Go.RowKit

def EntR (ρ : Ren) (x y : MapEntry) : Prop := VR ρ x.key y.key ∧ VR ρ x.val y.val ∧ x.born = y.born
def EntsR (ρ : Ren) : List MapEntry → List MapEntry → Prop
  | [], [] => True
  | x :: xs, y :: ys => EntR ρ x y ∧ EntsR ρ xs ys
  | _, _ => False
theorem EntsR.of_get {ρ : Ren} : ∀ {xs ys : List MapEntry}, ys.length = xs.length → (∀ (i : Nat) (x : MapEntry), xs[i]? = some x → ∃ y, ys[i]? = some y ∧ EntR ρ x y) → EntsR ρ xs ys
  | [], [], _, _ => trivial
  | [], _ :: _, h, _ => by simp at h
  | _ :: _, [], h, _ => by simp at h
  | x :: xs, y :: ys, h, g => by
    refine ⟨?_, EntsR.of_get (by simpa using h) fun i z hz => by simpa using g (i + 1) z (by simpa using hz)⟩
    obtain ⟨y', e, hr⟩ := g 0 x rfl
    simp at e; subst e; exact hr
theorem EntsR.length {ρ : Ren} : ∀ {xs ys}, EntsR ρ xs ys → ys.length = xs.length
  | [], [], _ => rfl
  | _ :: _, _ :: _, h => by simp [EntsR.length h.2]
  | [], _ :: _, h => h.elim
  | _ :: _, [], h => h.elim
theorem EntsR.get {ρ : Ren} : ∀ {xs ys}, EntsR ρ xs ys → ∀ (i : Nat) (x : MapEntry), xs[i]? = some x → ∃ y, ys[i]? = some y ∧ EntR ρ x y
  | [], [], _, i, x, h => by simp at h
  | a :: _, b :: _, h, 0, x, hx => by simp at hx; subst hx; exact ⟨b, rfl, h.1⟩
  | _ :: _, _ :: _, h, i + 1, x, hx => by simpa using EntsR.get h.2 i x (by simpa using hx)
  | [], _ :: _, h, _, _, _ => h.elim
  | _ :: _, [], h, _, _, _ => h.elim
theorem EntR.mono {ρ ρ' : Ren} (h : ρ.le ρ') {x y : MapEntry} (e : EntR ρ x y) : EntR ρ' x y := ⟨e.1.mono h, e.2.1.mono h, e.2.2⟩
theorem EntsR.mono {ρ ρ' : Ren} (h : ρ.le ρ') : ∀ {xs ys}, EntsR ρ xs ys → EntsR ρ' xs ys
  | [], [], _ => trivial
  | _ :: _, _ :: _, e => ⟨e.1.mono h, EntsR.mono h e.2⟩
  | [], _ :: _, e => e.elim
  | _ :: _, [], e => e.elim
theorem EntsR.append {ρ : Ren} : ∀ {xs ys us vs}, EntsR ρ xs ys → EntsR ρ us vs → EntsR ρ (xs ++ us) (ys ++ vs)
  | [], [], _, _, _, k => k
  | _ :: _, _ :: _, _, _, h, k => ⟨h.1, EntsR.append h.2 k⟩
  | [], _ :: _, _, _, h, _ => h.elim
  | _ :: _, [], _, _, h, _ => h.elim

section
variable {E : Env} {P : Program} {o : Oper} {a : Act} {B lim N : Nat} {hp : Hp} {nx : Nat} {ρ : Ren} {w : World} {tm : T} {n : ANext} {e : Eff}

theorem map_obj (hr : HRel P B lim hp nx ρ w) {r : Nat} {es : List MapEntry} {c : Nat} (h : hp r = some (.map es c)) {p : Addr × Nat} (hp0 : ρ r = some p) :
    ∃ es' : Array MapEntry, w.heap[p.1.block]? = some (.map es' c) ∧ EntsR ρ es es'.toList := by
  obtain ⟨q, e1, _, _, _, es', g1, g2, g3⟩ := hr.obj r _ h
  rw [hp0] at e1; cases e1
  exact ⟨es', g1, EntsR.of_get (by simpa using g2) fun i x hx => let ⟨y, a, b, c, d⟩ := g3 i x hx; ⟨y, by simpa using a, b, c, d⟩⟩
theorem run_getMap {r c : Nat} {es : Array MapEntry} (h : w.heap[r]? = some (.map es c)) : (getObj r).run P w = .ok (.map es c) w := by simp [getObj, Sem.run, h]
theorem run_setMap {r c : Nat} {es : Array MapEntry} (h : w.heap[r]? = some (.map es c)) (ob : Obj) : (setObj r ob).run P w = .ok () { w with heap := w.heap.setIfInBounds r ob } := by simp [setObj, Sem.run, h]
/-- an own map's entries set anew -/
theorem setmap_rel (hr : HRel P B lim hp nx ρ w) {r : Nat} {es es1 : List MapEntry} {c c1 : Nat} (h : hp r = some (.map es c)) {p : Addr × Nat} (hp0 : ρ r = some p) {es1' : Array MapEntry} (he : EntsR ρ es1 es1'.toList) :
    HRel P B lim (over hp r (some (.map es1 c1))) nx ρ { w with heap := w.heap.setIfInBounds p.1.block (.map es1' c1) } ∧
    Step hp (over hp r (some (.map es1 c1))) nx nx ρ ρ w { w with heap := w.heap.setIfInBounds p.1.block (.map es1' c1) } := by
  obtain ⟨q, e1, e2, g0, g1, es', g2, _⟩ := hr.obj r _ h
  rw [hp0] at e1; cases e1
  have hlt : p.1.block < w.heap.size := (Array.getElem?_eq_some_iff.1 g2).1
  refine rel_upd hr h rfl hp0 (by simp) (fun b hb => by simp [Array.getElem?_setIfInBounds_ne (Ne.symm hb)]) rfl rfl rfl ⟨p, hp0, e2, g0, g1, es1', by simp [hlt], by have := he.length; simpa using this, fun i x hx => ?_⟩
  obtain ⟨y, a, b⟩ := he.get i x hx
  exact ⟨y, by simpa using a, b⟩

theorem checkKey_ok (hE : EnvOk E P) {kt : TypeId} {d : TypeDesc} {k : Value} (hd : E.und kt = some d) (hk : keyFlat d k = true) (b : Bool) : ∀ m, (Instr.checkKey b (m + 1) kt k).run P w = .ok () w := by
  intro m
  unfold Instr.checkKey
  simp only [Sem.run_bind, hE.run_und hd, Result.andThen_ok]
  unfold keyFlat at hk
  split at hk <;> first | rfl | (cases hk)
theorem keyFlat_eq {d : TypeDesc} {k k' : Value} (hk : keyFlat d k = true) (h : VR ρ k k') : k' = k := by
  unfold keyFlat at hk
  split at hk
  · exact h.int
  · exact h.string
  · cases hk
def FoundR (ρ : Ren) : Option (Nat × Value) → Option (Nat × Value) → Prop
  | none, none => True
  | some x, some y => x.1 = y.1 ∧ VR ρ x.2 y.2
  | _, _ => False
theorem sameNow_key {d : TypeDesc} {k v v' : Value} {b : Bool} (h : Instr.sameNow d k v = some b) (hv : VR ρ v v') : Instr.sameNow d k v' = some b := by
  unfold Instr.sameNow at h
  split at h
  · cases hv.int; simpa [Instr.sameNow] using h
  · cases hv.string; simpa [Instr.sameNow] using h
  · cases hv.bool; simpa [Instr.sameNow] using h
  · cases h
theorem findKey_ok {d : TypeDesc} {k : Value} : ∀ {es es' : List MapEntry} {i : Nat} {r : Option (Nat × Value)}, findKey d k es i = some r → EntsR ρ es es' → ∃ r', Instr.findNow d k es' i = some r' ∧ FoundR ρ r r'
  | [], [], i, r, h, _ => by simp [findKey] at h; subst h; exact ⟨none, rfl, trivial⟩
  | x :: es, y :: es', i, r, h, he => by
    unfold findKey at h
    unfold Instr.findNow
    split at h
    · rename_i hs
      simp at h; subst h
      rw [sameNow_key hs he.1.1]
      exact ⟨_, rfl, rfl, he.1.2.1⟩
    · rename_i hs
      rw [sameNow_key hs he.1.1]
      exact findKey_ok h he.2
    · cases h
  | [], _ :: _, _, _, _, h => h.elim
  | _ :: _, [], _, _, _, h => h.elim
theorem run_findKey (hE : EnvOk E P) {kt : TypeId} {d : TypeDesc} {k : Value} {es' : List MapEntry} {r' : Option (Nat × Value)} (hd : E.und kt = some d) (h : Instr.findNow d k es' 0 = some r') : (Instr.findKey kt k es').run P w = .ok r' w := by
  unfold Instr.findKey
  simp only [Sem.run_bind, hE.run_und hd, Result.andThen_ok, h, Sem.run_pure]
theorem sameNow_true {d : TypeDesc} {k v : Value} (hk : keyFlat d k = true) (h : Instr.sameNow d k v = some true) (m : Nat) : Instr.sameBits m v k = true := by
  cases d <;> cases k <;> first | (cases hk; done) | skip
  · rename_i kk j x
    cases v <;> first | (cases h; done) | skip
    rename_i j' y
    simp only [Instr.sameNow] at h
    split at h
    · rename_i hj
      simp only [Option.some.injEq, beq_iff_eq] at h
      cases m <;> simp [Instr.sameBits, hj, h]
    · cases h
  · rename_i s
    cases v <;> first | (cases h; done) | skip
    rename_i s'
    simp only [Instr.sameNow, Option.some.injEq, beq_toListBytes, beq_iff_eq] at h
    cases m <;> simp [Instr.sameBits, beq_toListBytes, h]
/-- what is found is the key itself -/
theorem findNow_key {d : TypeDesc} {k : Value} (hk : keyFlat d k = true) : ∀ {es : List MapEntry} {i j : Nat} {v : Value}, Instr.findNow d k es i = some (some (j, v)) → i ≤ j ∧ ∃ e, es[j - i]? = some e ∧ ∀ m, Instr.sameBits m e.key k = true
  | [], i, j, v, h => by simp [Instr.findNow] at h
  | x :: es, i, j, v, h => by
    unfold Instr.findNow at h
    split at h
    · rename_i hs
      simp at h
      obtain ⟨rfl, rfl⟩ := h
      exact ⟨Nat.le_refl _, x, by simp, fun m => sameNow_true hk hs m⟩
    · obtain ⟨h1, e, h2, h3⟩ := findNow_key hk h
      refine ⟨by omega, e, ?_, h3⟩
      obtain ⟨q, hq⟩ : ∃ q, j - i = q + 1 := ⟨j - i - 1, by omega⟩
      rw [hq, List.getElem?_cons_succ, ← h2]; congr 1; omega
    · cases h
theorem checkKey_lit (hE : EnvOk E P) {kt : TypeId} {d : TypeDesc} {k : Value} (hd : E.und kt = some d) (hk : keyFlat d k = true) (b : Bool) : (Instr.checkKey b 10000 kt k).run P w = .ok () w := checkKey_ok hE hd hk b 9999

theorem op_makeMap (hE : EnvOk E P) (hr : HRel P B lim hp nx ρ w) (hl : nx < lim) (ht : TRel N ρ tm a.tmps) {t : TypeId} {x : Option Operand} (ho : o.op = .makeMap t x) (h : opA E P tm hp nx o = some (n, e)) : OpDone P o a B lim hp nx ρ w n e := by
  obtain ⟨g1, g2⟩ := rel_new (w' := w.alloc (.map #[] 0)) (c := 0) (o := .map [] 0) hr hl rfl rfl rfl rfl fun ρ' hle hn => ⟨_, hn, rfl, hr.base, rfl, #[], heap_alloc_new w _, rfl, fun i x hx => by simp at hx⟩
  simp only [opA, ho] at h
  cases x with
  | none =>
    simp only [Option.some.injEq, Prod.mk.injEq] at h
    obtain ⟨rfl, rfl⟩ := h
    refine ⟨_, _, g1, g2, .map (some w.heap.size), ?_, VR.mkMap (Ren.put_same _ _ _)⟩
    unfold execOp
    simp [ho, Instr.makeMap]
  | some r =>
    simp only [Option.bind_eq_some_iff] at h
    obtain ⟨v, hv, h⟩ := h
    have hc := ev_ok ht hv
    split at h
    · split at h
      · rename_i hu
        simp only [Option.some.injEq, Prod.mk.injEq] at h
        obtain ⟨rfl, rfl⟩ := h
        have e1 := hc.int
        refine ⟨_, _, g1, g2, .map (some w.heap.size), ?_, VR.mkMap (Ren.put_same _ _ _)⟩
        unfold execOp
        simp [ho, Instr.makeMap, hE.run_und hu, e1, asInt, asIntOf]
      · cases h
    · cases h
theorem mapOf_ok (hr : HRel P B lim hp nx ρ w) {m m' : Value} {es : List MapEntry} (h : mapOf hp m = some es) (hm : VR ρ m m') :
    ∃ es' : Array MapEntry, EntsR ρ es es'.toList ∧ ((m' = .map none ∧ es' = #[]) ∨ ∃ r c, m' = .map (some r) ∧ w.heap[r]? = some (.map es' c)) := by
  unfold mapOf at h
  split at h
  · simp at h; subst h; cases hm.mapNil; exact ⟨#[], trivial, .inl ⟨rfl, rfl⟩⟩
  · rename_i r
    obtain ⟨p, hp0, rfl⟩ := hm.map
    split at h
    · rename_i es0 c hob
      simp at h; subst h
      obtain ⟨es', g1, g2⟩ := map_obj hr hob hp0
      exact ⟨es', g2, .inr ⟨_, c, rfl, g1⟩⟩
    · cases h
  · cases h
theorem op_lookup (hE : EnvOk E P) (hr : HRel P B lim hp nx ρ w) (ht : TRel N ρ tm a.tmps) {t : TypeId} {x y : Operand} {ok : Bool} (ho : o.op = .lookup t x y ok) (h : opA E P tm hp nx o = some (n, e)) : OpDone P o a B lim hp nx ρ w n e := by
  simp only [opA, ho, Option.bind_eq_some_iff] at h
  obtain ⟨m, hm, k, hk, h⟩ := h
  have hcm := ev_ok ht hm
  have hck := ev_ok ht hk
  split at h
  · rename_i kt el hu
    simp only [Option.bind_eq_some_iff] at h
    obtain ⟨d, hd, h⟩ := h
    by_cases hkf : keyFlat d k = true
    · rw [if_pos hkf] at h
      simp only [Option.bind_eq_some_iff] at h
      obtain ⟨es, hes, f, hf, h⟩ := h
      have ek := keyFlat_eq hkf hck
      obtain ⟨es', g1, g2⟩ := mapOf_ok hr hes hcm
      obtain ⟨r', f1, f2⟩ := findKey_ok hf g1
      have hfk := run_findKey (w := w) (kt := kt) hE hd f1
      have hrun : ∀ v v', (match r' with | some (_, v) => (.ok (v, true) w : Result (Value × Bool)) | none => ((zeroValue el).run P w).andThen fun z w => .ok (z, false) w) = .ok (v, v') w →
          (Instr.lookup t (a.eval x) (a.eval y) ok).run P w = .ok (if ok then .tuple #[v, .bool v'] else v) w := by
        intro v v' hv
        unfold Instr.lookup
        rcases g2 with ⟨q1, q2⟩ | ⟨r, c, q1, q2⟩
        · simp only [Sem.run_bind, hE.run_und hu, Result.andThen_ok, q1, Sem.run_pure, ek, checkKey_lit hE hd hkf]
          have hfk' : (Instr.findKey kt k []).run P w = .ok r' w := by rw [q2] at hfk; exact hfk
          rw [hfk']
          cases r' with
          | none => simp only [Result.andThen_ok, Sem.run_bind, Sem.run_pure]; simp only at hv; cases hz : (zeroValue el).run P w <;> simp_all
          | some z => simp only [Result.andThen_ok] at hv ⊢; simp_all
        · simp only [Sem.run_bind, hE.run_und hu, Result.andThen_ok, q1, run_getMap q2, Sem.run_pure, ek, checkKey_lit hE hd hkf, hfk]
          cases r' with
          | none => simp only [Result.andThen_ok, Sem.run_bind, Sem.run_pure]; simp only at hv; cases hz : (zeroValue el).run P w <;> simp_all
          | some z => simp only [] at hv ⊢; simp_all
      have hex : ∀ v, (Instr.lookup t (a.eval x) (a.eval y) ok).run P w = .ok v w → (execOp a.eval o).run P w = .ok (.value v) w := fun v hv => by
        unfold execOp; simp only [ho, Sem.run_bind, hv, Result.andThen_ok, Sem.run_pure]
      cases f with
      | some z =>
        cases r' with
        | none => exact f2.elim
        | some z' =>
          simp only [Option.some.injEq, Prod.mk.injEq] at h
          obtain ⟨rfl, rfl⟩ := h
          refine done_value hr (hex _ (hrun z'.2 true rfl)) ?_
          cases ok with
          | true => exact VR.mkTuple (cs := [_, _]) (cs' := [_, _]) ⟨f2.2, rfl, trivial⟩
          | false => exact f2.2
      | none =>
        cases r' with
        | some _ => exact f2.elim
        | none =>
          simp only [Option.bind_eq_some_iff, Option.some.injEq, Prod.mk.injEq] at h
          obtain ⟨z, hz, rfl, rfl⟩ := h
          refine done_value hr (hex _ (hrun z false (by simp [hE.run_zero hz]))) ?_
          have hzf := flatZ_ren ρ z (hE.zflat hz)
          cases ok with
          | true => exact VR.mkTuple (cs := [_, _]) (cs' := [_, _]) ⟨hzf, rfl, trivial⟩
          | false => exact hzf
    · rw [if_neg hkf] at h; cases h
  · cases h
end
end Go.Sx
