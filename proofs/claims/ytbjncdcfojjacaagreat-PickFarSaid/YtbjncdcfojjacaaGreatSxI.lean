/- The evaluator: the plain operations. -/
import Derived.Test.YtbjncdcfojjacaaGreatSxH
namespace Go.Sx
open Go Go.RowKit

section
variable {E : Env} {P : Program} {o : Oper} {a : Act} {B lim N : Nat} {hp : Hp} {nx : Nat} {ρ : Ren} {w : World} {tm : T} {n : ANext} {e : Eff}

theorem val_some {x : Option Value} (h : val x = some (n, e)) : ∃ v, x = some v ∧ n = .value v ∧ e = .none := by
  cases x with
  | none => simp [val] at h
  | some v => simp [val] at h; exact ⟨v, rfl, h.1.symm, h.2.symm⟩
theorem op_move (hr : HRel P B lim hp nx ρ w) (ht : TRel N ρ tm a.tmps) {x : Operand} (ho : o.op = .move x) (h : opA E P tm hp nx o = some (n, e)) : OpDone P o a B lim hp nx ρ w n e := by
  simp only [opA, ho] at h
  obtain ⟨v, hv, rfl, rfl⟩ := val_some h
  exact done_value hr (by unfold execOp; simp only [ho]; rfl) (ev_ok ht hv)
theorem op_assign (hr : HRel P B lim hp nx ρ w) (ht : TRel N ρ tm a.tmps) {x : Operand} (ho : o.op = .assign x) (h : opA E P tm hp nx o = some (n, e)) : OpDone P o a B lim hp nx ρ w n e := by
  simp only [opA, ho] at h
  obtain ⟨v, hv, rfl, rfl⟩ := val_some h
  exact done_value hr (by unfold execOp; simp only [ho]; rfl) (ev_ok ht hv)
theorem op_pick (hr : HRel P B lim hp nx ρ w) (ht : TRel N ρ tm a.tmps) {c x y : Operand} (ho : o.op = .pick c x y) (h : opA E P tm hp nx o = some (n, e)) : OpDone P o a B lim hp nx ρ w n e := by
  simp only [opA, ho, Option.bind_eq_some_iff] at h
  obtain ⟨b, hb, h⟩ := h
  have hc := ev_ok ht hb
  split at h
  · rename_i t
    obtain ⟨v, hv, rfl, rfl⟩ := val_some h
    have hc := hc.bool
    refine done_value hr (v' := if t then a.eval x else a.eval y) ?_ ?_
    · unfold execOp; simp only [ho, hc]; cases t <;> rfl
    · cases t with
      | true => exact ev_ok ht hv
      | false => exact ev_ok ht hv
  · cases h
theorem op_nilCheck (hr : HRel P B lim hp nx ρ w) (ht : TRel N ρ tm a.tmps) {x : Operand} (ho : o.op = .nilCheck x) (h : opA E P tm hp nx o = some (n, e)) : OpDone P o a B lim hp nx ρ w n e := by
  simp only [opA, ho, Option.bind_eq_some_iff] at h
  obtain ⟨b, hb, h⟩ := h
  have hc := ev_ok ht hb
  split at h
  · simp only [Option.some.injEq, Prod.mk.injEq] at h
    obtain ⟨rfl, rfl⟩ := h
    obtain ⟨p, _, _, e1⟩ := hc.pointer
    exact done_value hr (by unfold execOp; simp only [ho, e1]; rfl) (e1 ▸ hc)
  · simp only [Option.some.injEq, Prod.mk.injEq] at h
    obtain ⟨rfl, rfl⟩ := h
    obtain ⟨p, _, e1⟩ := hc.iface
    exact done_value hr (by unfold execOp; simp only [ho, e1]; rfl) (e1 ▸ hc)
  · rename_i f fi ca
    obtain ⟨fi⟩ := fi
    obtain ⟨ca⟩ := ca
    simp only [Option.some.injEq, Prod.mk.injEq] at h
    obtain ⟨rfl, rfl⟩ := h
    obtain ⟨p, q, _, _, e1⟩ := hc.func
    exact done_value hr (by unfold execOp; simp only [ho, e1]; rfl) (e1 ▸ hc)
  · cases h
theorem op_binOp (hE : EnvOk E P) (hr : HRel P B lim hp nx ρ w) (ht : TRel N ρ tm a.tmps) {op : BinOp} {t t' : TypeId} {x y : Operand} (ho : o.op = .binOp op t x y t') (h : opA E P tm hp nx o = some (n, e)) : OpDone P o a B lim hp nx ρ w n e := by
  simp only [opA, ho, Option.bind_eq_some_iff] at h
  obtain ⟨vx, hx, vy, hy, h⟩ := h
  obtain ⟨v, hv, rfl, rfl⟩ := val_some h
  obtain ⟨h1, r', h2, h3⟩ := aBin_ok (w := w) hE hv (ev_ok ht hx) (ev_ok ht hy)
  exact done_value hr (by unfold execOp; simp only [ho, Sem.run_bind, h1, Result.andThen_ok, h2, Sem.run_pure]) h3
theorem op_unOp (hr : HRel P B lim hp nx ρ w) (ht : TRel N ρ tm a.tmps) {op : UnOp} {t : TypeId} {x : Operand} (ho : o.op = .unOp op t x) (h : opA E P tm hp nx o = some (n, e)) : OpDone P o a B lim hp nx ρ w n e := by
  simp only [opA, ho, Option.bind_eq_some_iff] at h
  obtain ⟨vx, hx, h⟩ := h
  obtain ⟨v, hv, rfl, rfl⟩ := val_some h
  obtain ⟨h2, h3⟩ := aUn_ok (w := w) (P := P) hv (ev_ok ht hx)
  exact done_value hr (by unfold execOp; simp only [ho, Sem.run_bind, h2, Result.andThen_ok, Sem.run_pure]) h3
theorem op_convert (hE : EnvOk E P) (hr : HRel P B lim hp nx ρ w) (ht : TRel N ρ tm a.tmps) {s d : TypeId} {x : Operand} (ho : o.op = .convert s d x) (h : opA E P tm hp nx o = some (n, e)) : OpDone P o a B lim hp nx ρ w n e := by
  simp only [opA, ho, Option.bind_eq_some_iff] at h
  obtain ⟨vx, hx, h⟩ := h
  have hc := ev_ok ht hx
  split at h
  · simp only [Option.bind_eq_some_iff, Option.some.injEq, Prod.mk.injEq] at h
    obtain ⟨v, h, rfl, rfl⟩ := h
    unfold convSym at h
    split at h
    · rename_i hs hd
      simp only [Option.bind_eq_some_iff, Option.some.injEq] at h
      obtain ⟨⟨k0, l⟩, h1, r, h2, rfl⟩ := h
      obtain ⟨g1, e1⟩ := Lin.of_ok h1 hc
      obtain ⟨g2, e2⟩ := wrapL_ok g1 h2
      refine done_value hr ?_ (Lin.to_ok g2)
      rw [← e2]
      unfold execOp; simp only [ho, e1, convert, Sem.run_bind, hE.run_und hs, hE.run_und hd, Result.andThen_ok, Conv.intToInt, Sem.run_pure]
    · cases h
  split at h
  · rename_i hs hd _
    simp only [Option.some.injEq, Prod.mk.injEq] at h
    obtain ⟨rfl, rfl⟩ := h
    have e1 := hc.int
    exact done_value hr (by unfold execOp; simp only [ho, e1, convert, Sem.run_bind, hE.run_und hs, hE.run_und hd, Result.andThen_ok, Conv.intToInt, Sem.run_pure]) rfl
  · cases h
theorem op_makeInterface (hE : EnvOk E P) (hr : HRel P B lim hp nx ρ w) (ht : TRel N ρ tm a.tmps) {t : TypeId} {x : Operand} (ho : o.op = .makeInterface t x) (h : opA E P tm hp nx o = some (n, e)) : OpDone P o a B lim hp nx ρ w n e := by
  simp only [opA, ho, Option.bind_eq_some_iff] at h
  obtain ⟨vx, hx, h⟩ := h
  have hc := ev_ok ht hx
  split at h
  · cases h
  · rename_i d hni hu
    simp only [Option.some.injEq, Prod.mk.injEq] at h
    obtain ⟨rfl, rfl⟩ := h
    refine done_value hr (v' := .iface t (a.eval x)) ?_ (VR.mkIface hc)
    unfold execOp
    simp only [ho, Instr.makeInterface, Sem.run_bind, hE.run_und hu, Result.andThen_ok]
    cases d with
    | interface ms => exact (hni ms rfl).elim
    | _ => rfl
  · cases h
theorem op_makeFunc (hr : HRel P B lim hp nx ρ w) (ht : TRel N ρ tm a.tmps) {f : Fn} {fi ca : Array Operand} (ho : o.op = .makeFunc f fi ca) (h : opA E P tm hp nx o = some (n, e)) : OpDone P o a B lim hp nx ρ w n e := by
  simp only [opA, ho] at h
  cases f with
  | func f =>
    simp only [Option.bind_eq_some_iff, Option.some.injEq, Prod.mk.injEq] at h
    obtain ⟨l1, h1, l2, h2, rfl, rfl⟩ := h
    have e1 := evs_ok ht h1
    have e2 := evs_ok ht h2
    refine done_value hr (v' := .func (.func f) (fi.map a.eval) (ca.map a.eval)) ?_ ?_
    · unfold execOp
      simp only [ho, Instr.makeFunc, Sem.run_bind, Sem.run_pure, Result.andThen_ok]
    · have := VR.mkFunc (f := f) e1 e2
      rwa [show (⟨fi.toList.map a.eval⟩ : Array Value) = fi.map a.eval from by apply Array.toList_inj.1; simp, show (⟨ca.toList.map a.eval⟩ : Array Value) = ca.map a.eval from by apply Array.toList_inj.1; simp] at this
  | _ => cases h
theorem op_extract (hr : HRel P B lim hp nx ρ w) (ht : TRel N ρ tm a.tmps) {i : Nat} {x : Operand} (ho : o.op = .extract x i) (h : opA E P tm hp nx o = some (n, e)) : OpDone P o a B lim hp nx ρ w n e := by
  simp only [opA, ho, Option.bind_eq_some_iff] at h
  obtain ⟨vx, hx, h⟩ := h
  have hc := ev_ok ht hx
  split at h
  · rename_i vs
    obtain ⟨vs⟩ := vs
    obtain ⟨v, hv, rfl, rfl⟩ := val_some h
    obtain ⟨vs', h1, e1⟩ := hc.tuple
    obtain ⟨y, hy, hvy⟩ := h1.get i v (by simpa using hv)
    exact done_value hr (v' := y) (by unfold execOp; simp [ho, e1, Instr.extract, hy]) hvy
  · cases h
theorem op_fieldAddr (hE : EnvOk E P) (hr : HRel P B lim hp nx ρ w) (ht : TRel N ρ tm a.tmps) {t : TypeId} {f : Nat} {x : Operand} (ho : o.op = .fieldAddr t x f) (h : opA E P tm hp nx o = some (n, e)) : OpDone P o a B lim hp nx ρ w n e := by
  simp only [opA, ho, Option.bind_eq_some_iff] at h
  obtain ⟨vx, hx, h⟩ := h
  have hc := ev_ok ht hx
  split at h
  · rename_i ad
    split at h
    · rename_i fs hu
      simp only [Option.bind_eq_some_iff] at h
      obtain ⟨fd, hf, m, hm, h⟩ := h
      split at h
      · cases h
      · rename_i hm0
        simp only [Option.some.injEq, Prod.mk.injEq] at h
        obtain ⟨rfl, rfl⟩ := h
        obtain ⟨p, hp0, _, e1⟩ := hc.pointer
        refine done_value hr (v' := .pointer (some ⟨p.1.block, p.1.off + (ad.off + fd.offset), none⟩)) ?_ (VR.mkPtr hp0)
        unfold execOp
        simp only [ho, e1, Instr.fieldAt, Sem.run_bind, hE.run_und hu, Result.andThen_ok, hf, Instr.sureAddr, Sem.run_pure, fieldPlace, hE.size hm, if_neg hm0, add_mk, Nat.add_assoc]
    · cases h
  · cases h
theorem op_field (hE : EnvOk E P) (hr : HRel P B lim hp nx ρ w) (ht : TRel N ρ tm a.tmps) {t : TypeId} {f : Nat} {x : Operand} (ho : o.op = .field t x f) (h : opA E P tm hp nx o = some (n, e)) : OpDone P o a B lim hp nx ρ w n e := by
  simp only [opA, ho, Option.bind_eq_some_iff] at h
  obtain ⟨vx, hx, h⟩ := h
  have hc := ev_ok ht hx
  split at h
  · rename_i cs
    obtain ⟨cs⟩ := cs
    split at h
    · rename_i fs hu
      simp only [Option.bind_eq_some_iff] at h
      obtain ⟨fd, hf, h⟩ := h
      obtain ⟨v, hv, rfl, rfl⟩ := val_some h
      obtain ⟨cs', h1, e1⟩ := hc.agg
      obtain ⟨v', h2, h3⟩ := part_ok (w := w) hE h1 hv
      refine done_value hr (v' := v') ?_ h3
      unfold execOp
      simp only [ho, e1, Instr.field, Sem.run_bind, hE.run_und hu, Result.andThen_ok, hf, asAgg, Sem.run_pure, h2]
    · cases h
  · cases h
theorem op_indexAddr (hE : EnvOk E P) (hr : HRel P B lim hp nx ρ w) (ht : TRel N ρ tm a.tmps) {t : TypeId} {x y : Operand} (ho : o.op = .indexAddr t x y) (h : opA E P tm hp nx o = some (n, e)) : OpDone P o a B lim hp nx ρ w n e := by
  simp only [opA, ho, Option.bind_eq_some_iff] at h
  obtain ⟨vx, hx, vy, hy, h⟩ := h
  have hcx := ev_ok ht hx
  have hcy := ev_ok ht hy
  split at h
  · rename_i el ad len C k i hu
    simp only [Option.bind_eq_some_iff] at h
    obtain ⟨sz, hsz, h⟩ := h
    split at h
    · rename_i hb
      simp only [Option.some.injEq, Prod.mk.injEq] at h
      obtain ⟨rfl, rfl⟩ := h
      obtain ⟨p, c, hp0, _, e1, _⟩ := hcx.slice
      have e2 := hcy.int
      refine done_value hr (v' := .pointer (some ⟨p.1.block, p.1.off + (ad.off + i.toNat * sz), none⟩)) ?_ (VR.mkPtr hp0)
      unfold execOp
      simp only [ho, e1, e2, Instr.indexAt, asIntOf, Sem.run_bind, Sem.run_pure, hE.run_und hu, Result.andThen_ok, if_pos hb, hE.size hsz, add_mk, Nat.add_assoc]
    · cases h
  · rename_i len el ad k i hu
    simp only [Option.bind_eq_some_iff] at h
    obtain ⟨sz, hsz, h⟩ := h
    split at h
    · rename_i hb
      simp only [Option.some.injEq, Prod.mk.injEq] at h
      obtain ⟨rfl, rfl⟩ := h
      obtain ⟨p, hp0, _, e1⟩ := hcx.pointer
      have e2 := hcy.int
      refine done_value hr (v' := .pointer (some ⟨p.1.block, p.1.off + (ad.off + i.toNat * sz), none⟩)) ?_ (VR.mkPtr hp0)
      unfold execOp
      simp only [ho, e1, e2, Instr.indexAt, Instr.sureAddr, asIntOf, Sem.run_bind, Sem.run_pure, hE.run_und hu, Result.andThen_ok, if_pos hb, hE.size hsz, add_mk, Nat.add_assoc]
    · cases h
  · cases h
theorem op_index (hE : EnvOk E P) (hr : HRel P B lim hp nx ρ w) (ht : TRel N ρ tm a.tmps) {t : TypeId} {x y : Operand} (ho : o.op = .index t x y) (h : opA E P tm hp nx o = some (n, e)) : OpDone P o a B lim hp nx ρ w n e := by
  simp only [opA, ho, Option.bind_eq_some_iff] at h
  obtain ⟨vx, hx, vy, hy, h⟩ := h
  have hcx := ev_ok ht hx
  have hcy := ev_ok ht hy
  split at h
  · rename_i len el cs k i hu
    obtain ⟨cs⟩ := cs
    simp only [Option.bind_eq_some_iff] at h
    obtain ⟨sz, hsz, h⟩ := h
    split at h
    · rename_i hb
      obtain ⟨v, hv, rfl, rfl⟩ := val_some h
      obtain ⟨cs', h1, e1⟩ := hcx.agg
      have e2 := hcy.int
      obtain ⟨v', h2, h3⟩ := part_ok (w := w) hE h1 hv
      refine done_value hr (v' := v') ?_ h3
      unfold execOp
      simp only [ho, e1, e2, Instr.index, asIntOf, Sem.run_bind, Sem.run_pure, hE.run_und hu, Result.andThen_ok, if_pos hb, hE.size hsz, h2]
    · cases h
  · rename_i s k i hu
    split at h
    · rename_i hb
      simp only [Option.bind_eq_some_iff, Option.some.injEq, Prod.mk.injEq] at h
      obtain ⟨u, hu', rfl, rfl⟩ := h
      have e1 := hcx.string
      have e2 := hcy.int
      refine done_value hr (v' := .int .u8 u.toNat) ?_ rfl
      unfold execOp
      simp only [ho, e1, e2, Instr.index, asIntOf, Sem.run_bind, Sem.run_pure, hE.run_und hu, Result.andThen_ok, if_pos hb, hu']
    · cases h
  · cases h
theorem op_panic (hr : HRel P B lim hp nx ρ w) (ht : TRel N ρ tm a.tmps) {x : Operand} (ho : o.op = .panic x) (h : opA E P tm hp nx o = some (n, e)) : OpDone P o a B lim hp nx ρ w n e := by
  simp only [opA, ho, Option.bind_eq_some_iff] at h
  obtain ⟨vx, hx, h⟩ := h
  have hc := ev_ok ht hx
  split at h
  · simp only [Option.some.injEq, Prod.mk.injEq] at h
    obtain ⟨rfl, rfl⟩ := h
    obtain ⟨u, hu, e1⟩ := hc.iface
    refine ⟨ρ, w, hr, Step.refl _ _ _ _, a.eval x, ?_, hc⟩
    unfold execOp
    simp only [ho, e1, Instr.panic, Sem.run_bind, run_goPanic, Result.andThen_halt]
  · cases h
theorem asserted_zero (hE : EnvOk E P) {t : TypeId} {z : Value} (hz : E.zero t = some z) : VR ρ (.tuple #[z, .bool false]) (.tuple #[z, .bool false]) :=
  VR.mkTuple (cs := [z, .bool false]) ⟨flatZ_ren ρ z (hE.zflat hz), rfl, trivial⟩
theorem op_typeAssert (hE : EnvOk E P) (hr : HRel P B lim hp nx ρ w) (ht : TRel N ρ tm a.tmps) {t xt : TypeId} {x : Operand} {ok : Bool} (ho : o.op = .typeAssert x xt t ok) (h : opA E P tm hp nx o = some (n, e)) : OpDone P o a B lim hp nx ρ w n e := by
  simp only [opA, ho, Option.bind_eq_some_iff] at h
  obtain ⟨vx, hx, h⟩ := h
  obtain ⟨v, hv, rfl, rfl⟩ := val_some h
  have hc := ev_ok ht hx
  have hrun : ∀ v', (Instr.typeAssert (a.eval x) xt t ok).run P w = .ok v' w → (execOp a.eval o).run P w = .ok (.value v') w := fun v' hv => by
    unfold execOp; simp only [ho, Sem.run_bind, hv, Result.andThen_ok, Sem.run_pure]
  unfold aAssert at hv
  split at hv
  · rename_i want u y hu
    obtain ⟨y', hy', e1⟩ := hc.iface
    simp only [Option.bind_eq_some_iff] at hv
    obtain ⟨i, hi, hv⟩ := hv
    split at hv
    · rename_i hm
      cases ok with
      | true =>
        simp at hv; subst hv
        refine done_value hr (hrun (.tuple #[.iface u y', .bool true]) ?_) (VR.mkTuple (cs := [_, _]) (cs' := [_, _]) ⟨VR.mkIface hy', rfl, trivial⟩)
        simp [Instr.typeAssert, hE.run_und hu, e1, hE.info hi, hm]
      | false =>
        simp at hv; subst hv
        refine done_value hr (hrun (.iface u y') ?_) (VR.mkIface hy')
        simp [Instr.typeAssert, hE.run_und hu, e1, hE.info hi, hm]
    · rename_i m hm
      cases ok with
      | true =>
        simp only [if_true, Option.bind_eq_some_iff, Option.some.injEq] at hv; obtain ⟨z, hz, rfl⟩ := hv
        refine done_value hr (hrun (.tuple #[z, .bool false]) ?_) (asserted_zero hE hz)
        simp [Instr.typeAssert, hE.run_und hu, e1, hE.info hi, hm, hE.run_zero hz]
      | false => simp at hv
  · rename_i d hu
    have e1 := hc.nilIface
    cases ok with
    | true =>
      simp only [if_true, Option.bind_eq_some_iff, Option.some.injEq] at hv; obtain ⟨z, hz, rfl⟩ := hv
      refine done_value hr (hrun (.tuple #[z, .bool false]) ?_) (asserted_zero hE hz)
      cases d <;> simp [Instr.typeAssert, hE.run_und hu, e1, hE.run_zero hz]
    | false => simp at hv
  · rename_i d u y hni hu
    obtain ⟨y', hy', e1⟩ := hc.iface
    have hd : ∀ ms, d ≠ .interface ms := fun ms hd => hni ms hd
    split at hv
    · rename_i hut
      cases ok with
      | true =>
        simp at hv; subst hv
        refine done_value hr (hrun (.tuple #[y', .bool true]) ?_) (VR.mkTuple (cs := [_, _]) (cs' := [_, _]) ⟨hy', rfl, trivial⟩)
        cases d <;> first | (exact absurd rfl (hd _)) | simp [Instr.typeAssert, hE.run_und hu, e1, hut]
      | false =>
        simp at hv; subst hv
        refine done_value hr (hrun y' ?_) hy'
        cases d <;> first | (exact absurd rfl (hd _)) | simp [Instr.typeAssert, hE.run_und hu, e1, hut]
    · rename_i hut
      cases ok with
      | true =>
        simp only [if_true, Option.bind_eq_some_iff, Option.some.injEq] at hv; obtain ⟨z, hz, rfl⟩ := hv
        refine done_value hr (hrun (.tuple #[z, .bool false]) ?_) (asserted_zero hE hz)
        cases d <;> first | (exact absurd rfl (hd _)) | simp [Instr.typeAssert, hE.run_und hu, e1, hut, hE.run_zero hz]
      | false => simp at hv
  · cases hv
end
end Go.Sx
