/- The evaluator: slices made, cut, appended to, copied. -/
import Derived.Test.YtbjncdcfojjacaaGreatSxI
namespace Go.Sx
open Go Go.RowKit

section
variable {E : Env} {P : Program} {o : Oper} {a : Act} {B lim N : Nat} {hp : Hp} {nx : Nat} {ρ : Ren} {w : World} {tm : T} {n : ANext} {e : Eff}

theorem op_makeSlice (hE : EnvOk E P) (hr : HRel P B lim hp nx ρ w) (hl : nx < lim) (ht : TRel N ρ tm a.tmps) {t : TypeId} {x y : Operand} (ho : o.op = .makeSlice t x y) (h : opA E P tm hp nx o = some (n, e)) : OpDone P o a B lim hp nx ρ w n e := by
  simp only [opA, ho, Option.bind_eq_some_iff] at h
  obtain ⟨vx, hx, vy, hy, h⟩ := h
  have hcx := ev_ok ht hx
  have hcy := ev_ok ht hy
  split at h
  · rename_i el k l k' c hu
    simp only [Option.bind_eq_some_iff] at h
    obtain ⟨i, hi, z, hz, h⟩ := h
    split at h
    · rename_i hb
      obtain ⟨h0, hlc, hc6, hby⟩ := hb
      simp only [Option.some.injEq, Prod.mk.injEq] at h
      obtain ⟨rfl, rfl⟩ := h
      have e1 := hcx.int
      have e2 := hcy.int
      have hsz : E.size el = some i.size := by simp [Env.size, hi]
      have hzs := hE.zsize hz hsz
      have hall := zeros_all2 (ρ := ρ) (hE.zflat hz) c.toNat (c.toNat * i.size) (by rw [hzs])
      obtain ⟨g1, g2⟩ := all2_cells hall
      obtain ⟨r1, r2, r3⟩ := newcells_rel (w' := w.alloc (.cells ((Array.range (c.toNat * i.size)).map (z.cells[· % z.cells.size]!)) el)) (cap := 0) hr hl rfl rfl rfl rfl g1 (.inl rfl) g2
      refine ⟨_, _, r1, r2, .slice (some ⟨w.heap.size, 0, none⟩) l.toNat c.toNat, ?_, VR.mkExact (o := 0) (Ren.put_same _ _ _) (by omega)⟩
      have hwl : IntKind.i64.wrap l = l := IntWalk.i64_in _ (by omega)
      have hwc : IntKind.i64.wrap c = c := IntWalk.i64_in _ (by omega)
      have hbig : (i.bytes : Int) * c ≤ 1000000 * 1000000 := Int.mul_le_mul (by omega) hc6 (by omega) (by omega)
      have ht1 : (decide (c < 0) || decide ((i.bytes : Int) * c > 2 ^ 48)) = false := by
        simp only [Bool.or_eq_false_iff, decide_eq_false_iff_not]
        constructor <;> omega
      unfold execOp
      simp only [ho, e1, e2, Instr.makeSlice, asInt, asIntOf, Sem.run_bind, Sem.run_pure, hE.run_und hu, Result.andThen_ok, hE.info hi, hwl, hwc, ht1]
      rw [if_neg (by simp; omega)]
      simp only [Sem.run_bind, Result.andThen_ok, run_askRoom, hE.size hsz]
      by_cases h0' : c.toNat * i.size = 0
      · simp only [h0', if_true, Array.range_zero', Array.map_empty]
        rfl
      · simp only [h0', if_false, Sem.run_bind, hE.run_zero hz, Result.andThen_ok, Sem.run_pure]
        rfl
    · cases h
  · cases h

def OptVR (ρ : Ren) : Option Value → Option Value → Prop
  | none, none => True
  | some v, some v' => VR ρ v v'
  | _, _ => False
theorem evO_ok (ht : TRel N ρ tm a.tmps) {x : Option Operand} {v : Option Value} (h : evO tm x = some v) : OptVR ρ v (x.map a.eval) := by
  cases x with
  | none => simp [evO] at h; subst h; trivial
  | some x =>
    simp only [evO, Option.bind_eq_some_iff, Option.some.injEq] at h
    obtain ⟨u, hu, rfl⟩ := h
    exact ev_ok ht hu
def sliceBoundR (P : Program) (w : World) (v : Value) (y : Nat) (code : BoundsCode) : Result Nat := (Instr.sliceBound v y code).run P w
theorem num_ok {d l y : Nat} {x x' : Option Value} {code : BoundsCode} (h : num d x = some l) (hx : OptVR ρ x x') (hy : l ≤ y) :
    (match x' with | some v => sliceBoundR P w v y code | none => .ok d w) = .ok l w := by
  cases x with
  | none => cases x' with
    | none => simp [num] at h; subst h; rfl
    | some _ => exact hx.elim
  | some v => cases x' with
    | none => exact hx.elim
    | some v' =>
      cases v <;> simp only [num, reduceCtorEq] at h
      rename_i k i
      split at h
      · rename_i hi
        simp at h; subst h
        have hx : VR ρ _ v' := hx
        have := hx.int
        subst this
        simp only
        unfold sliceBoundR
        simp only [Instr.sliceBound, asIntOf, Sem.run_bind, Sem.run_pure, Result.andThen_ok]
        rw [if_pos (by omega)]; rfl
      · cases h
end
end Go.Sx
