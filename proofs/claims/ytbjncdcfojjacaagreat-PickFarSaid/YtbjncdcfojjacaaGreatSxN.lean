/- The evaluator: maps written, the other built-ins, calls. -/
import Derived.Test.YtbjncdcfojjacaaGreatSxM
namespace Go.Sx
open Go Go.RowKit

theorem EntsR.modify {ρ : Ren} {f g : MapEntry → MapEntry} (hfg : ∀ x y, EntR ρ x y → EntR ρ (f x) (g y)) {xs ys : List MapEntry} (h : EntsR ρ xs ys) (i : Nat) : EntsR ρ (xs.modify i f) (ys.modify i g) := by
  refine EntsR.of_get (by simp [h.length]) fun j x hx => ?_
  cases hxj : xs[j]? with
  | none => simp [List.getElem?_modify, hxj] at hx
  | some z =>
    obtain ⟨y, hy, hr⟩ := h.get j z hxj
    rw [List.getElem?_modify, hxj] at hx
    rw [List.getElem?_modify, hy]
    by_cases e : i = j
    · simp only [if_pos e, Option.map_eq_map, Option.map_some, Option.some.injEq] at hx ⊢
      subst hx; exact ⟨_, rfl, hfg _ _ hr⟩
    · simp only [if_neg e, Option.map_eq_map, Option.map_some, Option.some.injEq] at hx ⊢
      subst hx; exact ⟨_, rfl, hr⟩
theorem EntsR.erase {ρ : Ren} {xs ys : List MapEntry} (h : EntsR ρ xs ys) (i : Nat) : EntsR ρ (xs.eraseIdx i) (ys.eraseIdx i) := by
  refine EntsR.of_get (by simp [List.length_eraseIdx, h.length]) fun j x hx => ?_
  rw [List.getElem?_eraseIdx] at hx ⊢
  split at hx
  · rename_i e; rw [if_pos e]; exact h.get _ _ hx
  · rename_i e; rw [if_neg e]; exact h.get _ _ hx

section
variable {E : Env} {P : Program} {o : Oper} {a : Act} {B lim N : Nat} {hp : Hp} {nx : Nat} {ρ : Ren} {w : World} {tm : T} {n : ANext} {e : Eff}

theorem aStoreMap_ok (hE : EnvOk E P) (hr : HRel P B lim hp nx ρ w) {t : TypeId} {m k x m' k' x' : Value} (h : aStoreMap E hp t m k x = some e) (hm : VR ρ m m') (hk : VR ρ k k') (hx : VR ρ x x') :
    ∃ w', (Instr.mapUpdate t m' k' x').run P w = .ok () w' ∧ HRel P B lim (e.hp hp nx) (e.nx nx) ρ w' ∧ Step hp (e.hp hp nx) nx (e.nx nx) ρ ρ w w' := by
  unfold aStoreMap at h
  split at h
  · rename_i r kt el hu
    simp only [Option.bind_eq_some_iff] at h
    obtain ⟨d, hd, h⟩ := h
    obtain ⟨p, hp0, rfl⟩ := hm.map
    split at h
    · rename_i es c hob
      by_cases hkf : keyFlat d k = true
      · rw [if_pos hkf] at h
        simp only [Option.bind_eq_some_iff] at h
        obtain ⟨f, hf, h⟩ := h
        have ek := keyFlat_eq hkf hk
        subst ek
        obtain ⟨es', g1, g2⟩ := map_obj hr hob hp0
        obtain ⟨r', f1, f2⟩ := findKey_ok hf g2
        have hfk := run_findKey (P := P) (w := w) (kt := kt) hE hd f1
        cases f with
        | some z =>
          cases r' with
          | none => exact f2.elim
          | some z' =>
            simp only [Option.some.injEq] at h
            subst h
            obtain ⟨hz1, _⟩ := f2
            obtain ⟨_, en, he1, he2⟩ := findNow_key hkf f1
            rw [Nat.sub_zero] at he1
            obtain ⟨s1, s2⟩ := setmap_rel (c1 := c) (es1 := es.modify z.1 fun e => { e with key := k', val := x }) (es1' := es'.modify z.1 fun e => { e with key := k', val := x' }) hr hob hp0
              (by rw [Array.toList_modify]; refine g2.modify ?_ _; exact fun a b hab => ⟨hk, hx, hab.2.2⟩)
            refine ⟨_, ?_, s1, s2⟩
            have hkts : ∀ w : World, (Instr.keyThatStays en.key k').run P w = .ok k' w := fun w => by
              unfold Instr.keyThatStays
              rw [if_pos (he2 _)]; rfl
            have he1' : es'[z'.1]? = some en := by simpa using he1
            unfold Instr.mapUpdate
            simp only [Sem.run_bind, hE.run_und hu, Result.andThen_ok, run_getMap g1, checkKey_lit hE hd hkf, hfk, he1', Option.map_some, Option.getD_some, hkts]
            rw [run_setMap g1, hz1]
        | none =>
          cases r' with
          | some _ => exact f2.elim
          | none =>
            simp only [Option.some.injEq] at h
            subst h
            obtain ⟨s1, s2⟩ := setmap_rel (c1 := c + 1) (es1 := es ++ [⟨k', x, c⟩]) (es1' := es'.push ⟨k', x', c⟩) hr hob hp0
              (by rw [Array.toList_push]; exact g2.append ⟨⟨hk, hx, rfl⟩, trivial⟩)
            refine ⟨_, ?_, s1, s2⟩
            unfold Instr.mapUpdate
            simp only [Sem.run_bind, hE.run_und hu, Result.andThen_ok, run_getMap g1, checkKey_lit hE hd hkf, hfk]
            rw [run_setMap g1]
      · rw [if_neg hkf] at h; cases h
    · cases h
  · cases h
theorem op_mapUpdate (hE : EnvOk E P) (hr : HRel P B lim hp nx ρ w) (ht : TRel N ρ tm a.tmps) {t : TypeId} {x y z : Operand} (ho : o.op = .mapUpdate t x y z ∨ o.op = .insert t x y z) (h : opA E P tm hp nx o = some (n, e)) : OpDone P o a B lim hp nx ρ w n e := by
  have h' : ((ev tm x).bind fun m => (ev tm y).bind fun k => (ev tm z).bind fun x => (aStoreMap E hp t m k x).bind fun e => some (ANext.skip, e)) = some (n, e) := by
    rcases ho with ho | ho <;> simpa only [opA, ho] using h
  simp only [Option.bind_eq_some_iff, Option.some.injEq, Prod.mk.injEq] at h'
  obtain ⟨m, hm, k, hk, v, hv, e', he, rfl, rfl⟩ := h'
  obtain ⟨w', r1, r2, r3⟩ := aStoreMap_ok hE hr he (ev_ok ht hm) (ev_ok ht hk) (ev_ok ht hv)
  refine ⟨ρ, w', r2, r3, ?_⟩
  show (execOp a.eval o).run P w = .ok .skip w'
  unfold execOp
  rcases ho with ho | ho <;> simp only [ho, Sem.run_bind, r1, Result.andThen_ok, Sem.run_pure]

theorem copy_ok (hE : EnvOk E P) (hr : HRel P B lim hp nx ρ w) {t el ty : TypeId} {ts : Array TypeId} {sz n C m C2 k : Nat} {d s : Option Addr} {d' s' v : Value} (hts : ts[0]? = some t) (hu : E.und t = some (.slice el)) (hsz : E.size el = some sz) (hk : k = Nat.min m n)
    (h : (if k = 0 then some (Value.int .i64 0, Eff.none) else match d, s with
      | some da, some sa => (hread hp sa (k * sz)).bind fun c => (hwrite hp da c).bind fun o => some (.int .i64 k, .upd da.block o)
      | _, _ => none) = some (v, e)) (hd : VR ρ (.slice d n C) d') (hs : VR ρ (.slice s m C2) s') :
    BDone P (Builtin.copy_ ts ty #[d', s']) B lim hp nx ρ w v e := by
  have hs2 : ∃ sb c2, s' = .slice sb m c2 := by
    cases s with
    | none => obtain ⟨rfl, _, rfl⟩ := hs.sliceNil; exact ⟨_, _, rfl⟩
    | some b => obtain ⟨p, c, _, _, rfl, _⟩ := hs.slice; exact ⟨_, _, rfl⟩
  have hd2 : ∃ db c2, d' = .slice db n c2 := by
    cases d with
    | none => obtain ⟨rfl, _, rfl⟩ := hd.sliceNil; exact ⟨_, _, rfl⟩
    | some b => obtain ⟨p, c, _, _, rfl, _⟩ := hd.slice; exact ⟨_, _, rfl⟩
  by_cases hk0 : k = 0
  · rw [if_pos hk0] at h
    simp only [Option.some.injEq, Prod.mk.injEq] at h
    obtain ⟨rfl, rfl⟩ := h
    obtain ⟨sb, c2, rfl⟩ := hs2
    obtain ⟨db, c3, rfl⟩ := hd2
    refine bdone_value hr (v' := .int .i64 0) ?_ rfl
    have hmn : Nat.min m n = 0 := by omega
    have hf : (Builtin.firstCells sz 0 (.slice sb m c2)).run P w = .ok #[] w := by
      cases sb with
      | none => simp [Builtin.firstCells]
      | some b => simp [Builtin.firstCells, loadCells, loadCellsFrom]
    have hst : ∀ x : Addr, (storeCells x []).run P w = .ok () w := fun x => rfl
    cases db <;> simp [Builtin.copy_, hts, hE.run_und hu, Builtin.lenOf, hmn, hE.size hsz, hf, hst, goInt]
  · rw [if_neg hk0] at h
    cases d with
    | none => cases h
    | some da =>
      cases s with
      | none => cases h
      | some sa =>
        simp only [Option.bind_eq_some_iff, Option.some.injEq, Prod.mk.injEq] at h
        obtain ⟨c, hc, ob, hw, rfl, rfl⟩ := h
        obtain ⟨p, c1, hp0, hps, rfl, _⟩ := hd.slice
        obtain ⟨q, c2, hq0, hqs, rfl, _⟩ := hs.slice
        obtain ⟨l', e1, e2, e3⟩ := hread_ok hr hc hq0
        unfold hwrite at hw
        split at hw
        · rename_i cl el' hcl
          split at hw
          · rename_i h1
            simp only [Option.bind_eq_some_iff, Option.some.injEq] at hw
            obtain ⟨c', hset, rfl⟩ := hw
            obtain ⟨w', f1, f2, f3⟩ := laid_ok (P := P) hr hcl hset h1 hp0 e1
            have hf := run_firstCells_some (P := P) w sz k ⟨q.1.block, q.1.off + sa.off, none⟩ m c2 l' e2 e3
            refine ⟨ρ, w', .int .i64 k, f2, f3, ?_, rfl⟩
            subst hk
            simp [Builtin.copy_, hts, hE.run_und hu, Builtin.lenOf, hE.size hsz, hf, f1, goInt]
          · cases hw
        · cases hw
theorem minI_ok {l l' : List Value} {v : Value} (h : minI l = some v) (hl : All2 (VR ρ) l l') (ts : Array TypeId) (ty : TypeId) : (Builtin.min_ ts ty ⟨l'⟩).run P w = .ok v w ∧ VR ρ v v := by
  unfold minI at h
  split at h
  · split at h
    · rename_i k x k' y hk
      subst hk
      simp at h; subst h
      cases l' with
      | nil => exact hl.elim
      | cons b l' => cases l' with
        | nil => exact hl.2.elim
        | cons c l' => cases l' with
          | nil => cases hl.1.int; cases hl.2.1.int; exact ⟨by simp [Builtin.min_, Builtin.min2], rfl⟩
          | cons _ _ => exact hl.2.2.elim
    · cases h
  · cases h
theorem maxI_ok {l l' : List Value} {v : Value} (h : maxI l = some v) (hl : All2 (VR ρ) l l') (ts : Array TypeId) (ty : TypeId) : (Builtin.max_ ts ty ⟨l'⟩).run P w = .ok v w ∧ VR ρ v v := by
  unfold maxI at h
  split at h
  · split at h
    · rename_i k x k' y hk
      subst hk
      simp at h; subst h
      cases l' with
      | nil => exact hl.elim
      | cons b l' => cases l' with
        | nil => exact hl.2.elim
        | cons c l' => cases l' with
          | nil => cases hl.1.int; cases hl.2.1.int; exact ⟨by simp [Builtin.max_, Builtin.max2], rfl⟩
          | cons _ _ => exact hl.2.2.elim
    · cases h
  · cases h
theorem all2_one {x : Value} {l' : List Value} (h : All2 (VR ρ) [x] l') : ∃ y, l' = [y] ∧ VR ρ x y := by
  cases l' with
  | nil => exact h.elim
  | cons y l' => cases l' with
    | nil => exact ⟨y, rfl, h.1⟩
    | cons _ _ => exact h.2.elim
theorem all2_two {x y : Value} {l' : List Value} (h : All2 (VR ρ) [x, y] l') : ∃ x' y', l' = [x', y'] ∧ VR ρ x x' ∧ VR ρ y y' := by
  cases l' with
  | nil => exact h.elim
  | cons x' l' => obtain ⟨y', rfl, h2⟩ := all2_one h.2; exact ⟨x', y', rfl, h.1, h2⟩
/-- a built-in function, of related arguments -/
def builtinRun (b : Builtin) (ts : Array TypeId) (ty : TypeId) (args : Array Value) : Sem Value :=
  match b with
  | .len => Builtin.len_ ts ty args
  | .append => Builtin.append_ ts ty args
  | .min => Builtin.min_ ts ty args
  | .max => Builtin.max_ ts ty args
  | .copy => Builtin.copy_ ts ty args
  | .delete => Builtin.delete_ ts ty args
  | _ => stuck ""
theorem aBuiltin_ok (hE : EnvOk E P) (hr : HRel P B lim hp nx ρ w) (hl : nx < lim) {b : Builtin} {ts : Array TypeId} {ty : TypeId} {args args' : List Value} {v : Value} (h : aBuiltin E hp nx b ts args = some (v, e)) (ha : All2 (VR ρ) args args') :
    (b = .len ∨ b = .append ∨ b = .min ∨ b = .max ∨ b = .copy ∨ b = .delete) ∧ BDone P (builtinRun b ts ty ⟨args'⟩) B lim hp nx ρ w v e := by
  unfold aBuiltin at h
  split at h
  · rename_i x
    refine ⟨by simp, ?_⟩
    simp only [Option.bind_eq_some_iff] at h
    obtain ⟨t, ht, h⟩ := h
    obtain ⟨x', rfl, hx⟩ := all2_one ha
    unfold builtinRun
    split at h
    · rename_i o1 v1 el base k C hu
      simp only [Option.some.injEq, Prod.mk.injEq] at h
      obtain ⟨rfl, rfl⟩ := h
      have hx2 : ∃ sb c2, x' = .slice sb k c2 := by
        cases base with
        | none => obtain ⟨rfl, _, rfl⟩ := hx.sliceNil; exact ⟨_, _, rfl⟩
        | some b => obtain ⟨p, c, _, _, rfl, _⟩ := hx.slice; exact ⟨_, _, rfl⟩
      obtain ⟨sb, c2, rfl⟩ := hx2
      exact bdone_value hr (v' := .int .i64 k) (by simp [Builtin.len_, ht, hE.run_und hu, goInt]) rfl
    · rename_i s hu
      simp only [Option.some.injEq, Prod.mk.injEq] at h
      obtain ⟨rfl, rfl⟩ := h
      cases hx.string
      exact bdone_value hr (v' := .int .i64 s.size) (by simp [Builtin.len_, ht, hE.run_und hu, goInt]) rfl
    · rename_i kt el r hu
      simp only [Option.bind_eq_some_iff, Option.some.injEq, Prod.mk.injEq] at h
      obtain ⟨es, hes, rfl, rfl⟩ := h
      obtain ⟨es', g1, g2⟩ := mapOf_ok hr hes hx
      have hlen := g1.length
      simp only [Array.length_toList] at hlen
      refine bdone_value hr (v' := .int .i64 es.length) ?_ rfl
      rcases g2 with ⟨rfl, rfl⟩ | ⟨r', c, rfl, q2⟩
      · simp at hlen; simp [Builtin.len_, ht, hE.run_und hu, goInt, ← hlen]
      · simp [Builtin.len_, ht, hE.run_und hu, goInt, run_getMap q2, hlen]
    · rename_i hu
      simp only [Option.some.injEq, Prod.mk.injEq] at h
      obtain ⟨rfl, rfl⟩ := h
      refine bdone_value hr ?_ (rfl : VR ρ _ _)
      simp [Builtin.len_, ht, hE.run_und hu, goInt]
    · cases h
  · refine ⟨by simp, ?_⟩
    obtain ⟨s', x', rfl, hs, hx⟩ := all2_two ha
    split at h
    · rename_i t t'
      by_cases htt : t = t'
      · rw [if_pos htt] at h
        subst htt
        exact aAppend_ok (ty := ty) hE hr hl h hs hx
      · rw [if_neg htt] at h; cases h
    · cases h
  · refine ⟨by simp, ?_⟩
    simp only [Option.bind_eq_some_iff, Option.some.injEq, Prod.mk.injEq] at h
    obtain ⟨u, hu, rfl, rfl⟩ := h
    obtain ⟨h1, h2⟩ := minI_ok (P := P) (w := w) hu ha ts ty
    exact bdone_value hr h1 h2
  · refine ⟨by simp, ?_⟩
    simp only [Option.bind_eq_some_iff, Option.some.injEq, Prod.mk.injEq] at h
    obtain ⟨u, hu, rfl, rfl⟩ := h
    obtain ⟨h1, h2⟩ := maxI_ok (P := P) (w := w) hu ha ts ty
    exact bdone_value hr h1 h2
  · rename_i d k C s m C2
    refine ⟨by simp, ?_⟩
    obtain ⟨d', s', rfl, hd, hs⟩ := all2_two ha
    simp only [Option.bind_eq_some_iff] at h
    obtain ⟨t, ht, h⟩ := h
    split at h
    · rename_i el hu
      simp only [Option.bind_eq_some_iff] at h
      obtain ⟨sz, hsz, h⟩ := h
      exact copy_ok (ty := ty) hE hr ht hu hsz rfl h hd hs
    · cases h
  · rename_i r k
    refine ⟨by simp, ?_⟩
    obtain ⟨m', k', rfl, hm, hk⟩ := all2_two ha
    simp only [Option.bind_eq_some_iff] at h
    obtain ⟨t, ht, h⟩ := h
    split at h
    · rename_i kt el hu
      simp only [Option.bind_eq_some_iff] at h
      obtain ⟨d, hd, h⟩ := h
      obtain ⟨p, hp0, rfl⟩ := hm.map
      split at h
      · rename_i es c hob
        by_cases hkf : keyFlat d k = true
        · rw [if_pos hkf] at h
          simp only [Option.bind_eq_some_iff] at h
          obtain ⟨f, hf, h⟩ := h
          have ek := keyFlat_eq hkf hk
          subst ek
          obtain ⟨es', g1, g2⟩ := map_obj hr hob hp0
          obtain ⟨r', f1, f2⟩ := findKey_ok hf g2
          have hfk := run_findKey (P := P) (w := w) (kt := kt) hE hd f1
          unfold builtinRun
          cases f with
          | some z =>
            cases r' with
            | none => exact f2.elim
            | some z' =>
              simp only [Option.some.injEq, Prod.mk.injEq] at h
              obtain ⟨rfl, rfl⟩ := h
              obtain ⟨s1, s2⟩ := setmap_rel (c1 := c) (es1 := es.eraseIdx z.1) (es1' := es'.eraseIdxIfInBounds z.1) hr hob hp0
                (by rw [Array.toList_eraseIdxIfInBounds]; exact g2.erase _)
              refine ⟨ρ, _, .tuple #[], s1, s2, ?_, rfl⟩
              simp only [Builtin.delete_, List.getElem?_toArray, ht, f2.1]
              simp [hE.run_und hu, run_getMap g1, checkKey_lit hE hd hkf, hfk, run_setMap g1]
          | none =>
            cases r' with
            | some _ => exact f2.elim
            | none =>
              simp only [Option.some.injEq, Prod.mk.injEq] at h
              obtain ⟨rfl, rfl⟩ := h
              obtain ⟨s1, s2⟩ := setmap_rel (c1 := c) (es1 := es) (es1' := es') hr hob hp0 g2
              refine ⟨ρ, _, .tuple #[], s1, s2, ?_, rfl⟩
              simp only [Builtin.delete_, List.getElem?_toArray, ht]
              simp [hE.run_und hu, run_getMap g1, checkKey_lit hE hd hkf, hfk, run_setMap g1]
        · rw [if_neg hkf] at h; cases h
      · cases h
    · cases h
  · cases h
end
end Go.Sx
