/- The evaluator: what its readings and effects are in the model's world. -/
import Derived.Test.YtbjncdcfojjacaaGreatSxB
namespace Go.Sx
open Go Go.RowKit

structure EnvOk (E : Env) (P : Program) : Prop where
  ty : ∀ t i, E.ty.get t = some i → P.info? t = some i
  fn : ∀ f g, E.fn.get f = some g → P.funcs[f]? = some g
  zero : ∀ t i, E.ty.get t = some i → zeroOk i = true
  fields : ∀ t i fs, E.ty.get t = some i → i.desc = .struct fs → ∀ f ∈ fs.toList, (E.ty.get f.type).isSome = true
  mixed : P.follows .mixedOrders = true
  name : ∀ f g, E.fn.get f = some g → plainName g.name = true
  clone : ∀ f g, E.clone = some f → P.funcs[f]? = some g → Extern.findNext g = none ∧ Extern.find g = some Extern.MapsClone.clone

theorem zerosOk_get (n : Nat) : ∀ (l : List TypeInfo), zerosOk n l = true → ∀ (t : Nat) (i : TypeInfo), l[t]? = some i → zeroOk i = true ∧ fieldsOk n i = true
  | [], _, t, i, h => by simp at h
  | x :: l, h, 0, i, hi => by simp at hi; subst hi; simp [zerosOk] at h; exact h.1
  | x :: l, h, t + 1, i, hi => by simp [zerosOk] at h; exact zerosOk_get n l h.2 t i (by simpa using hi)
theorem fieldsIn_mem (n : Nat) : ∀ (l : List Field), fieldsIn n l = true → ∀ f ∈ l, f.type < n
  | f :: l, h, g, hg => by
    simp only [fieldsIn, Bool.and_eq_true] at h
    cases hg with
    | head => simpa using h.1
    | tail _ hg => exact fieldsIn_mem n l h.2 g hg
theorem info_of_get {P : Program} {t : TypeId} {i : TypeInfo} (h : P.types[t]? = some i) : P.info? t = some i := by
  unfold Tables.info?
  rw [if_pos (Array.getElem?_eq_some_iff.1 h).1, h]
theorem plainNames_get : ∀ (l : List Func), plainNames l = true → ∀ (t : Nat) (i : Func), l[t]? = some i → plainName i.name = true
  | [], _, t, i, h => by simp at h
  | x :: l, h, 0, i, hi => by simp at hi; subst hi; simp only [plainNames, Bool.and_eq_true] at h; exact h.1
  | x :: l, h, t + 1, i, hi => by simp only [plainNames, Bool.and_eq_true] at h; exact plainNames_get l h.2 t i (by simpa using hi)
theorem EnvOk.of {P : Program} {c : Option FuncId} (h1 : P.types.size < 2 ^ 39) (h2 : P.funcs.size < 2 ^ 39) (hz : zerosOk P.types.size P.types.toList = true) (hm : P.follows .mixedOrders = true) (hn : plainNames P.funcs.toList = true)
    (hc : ∀ f g, c = some f → P.funcs[f]? = some g → Extern.findNext g = none ∧ Extern.find g = some Extern.MapsClone.clone) : EnvOk (Env.of P c) P where
  ty t i h := by
    simp only [Env.of] at h
    rw [Tr.get_ofList _ _ (by simp; omega)] at h
    exact info_of_get (by simpa using h)
  fn f g h := by
    simp only [Env.of] at h
    rw [Tr.get_ofList _ _ (by simp; omega)] at h
    simpa using h
  zero t i h := by
    simp only [Env.of] at h
    rw [Tr.get_ofList _ _ (by simp; omega)] at h
    exact (zerosOk_get _ _ hz t i h).1
  fields t i fs h hd f hf := by
    simp only [Env.of] at h ⊢
    rw [Tr.get_ofList _ _ (by simp; omega)] at h ⊢
    have := (zerosOk_get _ _ hz t i h).2
    simp only [fieldsOk, hd] at this
    have := fieldsIn_mem _ _ this f hf
    simp [this]
  mixed := hm
  name f g h := by
    simp only [Env.of] at h
    rw [Tr.get_ofList _ _ (by simp; omega)] at h
    exact plainNames_get _ hn f g h
  clone := hc

section env
variable {E : Env} {P : Program}
theorem EnvOk.und (hE : EnvOk E P) {t : TypeId} {d : TypeDesc} (h : E.und t = some d) : P.underlying t = some d := by
  unfold Env.und at h
  unfold Program.underlying
  cases hi : E.ty.get t with
  | none => simp [hi] at h
  | some i =>
    rw [hi] at h
    rw [hE.ty t i hi]
    dsimp only at h ⊢
    cases hd : i.desc with
    | named n u =>
      rw [hd] at h
      dsimp only at h
      cases hu : E.ty.get u with
      | none => simp [hu] at h
      | some j =>
        rw [hu] at h
        have : i = { i with desc := .named n u } := by rw [← hd]
        rw [this]
        simp only [hE.ty u j hu]
        simpa using h
    | _ =>
      rw [hd] at h
      dsimp only at h
      split
      · rename_i e; simp only [Option.some.injEq] at e; subst e; simp at hd
      · rename_i e; simp only [Option.some.injEq] at e; subst e; rw [hd]; exact h
      · rename_i e; cases e
theorem EnvOk.info (hE : EnvOk E P) {t : TypeId} {i : TypeInfo} (h : E.ty.get t = some i) (w : World) : (typeInfo t).run P w = .ok i w := by
  simp [typeInfo, hE.ty t i h]
theorem EnvOk.size (hE : EnvOk E P) {t : TypeId} {n : Nat} (h : E.size t = some n) (w : World) : (sizeOf t).run P w = .ok n w := by
  unfold Env.size at h
  cases hi : E.ty.get t with
  | none => simp [hi] at h
  | some i => simp [hi] at h; simp [sizeOf, hE.info hi, h]
theorem EnvOk.und_fields (hE : EnvOk E P) {t : TypeId} {fs : Array Field} (h : E.und t = some (.struct fs)) : ∀ f ∈ fs.toList, (E.size f.type).isSome = true := by
  intro f hf
  have key : ∀ u i, E.ty.get u = some i → i.desc = .struct fs → (E.size f.type).isSome = true := fun u i hi hd => by
    have := hE.fields u i fs hi hd f hf
    simp [Env.size, this]
  unfold Env.und at h
  cases hi : E.ty.get t with
  | none => simp [hi] at h
  | some i =>
    rw [hi] at h
    dsimp only at h
    split at h
    · rename_i u hd
      cases hu : E.ty.get u with
      | none => simp [hu] at h
      | some j => simp [hu] at h; exact key u j hu h
    · simp at h; exact key t i hi h
theorem EnvOk.run_und (hE : EnvOk E P) {t : TypeId} {d : TypeDesc} (h : E.und t = some d) (w : World) : (underlying t).run P w = .ok d w := run_underlying (hE.und h) w
theorem EnvOk.of_zero (hE : EnvOk E P) {t : TypeId} {z : Value} (h : E.zero t = some z) : ∃ i, E.ty.get t = some i ∧ i.zero = some z ∧ flatZ z = true ∧ z.cells.size = i.size := by
  unfold Env.zero at h
  cases hi : E.ty.get t with
  | none => simp [hi] at h
  | some i =>
    cases hz : i.zero with
    | none => simp [hi, hz] at h
    | some z' =>
      simp only [hi, hz, Option.bind_some] at h
      cases hb : isAggV z' || flat z' with
      | false => simp [hb] at h
      | true =>
        simp only [hb, Option.some.injEq] at h
        subst h
        have := hE.zero t i hi
        simp only [zeroOk, hz, hb, Bool.and_eq_true] at this
        exact ⟨i, rfl, hz, this.1, Nat.eq_of_beq_eq_true this.2⟩
theorem EnvOk.run_zero (hE : EnvOk E P) {t : TypeId} {z : Value} (h : E.zero t = some z) (w : World) : (zeroValue t).run P w = .ok z w := by
  obtain ⟨i, hi, hz, _⟩ := hE.of_zero h
  simp [zeroValue, hE.info hi, hz]
theorem EnvOk.agg (hE : EnvOk E P) {t : TypeId} {b : Bool} (h : E.agg t = some b) (w : World) : (isAgg t).run P w = .ok b w := by
  unfold Env.agg at h
  cases hu : E.und t with
  | none => simp [hu] at h
  | some d =>
    rw [hu] at h
    cases d <;> simp at h <;> subst h <;> simp [isAgg, hE.run_und hu]
theorem EnvOk.zflat (hE : EnvOk E P) {t : TypeId} {z : Value} (h : E.zero t = some z) : flatZ z = true := let ⟨_, _, _, h, _⟩ := hE.of_zero h; h
theorem EnvOk.zsize (hE : EnvOk E P) {t : TypeId} {z : Value} {n : Nat} (h : E.zero t = some z) (hn : E.size t = some n) : z.cells.size = n := by
  obtain ⟨i, hi, _, _, hs⟩ := hE.of_zero h
  unfold Env.size at hn
  simp [hi] at hn
  exact hs.trans hn
end env

/-! ### values without an address -/
theorem flat_ren (ρ : Ren) : ∀ v, flat v = true → VR ρ v v := by
  intro v h
  unfold flat at h
  split at h <;> first | rfl | skip
  · rename_i n c; simp at h; obtain ⟨rfl, rfl⟩ := h; rfl
  · cases h
theorem flatL_ren (ρ : Ren) : ∀ l, flatL l = true → All2 (VR ρ) l l
  | [], _ => trivial
  | v :: vs, h => by simp [flatL] at h; exact ⟨flat_ren ρ v h.1, flatL_ren ρ vs h.2⟩
theorem flatZ_ren (ρ : Ren) (z : Value) (h : flatZ z = true) : VR ρ z z := by
  unfold flatZ at h
  split at h
  · rename_i cs
    obtain ⟨cs⟩ := cs
    show renV ρ _ = _
    rw [renV, (renL_iff ρ cs cs).2 (flatL_ren ρ cs h)]; rfl
  · exact flat_ren ρ z h
theorem flat_cells {z : Value} (h : flatZ z = true) : flatL z.cells.toList = true := by
  unfold flatZ at h
  split at h
  · exact h
  · rename_i hz
    have : z.cells = #[z] := by cases z <;> first | rfl | (exact absurd rfl (hz _))
    rw [this]; simp [flatL, h]

/-! ### what a renamed value looks like -/
section shapes
variable {ρ : Ren} {v' : Value}
theorem VR.bool {b : Bool} (h : VR ρ (.bool b) v') : v' = .bool b := by simpa [VR, renV, eq_comm] using h
theorem VR.int {k : IntKind} {n : Int} (h : VR ρ (.int k n) v') : v' = .int k n := by simpa [VR, renV, eq_comm] using h
theorem VR.string {s : ByteArray} (h : VR ρ (.string s) v') : v' = .string s := by simpa [VR, renV, eq_comm] using h
theorem VR.nilIface (h : VR ρ .nilIface v') : v' = .nilIface := by simpa [VR, renV, eq_comm] using h
theorem VR.nilFunc (h : VR ρ .nilFunc v') : v' = .nilFunc := by simpa [VR, renV, eq_comm] using h
theorem VR.pointer {a : Addr} (h : VR ρ (.pointer (some a)) v') : ∃ p, ρ a.block = some p ∧ a.spot = none ∧ v' = .pointer (some ⟨p.1.block, p.1.off + a.off, none⟩) := by
  cases hp : ρ a.block with
  | none => simp [VR, renV, hp] at h
  | some p => cases hs : a.spot with
    | none => simp [VR, renV, hp, hs] at h; exact ⟨p, rfl, rfl, h.symm⟩
    | some s => simp [VR, renV, hp, hs] at h
theorem VR.pointerNil (h : VR ρ (.pointer none) v') : v' = .pointer none := by simpa [VR, renV, eq_comm] using h
theorem VR.sliceNil {n c : Nat} (h : VR ρ (.slice none n c) v') : n = 0 ∧ c = 0 ∧ v' = .slice none 0 0 := by
  simp only [VR, renV] at h
  split at h
  · rename_i hh; exact ⟨hh.1, hh.2, by simpa [eq_comm] using h⟩
  · cases h
theorem VR.slice {a : Addr} {n C : Nat} (h : VR ρ (.slice (some a) n C) v') : ∃ p c, ρ a.block = some p ∧ a.spot = none ∧ v' = .slice (some ⟨p.1.block, p.1.off + a.off, none⟩) n c ∧ n ≤ c ∧
    (if C % 2 = 1 then c = C / 2 else c = p.2 - C / 2 ∧ C / 2 + n ≤ p.2) := by
  cases hp : ρ a.block with
  | none => simp [VR, renV, hp] at h
  | some p => cases hs : a.spot with
    | none =>
      simp only [VR, renV, hp, hs, Option.bind_some] at h
      split at h
      · rename_i hC
        split at h
        · rename_i hn; exact ⟨p, C / 2, rfl, rfl, by simpa [eq_comm] using h, hn, by rw [if_pos hC]⟩
        · cases h
      · rename_i hC
        split at h
        · rename_i hn; exact ⟨p, p.2 - C / 2, rfl, rfl, by simpa [eq_comm] using h, by omega, by rw [if_neg hC]; exact ⟨rfl, hn⟩⟩
        · cases h
    | some s => simp [VR, renV, hp, hs] at h
theorem VR.mapNil (h : VR ρ (.map none) v') : v' = .map none := by simpa [VR, renV, eq_comm] using h
theorem VR.map {r : Nat} (h : VR ρ (.map (some r)) v') : ∃ p, ρ r = some p ∧ v' = .map (some p.1.block) := by
  cases hp : ρ r with
  | none => simp [VR, renV, hp] at h
  | some p => simp [VR, renV, hp] at h; exact ⟨p, rfl, h.symm⟩
theorem VR.iface {t : TypeId} {v : Value} (h : VR ρ (.iface t v) v') : ∃ u, VR ρ v u ∧ v' = .iface t u := by
  cases hp : renV ρ v with
  | none => simp [VR, renV, hp] at h
  | some p => simp [VR, renV, hp] at h; exact ⟨p, hp, h.symm⟩
theorem VR.agg {cs : List Value} (h : VR ρ (.agg ⟨cs⟩) v') : ∃ cs', All2 (VR ρ) cs cs' ∧ v' = .agg ⟨cs'⟩ := by
  cases hp : renL ρ cs with
  | none => simp [VR, renV, hp] at h
  | some p => simp [VR, renV, hp] at h; exact ⟨p, (renL_iff ρ _ _).1 hp, h.symm⟩
theorem VR.tuple {cs : List Value} (h : VR ρ (.tuple ⟨cs⟩) v') : ∃ cs', All2 (VR ρ) cs cs' ∧ v' = .tuple ⟨cs'⟩ := by
  cases hp : renL ρ cs with
  | none => simp [VR, renV, hp] at h
  | some p => simp [VR, renV, hp] at h; exact ⟨p, (renL_iff ρ _ _).1 hp, h.symm⟩
theorem VR.func {f : FuncId} {fi ca : List Value} (h : VR ρ (.func (.func f) ⟨fi⟩ ⟨ca⟩) v') : ∃ fi' ca', All2 (VR ρ) fi fi' ∧ All2 (VR ρ) ca ca' ∧ v' = .func (.func f) ⟨fi'⟩ ⟨ca'⟩ := by
  cases hp : renL ρ fi with
  | none => simp [VR, renV, hp] at h
  | some p =>
    cases hq : renL ρ ca with
    | none => simp [VR, renV, hp, hq] at h
    | some q => simp [VR, renV, hp, hq] at h; exact ⟨p, q, (renL_iff ρ _ _).1 hp, (renL_iff ρ _ _).1 hq, h.symm⟩
theorem VR.sym {i : Nat} {fi ca : List Value} (h : VR ρ (.func (.yield i) ⟨fi⟩ ⟨ca⟩) v') : ∃ k n, v' = .int k n := by
  rw [VR, renV] at h
  unfold symVal at h
  split at h
  · simp only [Option.bind_eq_some_iff, Option.some.injEq] at h
    obtain ⟨ts, _, s, _, rfl⟩ := h
    exact ⟨_, _, rfl⟩
  · cases h
theorem VR.mkAgg {cs cs' : List Value} (h : All2 (VR ρ) cs cs') : VR ρ (.agg ⟨cs⟩) (.agg ⟨cs'⟩) := by
  show renV ρ _ = _
  rw [renV, (renL_iff ρ _ _).2 h]; rfl
theorem VR.mkTuple {cs cs' : List Value} (h : All2 (VR ρ) cs cs') : VR ρ (.tuple ⟨cs⟩) (.tuple ⟨cs'⟩) := by
  show renV ρ _ = _
  rw [renV, (renL_iff ρ _ _).2 h]; rfl
theorem VR.mkIface {t : TypeId} {v u : Value} (h : VR ρ v u) : VR ρ (.iface t v) (.iface t u) := by
  show renV ρ _ = _
  have h : renV ρ v = some u := h
  rw [renV, h]; rfl
theorem VR.mkFunc {f : FuncId} {fi ca fi' ca' : List Value} (h : All2 (VR ρ) fi fi') (k : All2 (VR ρ) ca ca') : VR ρ (.func (.func f) ⟨fi⟩ ⟨ca⟩) (.func (.func f) ⟨fi'⟩ ⟨ca'⟩) := by
  show renV ρ _ = _
  rw [renV, (renL_iff ρ _ _).2 h, (renL_iff ρ _ _).2 k]; rfl
theorem VR.mkPtr {k o : Nat} {p : Addr × Nat} (h : ρ k = some p) : VR ρ (.pointer (some ⟨k, o, none⟩)) (.pointer (some ⟨p.1.block, p.1.off + o, none⟩)) := by
  show renV ρ _ = _
  simp [renV, h]
theorem VR.mkMap {k : Nat} {p : Addr × Nat} (h : ρ k = some p) : VR ρ (.map (some k)) (.map (some p.1.block)) := by
  show renV ρ _ = _
  simp [renV, h]
theorem VR.mkExact {k o n c : Nat} {p : Addr × Nat} (h : ρ k = some p) (hn : n ≤ c) : VR ρ (.slice (some ⟨k, o, none⟩) n (2 * c + 1)) (.slice (some ⟨p.1.block, p.1.off + o, none⟩) n c) := by
  show renV ρ _ = _
  have e1 : (2 * c + 1) % 2 = 1 := by omega
  have e2 : (2 * c + 1) / 2 = c := by omega
  simp [renV, h, e1, e2, hn]
theorem VR.mkOpen {k o n j : Nat} {p : Addr × Nat} (h : ρ k = some p) (hn : j + n ≤ p.2) : VR ρ (.slice (some ⟨k, o, none⟩) n (2 * j)) (.slice (some ⟨p.1.block, p.1.off + o, none⟩) n (p.2 - j)) := by
  show renV ρ _ = _
  have e2 : (2 * j) / 2 = j := Nat.mul_div_cancel_left j (by decide)
  simp only [renV, h, Option.bind_some, Nat.mul_mod_right, e2, if_pos hn]
  rfl
theorem VR.cells {v : Value} (h : VR ρ v v') : All2 (VR ρ) v.cells.toList v'.cells.toList := by
  cases v with
  | agg cs => obtain ⟨cs⟩ := cs; obtain ⟨cs', h1, rfl⟩ := h.agg; exact h1
  | bool b => cases h.bool; exact ⟨h, trivial⟩
  | int k n => cases h.int; exact ⟨h, trivial⟩
  | string s => cases h.string; exact ⟨h, trivial⟩
  | nilIface => cases h.nilIface; exact ⟨h, trivial⟩
  | nilFunc => cases h.nilFunc; exact ⟨h, trivial⟩
  | pointer a => cases a with
    | none => cases h.pointerNil; exact ⟨h, trivial⟩
    | some a => obtain ⟨p, _, _, rfl⟩ := h.pointer; exact ⟨h, trivial⟩
  | slice a n c => cases a with
    | none => obtain ⟨_, _, rfl⟩ := h.sliceNil; exact ⟨h, trivial⟩
    | some a => obtain ⟨p, c, _, _, rfl, _⟩ := h.slice; exact ⟨h, trivial⟩
  | map r => cases r with
    | none => cases h.mapNil; exact ⟨h, trivial⟩
    | some r => obtain ⟨p, _, rfl⟩ := h.map; exact ⟨h, trivial⟩
  | iface t v => obtain ⟨u, _, rfl⟩ := h.iface; exact ⟨h, trivial⟩
  | tuple cs => obtain ⟨cs⟩ := cs; obtain ⟨cs', h1, rfl⟩ := h.tuple; exact ⟨h, trivial⟩
  | func f fi ca =>
    obtain ⟨fi⟩ := fi
    obtain ⟨ca⟩ := ca
    cases f with
    | func f => obtain ⟨fi', ca', _, _, rfl⟩ := h.func; exact ⟨h, trivial⟩
    | yield i => obtain ⟨k, m, rfl⟩ := VR.sym h; exact ⟨h, trivial⟩
    | _ => simp [VR, renV] at h
  | _ => simp [VR, renV] at h
theorem VR.oneCell {v : Value} (h : VR ρ v v') : v'.oneCell' = v.oneCell' := by
  cases v with
  | agg cs => obtain ⟨cs⟩ := cs; obtain ⟨cs', h1, rfl⟩ := h.agg; rfl
  | bool b => cases h.bool; rfl
  | int k n => cases h.int; rfl
  | string s => cases h.string; rfl
  | nilIface => cases h.nilIface; rfl
  | nilFunc => cases h.nilFunc; rfl
  | pointer a => cases a with
    | none => cases h.pointerNil; rfl
    | some a => obtain ⟨p, _, _, rfl⟩ := h.pointer; rfl
  | slice a n c => cases a with
    | none => obtain ⟨_, _, rfl⟩ := h.sliceNil; rfl
    | some a => obtain ⟨p, c, _, _, rfl, _⟩ := h.slice; rfl
  | map r => cases r with
    | none => cases h.mapNil; rfl
    | some r => obtain ⟨p, _, rfl⟩ := h.map; rfl
  | iface t v => obtain ⟨u, _, rfl⟩ := h.iface; rfl
  | tuple cs => obtain ⟨cs⟩ := cs; obtain ⟨cs', h1, rfl⟩ := h.tuple; rfl
  | func f fi ca =>
    obtain ⟨fi⟩ := fi
    obtain ⟨ca⟩ := ca
    cases f with
    | func f => obtain ⟨fi', ca', _, _, rfl⟩ := h.func; rfl
    | yield i => obtain ⟨k, m, rfl⟩ := VR.sym h; rfl
    | _ => simp [VR, renV] at h
  | _ => simp [VR, renV] at h
end shapes
theorem ones_all2 {ρ : Ren} : ∀ {l l' : List Value}, All2 (VR ρ) l l' → ones l = true → ∀ v ∈ l', v.oneCell' = true
  | [], [], _, _, v, hv => by cases hv
  | x :: xs, y :: ys, h, h1, v, hv => by
    simp [ones] at h1
    cases hv with
    | head => rw [h.1.oneCell]; exact h1.1
    | tail _ hv => exact ones_all2 h.2 h1.2 v hv
  | [], _ :: _, h, _, _, _ => h.elim
  | _ :: _, [], h, _, _, _ => h.elim

/-! ### temporaries -/
def TRel (N : Nat) (ρ : Ren) (tm : T) (tmps : Array Value) : Prop :=
  N ≤ tmps.size ∧ ∀ t v, tm t = some v → ∃ v', tmps.getD t undef = v' ∧ VR ρ v v'
theorem TRel.mono {N : Nat} {ρ ρ' : Ren} {tm : T} {tmps : Array Value} (h : TRel N ρ tm tmps) (hle : ρ.le ρ') : TRel N ρ' tm tmps :=
  ⟨h.1, fun t v e => let ⟨v', a, b⟩ := h.2 t v e; ⟨v', a, b.mono hle⟩⟩
theorem ev_ok {N : Nat} {ρ : Ren} {tm : T} {a : Act} (ht : TRel N ρ tm a.tmps) {x : Operand} {v : Value} (h : ev tm x = some v) : VR ρ v (a.eval x) := by
  cases x with
  | tmp t => obtain ⟨v', e, hv⟩ := ht.2 t v h; simp only [Act.eval]; rw [e]; exact hv
  | const c =>
    simp only [ev] at h
    split at h
    · simp at h; subst h; exact flat_ren ρ _ ‹_›
    · cases h
  | global g => simp [ev] at h
  | func f => simp [ev] at h; subst h; exact VR.mkFunc (fi := []) (ca := []) trivial trivial
theorem evs_ok {N : Nat} {ρ : Ren} {tm : T} {a : Act} (ht : TRel N ρ tm a.tmps) : ∀ {xs : List Operand} {vs : List Value}, evs tm xs = some vs → All2 (VR ρ) vs (xs.map a.eval)
  | [], vs, h => by simp [evs] at h; subst h; trivial
  | x :: xs, vs, h => by
    simp only [evs, Option.bind_eq_some_iff] at h
    obtain ⟨v, h1, l, h2, h3⟩ := h
    simp at h3; subst h3
    exact ⟨ev_ok ht h1, evs_ok ht h2⟩
end Go.Sx
