/- The evaluator: the operations that leave memory alone. -/
import Derived.Test.YtbjncdcfojjacaaGreatSxD
import Derived.Laws.StructEq
namespace Go.Sx
open Go Go.RowKit

def NOk (P : Program) (o : Oper) (a : Act) (ρ : Ren) (w w' : World) : ANext → Prop
  | .value v => ∃ v', (execOp a.eval o).run P w = .ok (.value v') w' ∧ VR ρ v v'
  | .skip => (execOp a.eval o).run P w = .ok .skip w'
  | .enter f args => ∃ args', (execOp a.eval o).run P w = .ok (.enter f args') w' ∧ All2 (VR ρ) args args'.toList
  | .panic v => ∃ v', (execOp a.eval o).run P w = .halt (.panic v') w' ∧ VR ρ v v'
def OpDone (P : Program) (o : Oper) (a : Act) (B lim : Nat) (hp : Hp) (nx : Nat) (ρ : Ren) (w : World) (n : ANext) (e : Eff) : Prop :=
  ∃ ρ' w', HRel P B lim (e.hp hp nx) (e.nx nx) ρ' w' ∧ Step hp (e.hp hp nx) nx (e.nx nx) ρ ρ' w w' ∧ NOk P o a ρ' w w' n

section
variable {E : Env} {P : Program} {o : Oper} {a : Act} {B lim : Nat} {hp : Hp} {nx : Nat} {ρ : Ren} {w : World}
theorem done_value (hr : HRel P B lim hp nx ρ w) {v v' : Value} (h : (execOp a.eval o).run P w = .ok (.value v') w) (hv : VR ρ v v') : OpDone P o a B lim hp nx ρ w (.value v) .none :=
  ⟨ρ, w, hr, Step.refl _ _ _ _, v', h, hv⟩

theorem part_ok (hE : EnvOk E P) {t : TypeId} {cs cs' : List Value} {off : Nat} {v : Value} (hc : All2 (VR ρ) cs cs') (h : partOf E t cs off = some v) : ∃ v', (part t ⟨cs'⟩ off).run P w = .ok v' w ∧ VR ρ v v' := by
  simp only [partOf, Option.bind_eq_some_iff] at h
  obtain ⟨g, hg, h⟩ := h
  cases g with
  | true =>
    simp only [Option.bind_eq_some_iff] at h
    obtain ⟨n, hn, l, hl, h⟩ := h
    simp at h; subst h
    obtain ⟨h1, h2⟩ := takeN_some _ _ _ hl
    refine ⟨.agg ((⟨cs'⟩ : Array Value).extract off (off + n)), by simp [part, hE.agg hg, hE.size hn], ?_⟩
    have : ((⟨cs'⟩ : Array Value).extract off (off + n)) = ⟨(cs'.drop off).take n⟩ := by
      apply Array.toList_inj.1
      simp [List.take_drop]
    rw [this]
    refine VR.mkAgg (All2.of_get ?_ fun i x hx => ?_)
    · have hd : n ≤ (cs.drop off).length := by
        rcases Nat.lt_or_ge (cs.drop off).length n with hlt | hge
        · exfalso
          have := h2 (cs.drop off).length hlt
          rw [dropN_eq, List.getElem?_eq_none (Nat.le_refl _), List.getElem?_eq_none_iff] at this
          omega
        · exact hge
      simp [h1, hc.length] at hd ⊢; omega
    · have hi : i < n := by rw [← h1]; exact (List.getElem?_eq_some_iff.1 hx).1
      have := h2 i hi
      rw [hx, dropN_eq, List.getElem?_drop] at this
      obtain ⟨y, hy, hv⟩ := hc.get _ _ this.symm
      exact ⟨y, by rw [List.getElem?_take, if_pos hi, List.getElem?_drop]; exact hy, hv⟩
  | false =>
    obtain ⟨y, hy, hv⟩ := hc.get _ _ h
    exact ⟨y, by simp [part, hE.agg hg, hy], hv⟩

theorem und_struct {t : TypeId} {fs : Array Field} (h : P.underlying t = some (.struct fs)) : P.fieldsOf t = fs := by simp [Program.fieldsOf, h]

theorem eqSym_ok {x y x' y' : Value} {b : Bool} (h : eqSym x y = some b) (hx : VR ρ x x') (hy : VR ρ y y') : ∃ k n m, x' = .int k n ∧ y' = .int k m ∧ (n == m) = b := by
  unfold eqSym at h
  split at h
  · rename_i k p k' q e1 e2
    split at h
    · rename_i hk
      subst hk
      obtain ⟨g1, rfl⟩ := Lin.of_ok e1 hx
      obtain ⟨g2, rfl⟩ := Lin.of_ok e2 hy
      exact ⟨_, _, _, rfl, rfl, eqL_ok g1 g2 h⟩
    · cases h
  · cases h
set_option maxHeartbeats 1000000 in
theorem eqAt_ok (hE : EnvOk E P) : ∀ (d : Nat) (t : TypeId) (x y x' y' : Value) (b : Bool) (D : Nat), d ≤ D → eqAt E P d t x y = some b → VR ρ x x' → VR ρ y y' → (Op.equalIn D t x' y').run P w = .ok b w := by
  intro d
  induction d with
  | zero => intro t x y x' y' b D _ h; simp [eqAt] at h
  | succ d ih =>
    intro t x y x' y' b D hD h hx hy
    obtain ⟨D, rfl⟩ : ∃ m, D = m + 1 := ⟨D - 1, by omega⟩
    unfold eqAt at h
    split at h
    · split at h
      · rename_i hu
        obtain ⟨k, n, m, rfl, rfl, rfl⟩ := eqSym_ok h hx hy
        simp [Op.equalIn, run_underlying (hE.und hu)]
      · cases h
    rename_i hsym
    split at h
    case h_1 u p q hu => cases hx.bool; cases hy.bool; simp at h; subst h; simp [Op.equalIn, run_underlying (hE.und hu)]
    case h_2 u k p q k' r hu =>
      cases hx.int; cases hy.int
      split at h
      · rename_i hk; subst hk; simp at h; subst h; simp [Op.equalIn, run_underlying (hE.und hu)]
      · cases h
    case h_3 u p q hu => cases hx.string; cases hy.string; simp at h; subst h; simp [Op.equalIn, run_underlying (hE.und hu)]
    case h_4 u p q hu =>
      cases hx.pointerNil
      cases q with
      | none => cases hy.pointerNil; simp at h; subst h; simp [Op.equalIn, run_underlying (hE.und hu)]
      | some q => obtain ⟨r, _, _, rfl⟩ := hy.pointer; simp at h; subst h; simp [Op.equalIn, run_underlying (hE.und hu)]
    case h_5 u p q hu =>
      cases hy.pointerNil
      obtain ⟨r, _, _, rfl⟩ := hx.pointer; simp at h; subst h; simp [Op.equalIn, run_underlying (hE.und hu)]
    case h_6 u p q hu => cases hx.nilIface; obtain ⟨_, _, rfl⟩ := hy.iface; simp at h; subst h; simp [Op.equalIn, run_underlying (hE.und hu)]
    case h_7 u p q hu => cases hy.nilIface; obtain ⟨_, _, rfl⟩ := hx.iface; simp at h; subst h; simp [Op.equalIn, run_underlying (hE.und hu)]
    case h_8 u ms tx vx ty vy hu =>
      obtain ⟨ux, hux, rfl⟩ := hx.iface
      obtain ⟨uy, huy, rfl⟩ := hy.iface
      split at h
      · rename_i ht
        subst ht
        cases hi : E.ty.get tx with
        | none => simp [hi] at h
        | some i =>
          simp only [hi] at h
          split at h
          · rename_i hc
            simp [Op.equalIn, run_underlying (hE.und hu), hE.info hi, hc, ih tx vx vy ux uy b D (by omega) h hux huy]
          · cases h
      · rename_i ht
        simp at h; subst h
        simp [Op.equalIn, run_underlying (hE.und hu), ht]
    case h_9 u fs xs ys hu =>
      obtain ⟨xs⟩ := xs
      obtain ⟨ys⟩ := ys
      obtain ⟨xs', hxs, rfl⟩ := hx.agg
      obtain ⟨ys', hys, rfl⟩ := hy.agg
      have hun := hE.und hu
      split at h
      · cases h
      · rename_i hst
        rw [run_equalIn_struct w D t ⟨xs'⟩ ⟨ys'⟩ (by rw [und_struct hun]; exact hun) (by simpa using hst), und_struct hun]
        clear hun hu hx hy
        dsimp only at h
        generalize fs.toList = l at h
        induction l generalizing b with
        | nil => simp at h; subst h; simp [Op.eqFields]
        | cons f l ihl =>
          simp only [List.foldr_cons] at h
          simp only [Op.eqFields]
          by_cases hf : f.name = "_"
          · have : (f.name == "_") = true := by simp [hf]
            rw [if_pos this] at h
            rw [if_neg (by simp [hf])]
            exact ihl b h
          · have : (f.name == "_") = false := by simp [hf]
            rw [this, if_neg (by simp)] at h
            rw [if_pos hf]
            simp only [Option.bind_eq_some_iff] at h
            obtain ⟨p, h1, q, h2, r, h3, h4⟩ := h
            obtain ⟨p', e1, v1⟩ := part_ok (w := w) hE hxs h1
            obtain ⟨q', e2, v2⟩ := part_ok (w := w) hE hys h2
            have e3 := ih f.type p q p' q' r D (by omega) h3 v1 v2
            simp only [Sem.run_bind, e1, Result.andThen_ok, e2, e3]
            cases r with
            | true => simp only [if_true] at h4; simp; exact ihl b h4
            | false => simp at h4; subst h4; simp
    case h_10 u p q n m r s hu =>
      obtain ⟨_, _, rfl⟩ := hx.sliceNil
      cases m with
      | none => obtain ⟨_, _, rfl⟩ := hy.sliceNil; simp at h; subst h; simp [Op.equalIn, run_underlying (hE.und hu)]
      | some m => obtain ⟨_, _, _, _, rfl, _⟩ := hy.slice; simp at h; subst h; simp [Op.equalIn, run_underlying (hE.und hu)]
    case h_11 u p q n m r s hu =>
      obtain ⟨_, _, rfl⟩ := hy.sliceNil
      obtain ⟨_, _, _, _, rfl, _⟩ := hx.slice; simp at h; subst h; simp [Op.equalIn, run_underlying (hE.und hu)]
    case h_12 u k e q hu =>
      cases hx.mapNil
      cases q with
      | none => cases hy.mapNil; simp at h; subst h; simp [Op.equalIn, run_underlying (hE.und hu)]
      | some q => obtain ⟨r, _, rfl⟩ := hy.map; simp at h; subst h; simp [Op.equalIn, run_underlying (hE.und hu)]
    case h_13 u k e q hu =>
      cases hy.mapNil
      obtain ⟨r, _, rfl⟩ := hx.map; simp at h; subst h; simp [Op.equalIn, run_underlying (hE.und hu)]
    case h_14 u p q r hu => cases hx.nilFunc; cases hy.nilFunc; simp at h; subst h; simp [Op.equalIn, run_underlying (hE.und hu)]
    case h_15 u p q r f fi ca hu =>
      cases hx.nilFunc
      obtain ⟨fi⟩ := fi
      obtain ⟨ca⟩ := ca
      cases f with
      | func f => obtain ⟨_, _, _, _, rfl⟩ := hy.func; simp at h; subst h; simp [Op.equalIn, run_underlying (hE.und hu)]
      | yield i => simp [isSym] at hsym
      | _ => simp [VR, renV] at hy
    case h_16 u p q r f fi ca hu =>
      cases hy.nilFunc
      obtain ⟨fi⟩ := fi
      obtain ⟨ca⟩ := ca
      cases f with
      | func f => obtain ⟨_, _, _, _, rfl⟩ := hx.func; simp at h; subst h; simp [Op.equalIn, run_underlying (hE.und hu)]
      | yield i => simp [isSym] at hsym
      | _ => simp [VR, renV] at hx
    case h_17 => cases h
end
end Go.Sx
