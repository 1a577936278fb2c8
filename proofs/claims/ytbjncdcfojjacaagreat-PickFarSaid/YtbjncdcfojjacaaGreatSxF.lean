/- The evaluator: numbers, comparisons. -/
import Derived.Test.YtbjncdcfojjacaaGreatSxE
namespace Go.Sx
open Go Go.RowKit

def tag : Value → Nat
  | .bool _ => 0
  | .int _ _ => 1
  | .float _ _ => 2
  | .complex _ _ _ => 3
  | .string _ => 4
  | .pointer _ => 5
  | .slice _ _ _ => 6
  | .map _ => 7
  | .chan _ => 8
  | .func _ _ _ => 9
  | .nilFunc => 10
  | .iface _ _ => 11
  | .nilIface => 12
  | .agg _ => 13
  | .tuple _ => 14
theorem VR.tag {ρ : Ren} {v v' : Value} (hs : isSym v = false) (h : VR ρ v v') : tag v' = tag v := by
  cases v with
  | agg cs => obtain ⟨cs⟩ := cs; obtain ⟨cs', h1, rfl⟩ := h.agg; rfl
  | bool b => cases h.bool; rfl
  | int k n => cases h.int; rfl
  | string s => cases h.string; rfl
  | nilIface => cases h.nilIface; rfl
  | nilFunc => cases h.nilFunc; rfl
  | pointer a => cases a with
    | none => cases h.pointerNil; rfl
    | some a => obtain ⟨p, _, _, rfl⟩ := h.pointer; rfl
  | slice a n c => cases a with
    | none => obtain ⟨_, _, rfl⟩ := h.sliceNil; rfl
    | some a => obtain ⟨p, c, _, _, rfl, _⟩ := h.slice; rfl
  | map r => cases r with
    | none => cases h.mapNil; rfl
    | some r => obtain ⟨p, _, rfl⟩ := h.map; rfl
  | iface t v => obtain ⟨u, _, rfl⟩ := h.iface; rfl
  | tuple cs => obtain ⟨cs⟩ := cs; obtain ⟨cs', h1, rfl⟩ := h.tuple; rfl
  | func f fi ca =>
    obtain ⟨fi⟩ := fi
    obtain ⟨ca⟩ := ca
    cases f with
    | func f => obtain ⟨fi', ca', _, _, rfl⟩ := h.func; rfl
    | yield i => simp [isSym] at hs
    | _ => simp [VR, renV] at h
  | _ => simp [VR, renV] at h
/-- what '==' of these kinds asks -/
def asksEqual (x y : Value) : Prop := tag x = tag y → tag x ≠ 1 ∧ tag x ≠ 2 ∧ tag x ≠ 3 ∧ tag x ≠ 4
theorem binOp_eql_asks {t : TypeId} {x y : Value} (h : asksEqual x y) : binOp .eql t x y = (do pure (.bool (← Op.equal t x y))) := by
  cases x <;> cases y <;> first | rfl | (simp [asksEqual, tag] at h)
theorem binOp_neq_asks {t : TypeId} {x y : Value} (h : asksEqual x y) : binOp .neq t x y = (do pure (.bool (!(← Op.equal t x y)))) := by
  cases x <;> cases y <;> first | rfl | (simp [asksEqual, tag] at h)
theorem eqGuard_other {op : BinOp} {t : TypeId} {ox oy : Operand} {x y : Value} (h : tag x = tag y → tag x ≠ 12 ∧ tag x ≠ 13) : eqGuard op t ox oy x y = pure () := by
  cases x with
  | bool b => apply eqGuard_at_bool
  | int k n => apply eqGuard_at_int
  | float k n => apply eqGuard_at_float
  | complex k n m => apply eqGuard_at_complex
  | string s => apply eqGuard_at_string
  | pointer p => apply eqGuard_at_pointer
  | slice p n m => apply eqGuard_at_slice
  | map r => apply eqGuard_at_map
  | chan r => apply eqGuard_at_chan
  | func f p q => apply eqGuard_at_func
  | nilFunc => apply eqGuard_at_nilFunc
  | iface d u => apply eqGuard_at_iface
  | tuple l => apply eqGuard_at_tuple
  | nilIface => cases y <;> first | (exact absurd rfl (h rfl).1) | (cases op <;> rfl)
  | agg l => cases y <;> first | (exact absurd rfl (h rfl).2) | (cases op <;> rfl)

section
variable {E : Env} {P : Program} {ρ : Ren} {w : World}
theorem intBin_ok {op : BinOp} {k : IntKind} {x y : Int} {r : Value} {t : TypeId} (h : intBin op k x y = some r) (hs : op ≠ .shl) (hs' : op ≠ .shr) : (binOp op t (.int k x) (.int k y)).run P w = .ok r w ∧ VR ρ r r := by
  cases op <;> simp only [intBin, Option.some.injEq, reduceCtorEq] at h
  case quo =>
    split at h
    · cases h
    · rename_i hy; simp at h; subst h; exact ⟨by simp [binOp, Op.intDiv, hy], rfl⟩
  case rem =>
    split at h
    · cases h
    · rename_i hy; simp at h; subst h; exact ⟨by simp [binOp, Op.intDiv, hy], rfl⟩
  all_goals (subst h; exact ⟨by simp [binOp, Op.intArith, Op.intBits, Op.intCmp], rfl⟩)
theorem shiftBin_ok {op : BinOp} {k k' : IntKind} {x y : Int} {r : Value} {t : TypeId} (h : shiftBin op k x y = some r) : (binOp op t (.int k x) (.int k' y)).run P w = .ok r w ∧ VR ρ r r := by
  unfold shiftBin at h
  split at h
  · cases h
  · rename_i hy
    cases op <;> simp only [Option.some.injEq, reduceCtorEq] at h
    all_goals (subst h; exact ⟨by simp [binOp, Op.shift, hy], rfl⟩)
theorem isConst_guard {op : BinOp} {t : TypeId} {ox oy : Operand} (h : (isConst ox || isConst oy) = true) : (eqGuard op t ox oy .nilIface .nilIface).run P w = .ok () w := by
  unfold eqGuard
  cases ox <;> cases oy <;> simp [isConst] at h <;> split <;> rfl
theorem eqAt_equal (hE : EnvOk E P) {t : TypeId} {x y x' y' : Value} {b : Bool} (h : eqAt E P 100 t x y = some b) (hx : VR ρ x x') (hy : VR ρ y y') : (Op.equal t x' y').run P w = .ok b w :=
  eqAt_ok hE 100 t x y x' y' b Op.maxDepth (by show 100 ≤ 10000; omega) h hx hy
theorem nil_equal (hE : EnvOk E P) {t : TypeId} {ms : Array (String × TypeId)} (hu : E.und t = some (.interface ms)) : (Op.equal t .nilIface .nilIface).run P w = .ok true w := by
  unfold Op.equal
  obtain ⟨d, hd⟩ : ∃ d, Op.maxDepth = d + 1 := ⟨9999, rfl⟩
  rw [hd]
  simp [Op.equalIn, run_underlying (hE.und hu)]
theorem aBin0_ok (hE : EnvOk E P) {op : BinOp} {t : TypeId} {ox oy : Operand} {x y r x' y' : Value} (h0 : isSym x = false ∧ isSym y = false) (h : aBin0 E P op t (isConst ox) (isConst oy) x y = some r) (hx : VR ρ x x') (hy : VR ρ y y') :
    (eqGuard op t ox oy x' y').run P w = .ok () w ∧ (binOp op t x' y').run P w = .ok r w ∧ VR ρ r r := by
  unfold aBin0 at h
  split at h
  · rename_i k p k' q
    cases hx.int; cases hy.int
    refine ⟨by rw [eqGuard_at_int]; rfl, ?_⟩
    split at h
    · exact shiftBin_ok h
    · exact shiftBin_ok h
    · rename_i h1 h2
      split at h
      · rename_i hk; subst hk; exact intBin_ok h h1 h2
      · cases h
  · cases hx.string; cases hy.string
    refine ⟨by rw [eqGuard_at_string]; rfl, ?_⟩
    split at h
    · simp at h; subst h; exact ⟨by simp [binOp, Op.stringOp], rfl⟩
    · simp at h; subst h; exact ⟨by simp [binOp, Op.stringOp], rfl⟩
    · cases h
  · cases hx.nilIface; cases hy.nilIface
    split at h
    · rename_i hc
      refine ⟨isConst_guard hc, ?_⟩
      split at h
      · rename_i hu; simp at h; subst h; exact ⟨by rw [binOp_eql_asks (by simp [asksEqual, tag])]; simp [nil_equal hE hu], rfl⟩
      · rename_i hu; simp at h; subst h; exact ⟨by rw [binOp_neq_asks (by simp [asksEqual, tag])]; simp [nil_equal hE hu], rfl⟩
      · cases h
    · cases h
  · rename_i xs ys
    obtain ⟨xs⟩ := xs
    obtain ⟨ys⟩ := ys
    split at h
    · cases h
    · rename_i hg
      obtain ⟨xs', hxs, rfl⟩ := hx.agg
      obtain ⟨ys', hys, rfl⟩ := hy.agg
      refine ⟨run_eqGuard_agg w op t ox oy _ _ (by simpa using hg), ?_⟩
      split at h
      · simp only [Option.bind_eq_some_iff, Option.some.injEq] at h
        obtain ⟨b, hb, rfl⟩ := h
        have := eqAt_equal (w := w) hE hb hx hy
        exact ⟨by rw [binOp_eql_asks (by simp [asksEqual, tag])]; simp [this], rfl⟩
      · simp only [Option.bind_eq_some_iff, Option.some.injEq] at h
        obtain ⟨b, hb, rfl⟩ := h
        have := eqAt_equal (w := w) hE hb hx hy
        exact ⟨by rw [binOp_neq_asks (by simp [asksEqual, tag])]; simp [this], rfl⟩
      · cases h
  · rename_i n1 n2 n3 n4
    have ht : tag x = tag y → tag x ≠ 1 ∧ tag x ≠ 4 ∧ tag x ≠ 12 ∧ tag x ≠ 13 := by
      intro e
      cases x <;> cases y <;> simp [tag] at e ⊢
      · exact n1 _ _ _ _ rfl rfl
      · exact n2 _ _ rfl rfl
      · exact n3 rfl rfl
      · exact n4 _ _ rfl rfl
    have h2 : tag x ≠ 2 ∧ tag x ≠ 3 := by
      constructor <;> intro e <;> cases x <;> simp [tag] at e <;> simp [VR, renV] at hx
    have e1 := hx.tag h0.1
    have e2 := hy.tag h0.2
    refine ⟨by rw [eqGuard_other (by rw [e1, e2]; intro e; exact (ht e).2.2)]; rfl, ?_⟩
    have ha : asksEqual x' y' := by
      unfold asksEqual
      rw [e1, e2]
      intro e
      exact ⟨(ht e).1, h2.1, h2.2, (ht e).2.1⟩
    split at h
    · simp only [Option.bind_eq_some_iff, Option.some.injEq] at h
      obtain ⟨b, hb, rfl⟩ := h
      have := eqAt_equal (w := w) hE hb hx hy
      exact ⟨by rw [binOp_eql_asks ha]; simp [this], rfl⟩
    · simp only [Option.bind_eq_some_iff, Option.some.injEq] at h
      obtain ⟨b, hb, rfl⟩ := h
      have := eqAt_equal (w := w) hE hb hx hy
      exact ⟨by rw [binOp_neq_asks ha]; simp [this], rfl⟩
    · cases h
theorem aBin_ok (hE : EnvOk E P) {op : BinOp} {t : TypeId} {ox oy : Operand} {x y r x' y' : Value} (h : aBin E P op t (isConst ox) (isConst oy) x y = some r) (hx : VR ρ x x') (hy : VR ρ y y') :
    (eqGuard op t ox oy x' y').run P w = .ok () w ∧ ∃ r', (binOp op t x' y').run P w = .ok r' w ∧ VR ρ r r' := by
  unfold aBin at h
  split at h
  · split at h
    · rename_i e1 e2
      obtain ⟨g1, rfl⟩ := Lin.of_ok e1 hx
      obtain ⟨g2, rfl⟩ := Lin.of_ok e2 hy
      exact ⟨by rw [eqGuard_at_int]; rfl, symBin_ok g1 g2 h⟩
    · cases h
  · rename_i hs
    simp only [Bool.or_eq_false_iff] at hs
    obtain ⟨h1, h2, h3⟩ := aBin0_ok (w := w) hE hs h hx hy
    exact ⟨h1, r, h2, h3⟩
theorem aUn_ok {op : UnOp} {x r x' : Value} (h : aUn op x = some r) (hx : VR ρ x x') : (Op.unary op x').run P w = .ok r w ∧ VR ρ r r := by
  unfold aUn at h
  split at h
  · cases hx.int; simp [intBin] at h; subst h; exact ⟨by simp [Op.unary, Op.intArith], rfl⟩
  · cases hx.int; simp [intBin] at h; subst h; exact ⟨by simp [Op.unary, Op.intBits], rfl⟩
  · cases hx.bool; simp at h; subst h; exact ⟨by simp [Op.unary], rfl⟩
  · cases h
end
end Go.Sx
