/- MachineApplies: the executor: operators, structs, slices. Conditions: none. -/
import Derived.Test.YtpjfmjemmphheacDoorE1
set_option linter.all false
set_option linter.unusedVariables false
set_option linter.unusedSimpArgs false
namespace Go.Hx
open Go Go.RowKit

structure HDef where
  fn : Fn
  cap : List Value
  args : List Value

inductive HN where
  | val (v : Value)
  | skip
  | enter (f : FuncId) (args : List Value)
  | dfr (d : HDef)

def pureRun {α : Type} (P : Program) : Sem α → Option α
  | .pure a => some a
  | .program k => pureRun P (k P)
  | _ => none

theorem pureRun_sound {α : Type} {P : Program} {x : Sem α} {a : α} (h : pureRun P x = some a) (w : World) : x.run P w = .ok a w := by
  induction x with
  | pure b => simp [pureRun] at h; subst h; rfl
  | program k ih => simp only [pureRun] at h; simp only [Sem.run]; exact ih P h
  | _ => simp [pureRun] at h

def hFlat (P : Program) (x : Sem Value) : Option Value :=
  match pureRun P x with
  | some v => bif flatN 6 v then some v else none
  | none => none

section
variable {w0 : Base} {μ : Mu} {s : St} {w : World} {P : Program}

theorem hFlat_sound {x : Sem Value} {v : Value} (h : hFlat P x = some v) (w : World) : x.run P w = .ok v w ∧ VR μ v v := by
  unfold hFlat at h
  split at h
  · rename_i u hu
    cases hf : flatN 6 u with
    | false => rw [hf] at h; simp at h
    | true =>
      rw [hf] at h
      simp at h
      subst h
      exact ⟨pureRun_sound hu w, flat_self 6 _ hf⟩
  · cases h

/-! ### Operators -/
def hNe (P : Program) (t : TypeId) (x y : Value) : Bool :=
  match P.underlying t, x, y with
  | some (.pointer _), .pointer (some _), .pointer none => true
  | some (.pointer _), .pointer none, .pointer (some _) => true
  | some (.slice _), .slice (some _) _ _, .slice none _ _ => true
  | some (.slice _), .slice none _ _, .slice (some _) _ _ => true
  | some (.map _ _), .map (some _), .map none => true
  | some (.map _ _), .map none, .map (some _) => true
  | some (.func _ _ _), .func _ _ _, .nilFunc => true
  | some (.func _ _ _), .nilFunc, .func _ _ _ => true
  | _, _, _ => false

theorem run_eqGuard_ne {op : BinOp} {t : TypeId} {xo yo : Operand} {x y : Value} (h : hNe P t x y = true) (w : World) : (eqGuard op t xo yo x y).run P w = .ok () w := by
  unfold hNe at h
  split at h <;> first | exact Bool.noConfusion h | (cases op <;> rfl)

theorem equalIn_ne {t : TypeId} {x y : Value} (h : hNe P t x y = true) (d : Nat) (w : World) : (Op.equalIn (d + 1) t x y).run P w = .ok false w := by
  unfold hNe at h
  split at h
  all_goals first
    | exact Bool.noConfusion h
    | (rename_i hu; simp [Op.equalIn, run_underlying hu])

theorem binOp_ne {t : TypeId} {x y : Value} (h : hNe P t x y = true) : binOp .eql t x y = (do pure (.bool (← Op.equal t x y)) : Sem Value) ∧ binOp .neq t x y = (do pure (.bool (!(← Op.equal t x y))) : Sem Value) := by
  unfold hNe at h
  split at h <;> first | exact Bool.noConfusion h | exact ⟨rfl, rfl⟩

theorem run_ne {t : TypeId} {xo yo : Operand} {x y : Value} (h : hNe P t x y = true) (w : World) :
    (do eqGuard .eql t xo yo x y; binOp .eql t x y : Sem Value).run P w = .ok (.bool false) w ∧ (do eqGuard .neq t xo yo x y; binOp .neq t x y : Sem Value).run P w = .ok (.bool true) w := by
  have he := equalIn_ne h 9999 w
  have hb := binOp_ne h
  refine ⟨?_, ?_⟩
  · rw [Sem.run_bind, run_eqGuard_ne h, hb.1]
    simp [Op.equal, Op.maxDepth, he]
  · rw [Sem.run_bind, run_eqGuard_ne h, hb.2]
    simp [Op.equal, Op.maxDepth, he]

theorem hNe_vr {t : TypeId} {x y x' y' : Value} (h : hNe P t x y = true) (hx : VR μ x x') (hy : VR μ y y') : hNe P t x' y' = true := by
  unfold hNe at h
  split at h
  all_goals first
    | exact Bool.noConfusion h
    | (rename_i hu; cases hx <;> cases hy <;> simp [hNe, hu])

def hEqNe : BinOp → Option Value
  | .eql => some (.bool false)
  | .neq => some (.bool true)
  | _ => none

/-! ### Parts of values -/
def hPart (P : Program) (t : TypeId) (cs : List Value) (off : Nat) : Option Value :=
  match P.underlying t with
  | none => none
  | some d => bif isAggD d then
      match P.info? t with
      | some f => some (.agg ⟨(cs.drop off).take f.size⟩)
      | none => none
    else cs[off]?

theorem part_sound {t : TypeId} {cs cs' : List Value} {off : Nat} {v : Value} (h : hPart P t cs off = some v) (hc : VRs μ cs cs') : ∃ v', (∀ w, (part t ⟨cs'⟩ off).run P w = .ok v' w) ∧ VR μ v v' := by
  unfold hPart at h
  cases hu : P.underlying t with
  | none => simp only [hu] at h; cases h
  | some d =>
    simp only [hu] at h
    cases hd : isAggD d with
    | true =>
      simp only [hd, cond_true] at h
      cases hi : P.info? t with
      | none => simp only [hi] at h; cases h
      | some f =>
        simp only [hi, Option.some.injEq] at h
        subst h
        refine ⟨_, fun w => ?_, .agg ((hc.drop off).take f.size)⟩
        simp [part, run_isAgg hu, hd, sizeOf, typeInfo, hi]
    | false =>
      simp only [hd, cond_false] at h
      obtain ⟨v', h1, h2⟩ := hc.get off v h
      refine ⟨v', fun w => ?_, h2⟩
      simp [part, run_isAgg hu, hd, h1]

/-! ### Structs and arrays that are compared -/
def isBl : Value → Bool
  | .bool _ => true
  | _ => false

def bv : Value → Bool
  | .bool b => b
  | _ => false

def leafEq : Value × Value → Bool
  | (.int _ a, .int _ b) => a == b
  | (.string a, .string b) => a == b
  | (x, y) => bv x == bv y

abbrev EqRec := TypeId → Value → Value → Option (List (Value × Value))

def eqFs (P : Program) (rc : EqRec) (xs ys : List Value) : List Field → Option (List (Value × Value))
  | [] => some []
  | f :: fs => if f.name ≠ "_" then
      match hPart P f.type xs f.offset, hPart P f.type ys f.offset with
      | some a, some b => match rc f.type a b, eqFs P rc xs ys fs with
        | some l, some r => some (l ++ r)
        | _, _ => none
      | _, _ => none
    else eqFs P rc xs ys fs

def eqEs (P : Program) (rc : EqRec) (e : TypeId) (z : Nat) (xs ys : List Value) : List Nat → Option (List (Value × Value))
  | [] => some []
  | i :: is => match hPart P e xs (i * z), hPart P e ys (i * z) with
    | some a, some b => match rc e a b, eqEs P rc e z xs ys is with
      | some l, some r => some (l ++ r)
      | _, _ => none
    | _, _ => none

def eqLeaves (P : Program) : Nat → EqRec
  | 0, _, _, _ => none
  | d + 1, t, x, y => match P.underlying t, x, y with
    | some .bool, _, _ => bif isBl x && isBl y then some [(x, y)] else none
    | some (.int _), .int k a, .int k' b => if k = k' then some [(.int k a, .int k b)] else none
    | some (.struct fs), .agg xs, .agg ys => bif P.stoodInHeld t then none else eqFs P (eqLeaves P d) xs.toList ys.toList fs.toList
    | some (.array n e), .agg xs, .agg ys => match P.info? e with
      | some f => eqEs P (eqLeaves P d) e f.size xs.toList ys.toList (List.range' 0 n 1)
      | none => none
    | _, _, _ => none

theorem bl_vr {v v' : Value} (hb : isBl v = true) (h : VR μ v v') : v' = .bool (bv v) := by
  cases v with
  | bool b => cases h; rfl
  | _ => simp [isBl] at hb

theorem leafEq_bl {x y : Value} (hx : isBl x = true) : leafEq (x, y) = (bv x == bv y) := by
  cases x <;> simp [isBl] at hx <;> rfl

def EqOK (P : Program) (μ : Mu) (d : Nat) : Prop :=
  ∀ (t : TypeId) (x y x' y' : Value) (l : List (Value × Value)), eqLeaves P d t x y = some l → VR μ x x' → VR μ y y' → ∀ (D : Nat) (w : World), d ≤ D → (Op.equalIn D t x' y').run P w = .ok (l.all (leafEq)) w

theorem eqFs_sound {d : Nat} (hr : EqOK P μ d) {xs ys xs' ys' : List Value} (hx : VRs μ xs xs') (hy : VRs μ ys ys') {D : Nat} (hD : d ≤ D) (w : World) :
    ∀ (fs : List Field) (l : List (Value × Value)), eqFs P (eqLeaves P d) xs ys fs = some l → (Op.eqFields D ⟨xs'⟩ ⟨ys'⟩ fs).run P w = .ok (l.all (leafEq)) w := by
  intro fs
  induction fs with
  | nil => intro l h; cases h; rfl
  | cons f fs ih =>
    intro l h
    simp only [eqFs] at h
    unfold Op.eqFields
    split at h
    · rename_i hn
      rw [if_pos hn]
      split at h
      · rename_i a b ha hb
        split at h
        · rename_i l1 r1 hl hr1
          cases h
          obtain ⟨a', k1, k2⟩ := part_sound ha hx
          obtain ⟨b', k3, k4⟩ := part_sound hb hy
          have k5 := hr f.type a b a' b' l1 hl k2 k4 D w hD
          have k6 := ih r1 hr1
          simp only [Sem.run_bind, k1 w, k3 w, k5, Result.andThen_ok, List.all_append]
          cases l1.all (leafEq) with
          | false => simp
          | true => simp [k6]
        · cases h
      · cases h
    · rename_i hn
      rw [if_neg hn]
      exact ih l h

theorem eqEs_sound {d : Nat} (hr : EqOK P μ d) {xs ys xs' ys' : List Value} (hx : VRs μ xs xs') (hy : VRs μ ys ys') {D : Nat} (hD : d ≤ D) {e : TypeId} {z : Nat} (w : World) :
    ∀ (is : List Nat) (l : List (Value × Value)), eqEs P (eqLeaves P d) e z xs ys is = some l →
    (do let s ← forIn (m := Sem) is ((none, ()) : Option Bool × Unit) fun i _ => do
          let b ← Op.equalIn D e (← part e ⟨xs'⟩ (i * z)) (← part e ⟨ys'⟩ (i * z))
          if (!b) = true then pure (ForInStep.done (some false, ())) else pure (ForInStep.yield (none, ()))
        match s.fst with
        | some r => pure r
        | none => pure true : Sem Bool).run P w = .ok (l.all (leafEq)) w := by
  intro is
  induction is with
  | nil => intro l h; cases h; rfl
  | cons i is ih =>
    intro l h
    simp only [eqEs] at h
    split at h
    · rename_i a b ha hb
      split at h
      · rename_i l1 r1 hl hr1
        cases h
        obtain ⟨a', k1, k2⟩ := part_sound ha hx
        obtain ⟨b', k3, k4⟩ := part_sound hb hy
        have k5 := hr e a b a' b' l1 hl k2 k4 D w hD
        have k6 := ih r1 hr1
        simp only [List.forIn_cons, Sem.run_bind, k1 w, k3 w, k5, Result.andThen_ok, List.all_append]
        cases l1.all (leafEq) with
        | false => simp
        | true =>
          simp only [Bool.not_true, Bool.false_eq_true, if_false, Sem.run_pure, Result.andThen_ok, Bool.true_and]
          simpa only [Sem.run_bind] using k6
      · cases h
    · cases h

theorem eqLeaves_sound : ∀ d, EqOK P μ d := by
  intro d
  induction d with
  | zero => intro t x y x' y' l h; cases h
  | succ d ih =>
    intro t x y x' y' l h hx hy D w hD
    obtain ⟨D', rfl⟩ : ∃ D', D = D' + 1 := ⟨D - 1, by omega⟩
    simp only [eqLeaves] at h
    split at h
    · rename_i x y _ _ _ hu
      cases hb : (isBl x && isBl y) with
      | false => rw [hb] at h; cases h
      | true =>
        rw [hb] at h
        simp only [cond_true, Option.some.injEq] at h
        subst h
        simp only [Bool.and_eq_true] at hb
        rw [bl_vr hb.1 hx, bl_vr hb.2 hy, run_equalIn_bool' w D' t _ _ hu]
        simp [leafEq_bl hb.1]
    · rename_i k0 k a k' b hu
      split at h
      · rename_i hk
        subst hk
        cases h
        cases hx; cases hy
        rw [run_equalIn_int w D' t k k0 _ _ hu]
        simp [leafEq]
      · cases h
    · rename_i fs xs ys hu
      cases hs : P.stoodInHeld t with
      | true => rw [hs] at h; cases h
      | false =>
        rw [hs] at h
        simp only [cond_false] at h
        cases hx with
        | agg hx =>
          cases hy with
          | agg hy =>
            have hf : P.fieldsOf t = fs := by unfold Program.fieldsOf; rw [hu]
            rw [run_equalIn_struct w D' t _ _ (by rw [hf]; exact hu) hs, hf]
            exact eqFs_sound ih hx hy (by omega) w _ _ h
    · rename_i n e xs ys hu
      split at h
      · rename_i f hi
        cases hx with
        | agg hx =>
          cases hy with
          | agg hy =>
            have k := eqEs_sound ih hx hy (D := D') (by omega) (e := e) (z := f.size) w _ _ h
            simp only [Op.equalIn, Sem.run_bind, run_underlying hu, Result.andThen_ok, sizeOf, typeInfo, run_program, hi, Sem.run_pure]
            rw [Std.Legacy.Range.forIn_eq_forIn_range']
            simp [Std.Legacy.Range.size]
            simp at k
            refine Eq.trans ?_ k
            congr
            funext a w'
            obtain ⟨_ | _, _⟩ := a <;> rfl
      · cases h
    · cases h


def hEqAgg (P : Program) (op : BinOp) (t : TypeId) (x y : Value) : Option Value :=
  match op with
  | .eql => bif P.eqGuardType P.depth t then none else (eqLeaves P 8 t x y).map fun l => .bool (l.all leafEq)
  | .neq => bif P.eqGuardType P.depth t then none else (eqLeaves P 8 t x y).map fun l => .bool (!(l.all leafEq))
  | _ => none

theorem eqAgg_sound {op : BinOp} {t : TypeId} {xo yo : Operand} {xs ys : Array Value} {x' y' v : Value} (h : hEqAgg P op t (.agg xs) (.agg ys) = some v) (hx : VR μ (.agg xs) x') (hy : VR μ (.agg ys) y') :
    ∃ v', (∀ w, (do eqGuard op t xo yo x' y'; binOp op t x' y' : Sem Value).run P w = .ok v' w) ∧ VR μ v v' := by
  unfold hEqAgg at h
  split at h
  · cases hg : P.eqGuardType P.depth t with
    | true => rw [hg] at h; cases h
    | false =>
      rw [hg] at h
      simp only [cond_false, Option.map_eq_some_iff] at h
      obtain ⟨l, hl, rfl⟩ := h
      refine ⟨.bool (l.all leafEq), fun w => ?_, .bool _⟩
      have k := eqLeaves_sound 8 t _ _ _ _ l hl hx hy 10000 w (by omega)
      cases hx; cases hy
      rw [Sem.run_bind, run_eqGuard_agg w .eql t xo yo _ _ hg, Result.andThen_ok, run_eql_struct, k]
      rfl
  · cases hg : P.eqGuardType P.depth t with
    | true => rw [hg] at h; cases h
    | false =>
      rw [hg] at h
      simp only [cond_false, Option.map_eq_some_iff] at h
      obtain ⟨l, hl, rfl⟩ := h
      refine ⟨.bool (!(l.all leafEq)), fun w => ?_, .bool _⟩
      have k := eqLeaves_sound 8 t _ _ _ _ l hl hx hy 10000 w (by omega)
      cases hx; cases hy
      rw [Sem.run_bind, run_eqGuard_agg w .neq t xo yo _ _ hg, Result.andThen_ok, run_neq_struct, k]
      rfl
  · cases h

/-! ### Operators, all of them -/
/-- Division: the divisor is not 0. -/
def hDiv (op : BinOp) (x y : Value) (s : St) : Option (Value × St) :=
  match op, x, y with
  | .quo, .int k a, .int k' b => if k = k' then (need (!(b == 0)) s).map fun s' => (.int k (k.wrap (a.tdiv b)), s') else none
  | .rem, .int k a, .int k' b => if k = k' then (need (!(b == 0)) s).map fun s' => (.int k (a.tmod b), s') else none
  | _, _, _ => none
def hBin1 (P : Program) (op : BinOp) (t : TypeId) (xo yo : Operand) (x y : Value) : Option Value :=
  match x, y with
  | .agg xs, .agg ys => hEqAgg P op t (.agg xs) (.agg ys)
  | _, _ => bif flatN 6 x && flatN 6 y then hFlat P (do eqGuard op t xo yo x y; binOp op t x y) else bif hNe P t x y then hEqNe op else none
def isDiv : BinOp → Bool
  | .quo => true
  | .rem => true
  | _ => false
def hBin0 (P : Program) (op : BinOp) (t : TypeId) (xo yo : Operand) (x y : Value) (s : St) : Option (Value × St) :=
  bif isDiv op then hDiv op x y s else (hBin1 P op t xo yo x y).map fun v => (v, s)

theorem bin1_sound {op : BinOp} {t : TypeId} {xo yo : Operand} {x y x' y' v : Value} (h : hBin1 P op t xo yo x y = some v) (hx : VR μ x x') (hy : VR μ y y') :
    ∃ v', (∀ w, (do eqGuard op t xo yo x' y'; binOp op t x' y' : Sem Value).run P w = .ok v' w) ∧ VR μ v v' := by
  unfold hBin1 at h
  split at h
  · exact eqAgg_sound h hx hy
  · cases hb : (flatN 6 x && flatN 6 y) with
    | true =>
      rw [hb] at h
      simp only [cond_true] at h
      simp only [Bool.and_eq_true] at hb
      obtain rfl := flat_eq 6 _ _ hb.1 hx
      obtain rfl := flat_eq 6 _ _ hb.2 hy
      exact ⟨v, fun w => (hFlat_sound (μ := μ) h w).1, (hFlat_sound h default).2⟩
    | false =>
      rw [hb] at h
      simp only [cond_false] at h
      cases hn : hNe P t x y with
      | true =>
        rw [hn] at h
        simp only [cond_true] at h
        have hn' := fun w => run_ne (xo := xo) (yo := yo) (hNe_vr hn hx hy) w
        cases op <;> simp only [hEqNe, Option.some.injEq, reduceCtorEq] at h <;> first | (subst h; exact ⟨_, fun w => (hn' w).1, .bool _⟩) | (subst h; exact ⟨_, fun w => (hn' w).2, .bool _⟩)
      | false => rw [hn] at h; simp at h

theorem bin0_sound {op : BinOp} {t : TypeId} {xo yo : Operand} {x y x' y' v : Value} {s' : St} (h : hBin0 P op t xo yo x y s = some (v, s')) (hx : VR μ x x') (hy : VR μ y y') :
    s.like s' ∧ (SOK s' → ∃ v', (∀ w, (do eqGuard op t xo yo x' y'; binOp op t x' y' : Sem Value).run P w = .ok v' w) ∧ VR μ v v') := by
  unfold hBin0 at h
  cases hd : isDiv op with
  | false =>
    rw [hd] at h
    simp only [cond_false, Option.map_eq_some_iff, Prod.mk.injEq] at h
    obtain ⟨v1, h1, rfl, rfl⟩ := h
    exact ⟨s.like_refl, fun _ => bin1_sound h1 hx hy⟩
  | true =>
    rw [hd] at h
    simp only [cond_true] at h
    unfold hDiv at h
    split at h
    · rename_i k a k' b
      split at h
      · rename_i hk
        subst hk
        simp only [Option.map_eq_some_iff, Prod.mk.injEq] at h
        obtain ⟨s1, h1, rfl, rfl⟩ := h
        obtain ⟨h2, h3⟩ := need_like h1
        refine ⟨h2, fun ok => ?_⟩
        have h4 : b ≠ 0 := by have := h3 ok; simpa using this
        cases hx; cases hy
        refine ⟨_, fun w => ?_, .int k (k.wrap (a.tdiv b))⟩
        rw [Sem.run_bind, show (eqGuard .quo t xo yo (.int k a) (.int k b)).run P w = .ok () w from rfl]
        simp [binOp, Op.intDiv, h4]
      · cases h
    · rename_i k a k' b
      split at h
      · rename_i hk
        subst hk
        simp only [Option.map_eq_some_iff, Prod.mk.injEq] at h
        obtain ⟨s1, h1, rfl, rfl⟩ := h
        obtain ⟨h2, h3⟩ := need_like h1
        refine ⟨h2, fun ok => ?_⟩
        have h4 : b ≠ 0 := by have := h3 ok; simpa using this
        cases hx; cases hy
        refine ⟨_, fun w => ?_, .int k (a.tmod b)⟩
        rw [Sem.run_bind, show (eqGuard .rem t xo yo (.int k a) (.int k b)).run P w = .ok () w from rfl]
        simp [binOp, Op.intDiv, h4]
      · cases h
    · cases h

/-- Is a frozen slice nil? (Where it has elements: no.) -/
def frzNil (P : Program) (t : TypeId) (x y : Value) : Option Nat := match isFrz x, y with
  | some es, .slice none _ _ => match P.underlying t with
    | some (.slice _) => some es.length
    | _ => none
  | _, _ => none
def hBin (P : Program) (op : BinOp) (t : TypeId) (xo yo : Operand) (x y : Value) (s : St) : Option (Value × St) := match frzNil P t x y with
  | some n => match hEqNe op with
    | some v => (need (!(Nat.beq n 0)) s).map fun s' => (v, s')
    | none => none
  | none => hBin0 P op t xo yo x y s

theorem bin_sound {op : BinOp} {t : TypeId} {xo yo : Operand} {x y x' y' v : Value} {s' : St} (h : hBin P op t xo yo x y s = some (v, s')) (hx : VR μ x x') (hy : VR μ y y') :
    s.like s' ∧ (SOK s' → ∃ v', (∀ w, (do eqGuard op t xo yo x' y'; binOp op t x' y' : Sem Value).run P w = .ok v' w) ∧ VR μ v v') := by
  unfold hBin at h
  split at h
  · rename_i n hn
    split at h
    · rename_i u hu
      simp only [Option.map_eq_some_iff, Prod.mk.injEq] at h
      obtain ⟨s1, h1, rfl, rfl⟩ := h
      obtain ⟨h2, h3⟩ := need_like h1
      refine ⟨h2, fun ok => ?_⟩
      have h4 := h3 ok
      unfold frzNil at hn
      split at hn
      · rename_i es n1 c1 he
        split at hn
        · rename_i e0 hut
          cases hn
          have hx' := isFrz_eq he
          subst hx'
          have hne : hNe P t x' y' = true := by
            cases hy
            cases hx with
            | iface ht _ => exact absurd ht (by simp [TYM])
            | frz k =>
              cases k with
              | frz0 => simp at h4
              | frz => unfold hNe; rw [hut]
          have hn' := fun w => run_ne (xo := xo) (yo := yo) hne w
          cases op <;> simp only [hEqNe, Option.some.injEq, reduceCtorEq] at hu <;> first | (subst hu; exact ⟨_, fun w => (hn' w).1, .bool _⟩) | (subst hu; exact ⟨_, fun w => (hn' w).2, .bool _⟩)
        · cases hn
      · cases hn
    · cases h
  · exact bin0_sound h hx hy

def hConv (P : Program) (src dst : TypeId) (x : Value) : Option Value := bif flatN 6 x then hFlat P (convert src dst x) else none

theorem conv_sound {src dst : TypeId} {x x' v : Value} (h : hConv P src dst x = some v) (hx : VR μ x x') : ∃ v', (∀ w, (convert src dst x').run P w = .ok v' w) ∧ VR μ v v' := by
  unfold hConv at h
  cases hb : flatN 6 x with
  | true =>
    rw [hb] at h
    simp only [cond_true] at h
    obtain rfl := flat_eq 6 _ _ hb hx
    exact ⟨v, fun w => (hFlat_sound (μ := μ) h w).1, (hFlat_sound h default).2⟩
  | false => rw [hb] at h; cases h

def hField (P : Program) (t : TypeId) (x : Value) (f : Nat) : Option Value :=
  match P.underlying t, x with
  | some (.struct fs), .agg cs => match fs[f]? with
    | some g => hPart P g.type cs.toList g.offset
    | none => none
  | _, _ => none

theorem field_sound {t : TypeId} {x x' v : Value} {f : Nat} (h : hField P t x f = some v) (hx : VR μ x x') : ∃ v', (∀ w, (Instr.field t x' f).run P w = .ok v' w) ∧ VR μ v v' := by
  unfold hField at h
  split at h
  · rename_i fs cs hu
    cases hg : fs[f]? with
    | none => simp only [hg] at h; cases h
    | some g =>
      simp only [hg] at h
      cases hx with
      | agg hc =>
        obtain ⟨v', h1, h2⟩ := part_sound h hc
        refine ⟨v', fun w => ?_, h2⟩
        simp [Instr.field, run_underlying hu, hg, asAgg, h1]
  · cases h

/-- (Where the index is not known, the element is an answer.) -/
def hIndex (P : Program) (t : TypeId) (x i : Value) (s : St) : Option (Value × St) :=
  match P.underlying t, x, i with
  | some (.array n e), .agg cs, .int _ k => match P.info? e with
    | some f => bif s.opn then (match popO s with
        | some ([v], s1) => (needP ((0 ≤ k ∧ k < n) ∧ hPart P e cs.toList (k.toNat * f.size) = some v) s1).map fun s2 => (v, s2)
        | _ => none)
      else bif decide (0 ≤ k) && decide (k < n) then (hPart P e cs.toList (k.toNat * f.size)).map fun v => (v, s) else none
    | none => none
  | _, _, _ => bif flatN 6 x && flatN 6 i then (hFlat P (Instr.index t x i)).map fun v => (v, s) else none

theorem index_sound {t : TypeId} {x x' i i' v : Value} {s' : St} (h : hIndex P t x i s = some (v, s')) (hx : VR μ x x') (hi : VR μ i i') :
    s.like s' ∧ (SOK s' → ∃ v', (∀ w, (Instr.index t x' i').run P w = .ok v' w) ∧ VR μ v v') := by
  unfold hIndex at h
  split at h
  · rename_i n e cs kd k hu
    cases hf : P.info? e with
    | none => simp only [hf] at h; cases h
    | some f =>
      simp only [hf] at h
      have fin : ∀ v, 0 ≤ k ∧ k < n → hPart P e cs.toList (k.toNat * f.size) = some v → ∃ v', (∀ w, (Instr.index t x' i').run P w = .ok v' w) ∧ VR μ v v' := by
        intro v hk hp
        cases hi with
        | int kd k =>
          cases hx with
          | agg hcs =>
            obtain ⟨v', h1, h2⟩ := part_sound hp hcs
            refine ⟨v', fun w => ?_, h2⟩
            simp [Instr.index, asIntOf, run_underlying hu, hk.1, hk.2, sizeOf, typeInfo, hf, h1]
      cases ho : s.opn with
      | true =>
        rw [ho] at h
        simp only [cond_true] at h
        split at h
        · rename_i v1 s1 hp
          simp only [Option.map_eq_some_iff, Prod.mk.injEq] at h
          obtain ⟨s2, h2, rfl, rfl⟩ := h
          obtain ⟨k1, k2⟩ := needP_like h2
          exact ⟨(popO_like hp).trans k1, fun ok => fin _ (k2 ok).1 (k2 ok).2⟩
        · cases h
      | false =>
        rw [ho] at h
        simp only [cond_false] at h
        cases hc : (decide (0 ≤ k) && decide (k < (n : Int))) with
        | false => rw [hc] at h; simp at h
        | true =>
          rw [hc] at h
          simp only [cond_true, Option.map_eq_some_iff, Prod.mk.injEq] at h
          obtain ⟨v1, h1, rfl, rfl⟩ := h
          simp only [Bool.and_eq_true, decide_eq_true_eq] at hc
          exact ⟨s.like_refl, fun _ => fin _ hc h1⟩
  · rename_i x i tt xx ii hh
    cases hb : (flatN 6 x && flatN 6 i) with
    | true =>
      rw [hb] at h
      simp only [cond_true, Option.map_eq_some_iff, Prod.mk.injEq] at h
      obtain ⟨v1, h1, rfl, rfl⟩ := h
      simp only [Bool.and_eq_true] at hb
      obtain rfl := flat_eq 6 _ _ hb.1 hx
      obtain rfl := flat_eq 6 _ _ hb.2 hi
      exact ⟨s.like_refl, fun _ => ⟨_, fun w => (hFlat_sound (μ := μ) h1 w).1, (hFlat_sound h1 default).2⟩⟩
    | false => rw [hb] at h; simp at h

/-! ### Addresses -/
def hFieldAddr (P : Program) (t : TypeId) (x : Value) (f : Nat) : Option Value :=
  match P.underlying t with
  | some (.struct fs) => match fs[f]? with
    | some g => match P.info? g.type with
      | some inf => bif Nat.beq inf.size 0 then none else match x with
        | .pointer (some ⟨i, o, none⟩) => some (.pointer (some ⟨i, o + g.offset, none⟩))
        | _ => match isFptr x with
          | some cs => bif Nat.ble g.offset cs.length then some (fptr (cs.drop g.offset)) else none
          | none => none
      | none => none
    | none => none
  | _ => none

theorem fptr_drop {cs : List Value} {x' : Value} {n : Nat} (h : VR μ (fptr cs) x') (hn : n ≤ cs.length) : ∃ b o, x' = .pointer (some ⟨b, o, none⟩) ∧ VR μ (fptr (cs.drop n)) (.pointer (some ⟨b, o + n, none⟩)) := by
  cases h with
  | iface ht _ => exact absurd ht (by simp [TYM])
  | fptr hz ho hr =>
    rename_i b o cur e fr
    refine ⟨b, o, rfl, .fptr hz (by simp; omega) ?_⟩
    have := hr.drop n
    rw [List.drop_take, List.drop_drop] at this
    simpa using this

theorem fieldAddr_sound {t : TypeId} {x x' v : Value} {f : Nat} (h : hFieldAddr P t x f = some v) (hx : VR μ x x') : ∃ v', (∀ w, (Instr.fieldAt t x' f).run P w = .ok v' w) ∧ VR μ v v' := by
  unfold hFieldAddr at h
  split at h
  · rename_i fs hu
    cases hg : fs[f]? with
    | none => simp only [hg] at h; cases h
    | some g =>
      simp only [hg] at h
      cases hi : P.info? g.type with
      | none => simp only [hi] at h; cases h
      | some inf =>
        simp only [hi] at h
        cases hz : Nat.beq inf.size 0 with
        | true => rw [hz] at h; simp at h
        | false =>
          rw [hz] at h
          simp only [cond_false] at h
          have hz' : inf.size ≠ 0 := fun e => by rw [(beq_iff _ _).2 e] at hz; cases hz
          split at h
          · cases h
            cases hx with
            | ptr hp =>
              rename_i i o p
              refine ⟨_, fun w => ?_, .ptr (o := o + g.offset) hp⟩
              simp [Instr.fieldAt, run_underlying hu, hg, Instr.sureAddr, fieldPlace, sizeOf, typeInfo, hi, hz', add_plain', Nat.add_assoc]
          · split at h
            · rename_i cs hcs
              cases hb : Nat.ble g.offset cs.length with
              | false => rw [hb] at h; simp at h
              | true =>
                rw [hb] at h
                simp only [cond_true, Option.some.injEq] at h
                subst h
                rw [isFptr_eq hcs] at hx
                obtain ⟨b, o, rfl, k⟩ := fptr_drop hx (ble_le hb)
                refine ⟨_, fun w => ?_, k⟩
                simp [Instr.fieldAt, run_underlying hu, hg, Instr.sureAddr, fieldPlace, sizeOf, typeInfo, hi, hz', add_plain']
            · cases h
  · cases h

/-- (An element of a frozen slice is an answer.) -/
def hIndexAddr (P : Program) (t : TypeId) (x i : Value) (s : St) : Option (Value × St) :=
  match P.underlying t, i with
  | some (.slice e), .int _ k => match P.info? e with
    | some f => match x with
      | .slice (some ⟨b, o, none⟩) n _ => (need (decide (0 ≤ k) && decide (k < n)) s).map fun s' => (.pointer (some ⟨b, o + k.toNat * f.size, none⟩), s')
      | _ => match isFrz x with
        | some es => match popO s with
          | some ([v], s1) => bif Nat.beq v.cells.toList.length f.size then (needP (0 ≤ k ∧ es[k.toNat]? = some v) s1).map fun s2 => (fptr v.cells.toList, s2) else none
          | _ => none
        | none => none
    | none => none
  | some (.array n e), .int _ k => match P.info? e with
    | some f => match x with
      | .pointer (some ⟨b, o, none⟩) => (need (decide (0 ≤ k) && decide (k < n)) s).map fun s' => (.pointer (some ⟨b, o + k.toNat * f.size, none⟩), s')
      | _ => match isFptr x with
        | some cs => bif decide (0 ≤ k) && decide (k < n) && Nat.ble (k.toNat * f.size) cs.length then some (fptr (cs.drop (k.toNat * f.size)), s) else none
        | none => none
    | none => none
  | _, _ => none

/-- An element of a frozen slice. -/
theorem frz_at {es : List Value} {v x' : Value} {k : Nat} (h : VR μ (frz es) x') (hk : es[k]? = some v) : ∃ b o c, x' = .slice (some ⟨b, o, none⟩) es.length c ∧ es.length ≤ c ∧ 0 < v.cells.toList.length ∧
    VR μ (fptr v.cells.toList) (.pointer (some ⟨b, o + k * v.cells.toList.length, none⟩)) ∧ ∃ O, μ.fz b = some O := by
  cases h with
  | iface ht _ => exact absurd ht (by simp [TYM])
  | frz h =>
    have hlt : k < es.length := by
      rcases Nat.lt_or_ge k es.length with h' | h'
      · exact h'
      · rw [List.getElem?_eq_none h'] at hk; cases hk
    cases h with
    | frz0 => simp at hlt
    | frz h hz hes hc ho hr =>
      rename_i b o z c cur e fr
      have hv : v ∈ es := List.mem_of_getElem? hk
      have hvz : v.cells.toList.length = z := by simpa using hes v hv
      refine ⟨b, o, c, rfl, hc, by omega, ?_, _, h⟩
      have hm : k * z + z ≤ es.length * z := by
        have := Nat.mul_le_mul_right z (show k + 1 ≤ es.length from hlt)
        rw [Nat.succ_mul] at this
        exact this
      refine .fptr h (by rw [hvz]; omega) ?_
      have h1 := (hr.drop (k * z)).take z
      rw [List.drop_take, List.take_take, List.drop_drop] at h1
      have h2 : ((flatV es).drop (k * z)).take z = v.cells.toList := by
        clear hr h1 hlt hm ho hc hv
        unfold flatV
        induction es generalizing k with
        | nil => simp at hk
        | cons a es ih =>
          have ha : a.cells.toList.length = z := by simpa using hes a (by simp)
          cases k with
          | zero =>
            simp at hk
            subst hk
            simp only [Nat.zero_mul, List.drop_zero, List.flatMap_cons]
            rw [← ha]; simp
          | succ k =>
            simp only [List.flatMap_cons]
            rw [show (k + 1) * z = a.cells.toList.length + k * z by rw [ha, Nat.succ_mul]; omega, List.drop_append, List.drop_eq_nil_of_le (by omega), List.nil_append, Nat.add_sub_cancel_left]
            exact ih (by simpa using hk) (fun x hx => hes x (by simp [hx]))
      rw [h2] at h1
      rw [hvz]
      rwa [Nat.min_eq_left (by omega)] at h1

theorem indexAddr_sound {t : TypeId} {x x' i i' v : Value} {s' : St} (h : hIndexAddr P t x i s = some (v, s')) (hx : VR μ x x') (hi : VR μ i i') :
    s.like s' ∧ (SOK s' → ∃ v', (∀ w, (Instr.indexAt t x' i').run P w = .ok v' w) ∧ VR μ v v') := by
  unfold hIndexAddr at h
  split at h
  · rename_i e kd k hu
    cases hf : P.info? e with
    | none => simp only [hf] at h; cases h
    | some f =>
      simp only [hf] at h
      split at h
      · rename_i b o n c
        simp only [Option.map_eq_some_iff, Prod.mk.injEq] at h
        obtain ⟨s1, h1, rfl, rfl⟩ := h
        obtain ⟨k1, k2⟩ := need_like h1
        refine ⟨k1, fun ok => ?_⟩
        have hc := k2 ok
        simp only [Bool.and_eq_true, decide_eq_true_eq] at hc
        obtain ⟨c2, c3⟩ := hc
        cases hi with
        | int kd k =>
          cases hx with
          | sliceK hp hcc =>
            refine ⟨_, fun w => ?_, .ptr (o := o + k.toNat * f.size) hp⟩
            simp [Instr.indexAt, asIntOf, run_underlying hu, c2, c3, sizeOf, typeInfo, hf, add_plain', Nat.add_assoc]
          | sliceU hp h1 h2 h3 =>
            refine ⟨_, fun w => ?_, .ptr (o := o + k.toNat * f.size) hp⟩
            simp [Instr.indexAt, asIntOf, run_underlying hu, c2, c3, sizeOf, typeInfo, hf, add_plain', Nat.add_assoc]
          | sliceE => exfalso; simp at c3; omega
      · split at h
        · rename_i es hes
          split at h
          · rename_i v1 s1 hp
            cases hb : Nat.beq v1.cells.toList.length f.size with
            | false => rw [hb] at h; simp at h
            | true =>
              rw [hb] at h
              simp only [cond_true, Option.map_eq_some_iff, Prod.mk.injEq] at h
              obtain ⟨s2, h2, rfl, rfl⟩ := h
              obtain ⟨k1, k2⟩ := needP_like h2
              refine ⟨(popO_like hp).trans k1, fun ok => ?_⟩
              obtain ⟨c2, c3⟩ := k2 ok
              have hb := (beq_iff _ _).1 hb
              rw [isFrz_eq hes] at hx
              obtain ⟨b, o, c, rfl, _, _, k3, _⟩ := frz_at hx c3
              have hlt : k < (es.length : Int) := by
                rcases Nat.lt_or_ge k.toNat es.length with h' | h'
                · omega
                · rw [List.getElem?_eq_none h'] at c3; cases c3
              cases hi with
              | int kd k =>
                refine ⟨_, fun w => ?_, k3⟩
                have hsz : f.size = v1.cells.toList.length := hb.symm
                simp only [Instr.indexAt, asIntOf, Sem.run_bind, run_underlying hu, Result.andThen_ok]
                simp [c2, hlt, sizeOf, typeInfo, hf, add_plain', hsz]
          · cases h
        · cases h
  · rename_i n e kd k hu
    cases hf : P.info? e with
    | none => simp only [hf] at h; cases h
    | some f =>
      simp only [hf] at h
      split at h
      · rename_i b o
        simp only [Option.map_eq_some_iff, Prod.mk.injEq] at h
        obtain ⟨s1, h1, rfl, rfl⟩ := h
        obtain ⟨k1, k2⟩ := need_like h1
        refine ⟨k1, fun ok => ?_⟩
        have hc := k2 ok
        simp only [Bool.and_eq_true, decide_eq_true_eq] at hc
        obtain ⟨c2, c3⟩ := hc
        cases hi with
        | int kd k =>
          cases hx with
          | ptr hp =>
            refine ⟨_, fun w => ?_, .ptr (o := o + k.toNat * f.size) hp⟩
            simp [Instr.indexAt, asIntOf, run_underlying hu, Instr.sureAddr, c2, c3, sizeOf, typeInfo, hf, add_plain', Nat.add_assoc]
      · split at h
        · rename_i cs hcs
          cases hc : (decide (0 ≤ k) && decide (k < (n : Int)) && Nat.ble (k.toNat * f.size) cs.length) with
          | false => rw [hc] at h; simp at h
          | true =>
            rw [hc] at h
            simp only [cond_true, Option.some.injEq, Prod.mk.injEq] at h
            obtain ⟨rfl, rfl⟩ := h
            simp only [Bool.and_eq_true, decide_eq_true_eq] at hc
            obtain ⟨⟨c2, c3⟩, c4⟩ := hc
            refine ⟨s.like_refl, fun _ => ?_⟩
            rw [isFptr_eq hcs] at hx
            obtain ⟨b, o, rfl, k1⟩ := fptr_drop hx (ble_le c4)
            cases hi with
            | int kd k =>
              refine ⟨_, fun w => ?_, k1⟩
              simp [Instr.indexAt, asIntOf, run_underlying hu, Instr.sureAddr, c2, c3, sizeOf, typeInfo, hf, add_plain']
        · cases h
  · cases h

end
end Go.Hx

namespace Go.Hx
open Go Go.RowKit

section
variable {w0 : Base} {μ : Mu} {s : St} {w : World} {P : Program}

/-! ### build -/
theorem foldl_fill {off : Nat} : ∀ (l l' : List Value) (k : Nat) (cs cs' : List Value), VRs μ l l' → VRs μ cs cs' →
    VRs μ ((l.zipIdx k).foldl (fun (cs : Array Value) (x : Value × Nat) => cs.setIfInBounds (off + x.2) x.1) ⟨cs⟩).toList ((l'.zipIdx k).foldl (fun (cs : Array Value) (x : Value × Nat) => cs.setIfInBounds (off + x.2) x.1) ⟨cs'⟩).toList := by
  intro l
  induction l with
  | nil => intro l' k cs cs' h hc; cases h; exact hc
  | cons a l ih =>
    intro l' k cs cs' h hc
    cases h with
    | cons h t =>
      simp only [List.zipIdx_cons, List.foldl_cons]
      have e : ∀ (c : List Value) (x : Value), (⟨c⟩ : Array Value).setIfInBounds (off + k) x = ⟨c.set (off + k) x⟩ := fun c x => by apply Array.ext'; rw [Array.toList_setIfInBounds]
      rw [e, e]
      exact ih _ (k + 1) _ _ t (hc.set (off + k) h)

theorem fill_vr {place : Nat → Option (Nat × Nat)} : ∀ (ps ps' : List (Nat × Value)) (cs cs' : List Value), (ps.map (·.1) = ps'.map (·.1)) → VRs μ (ps.map (·.2)) (ps'.map (·.2)) → VRs μ cs cs' →
    ∀ r, Instr.fill place ⟨cs⟩ ps = some r → ∃ r', Instr.fill place ⟨cs'⟩ ps' = some r' ∧ VRs μ r.toList r'.toList := by
  intro ps
  induction ps with
  | nil =>
    intro ps' cs cs' hi hv hc r hr
    cases ps' with
    | cons _ _ => simp at hi
    | nil => simp only [Instr.fill, Option.some.injEq] at hr ⊢; subst hr; exact ⟨_, rfl, hc⟩
  | cons p ps ih =>
    intro ps' cs cs' hi hv hc r hr
    cases ps' with
    | nil => simp at hi
    | cons p' ps' =>
      obtain ⟨i, v⟩ := p
      obtain ⟨i', v'⟩ := p'
      simp only [List.map_cons, List.cons.injEq] at hi hv
      obtain ⟨rfl, hi⟩ := hi
      cases hv with
      | cons h t =>
        have hcv := h.cells
        have hl := hcv.length
        simp only [Array.length_toList] at hl
        have hcl := hc.length
        simp only [Instr.fill] at hr ⊢
        cases hp : place i with
        | none => simp [hp] at hr
        | some q =>
          obtain ⟨off, size⟩ := q
          simp only [hp] at hr ⊢
          split at hr
          · cases hr
          · rename_i hno
            have hno' : ¬ (v'.cells.size ≠ size ∨ off + v'.cells.size > cs'.length) := by
              simp at hno ⊢
              omega
            simp only [List.size_toArray, ne_eq, gt_iff_lt, Bool.or_eq_true, decide_eq_true_eq] at hno hno' ⊢
            rw [if_neg (by simpa using hno')]
            have := foldl_fill (off := off) v.cells.toList v'.cells.toList 0 cs cs' hcv hc
            have e1 : ∀ (u : Value) (c : List Value), (u.cells.zipIdx.foldl (fun (cs : Array Value) (x : Value × Nat) => cs.setIfInBounds (off + x.2) x.1) ⟨c⟩) = (u.cells.toList.zipIdx 0).foldl (fun (cs : Array Value) (x : Value × Nat) => cs.setIfInBounds (off + x.2) x.1) ⟨c⟩ := by
              intro u c
              rw [← Array.foldl_toList, Array.toList_zipIdx]
            have h2 := ih ps' _ _ hi t this r (by rw [← hr]; congr 1; exact (e1 v cs).symm)
            obtain ⟨r', h3, h4⟩ := h2
            refine ⟨r', ?_, h4⟩
            rw [← h3]
            congr 1
            exact e1 v' cs'

def parts? (ev : Operand → Option Value) : List (Nat × Operand) → Option (List (Nat × Value))
  | [] => some []
  | (i, x) :: l => match ev x, parts? ev l with
    | some v, some r => some ((i, v) :: r)
    | _, _ => none

theorem parts_vr {ev : Operand → Option Value} {ρ : Operand → Value} (he : ∀ x v, ev x = some v → VR μ v (ρ x)) : ∀ (l : List (Nat × Operand)) (r : List (Nat × Value)), parts? ev l = some r →
    r.map (·.1) = (l.map fun (i, x) => (i, ρ x)).map (·.1) ∧ VRs μ (r.map (·.2)) ((l.map fun (i, x) => (i, ρ x)).map (·.2)) := by
  intro l
  induction l with
  | nil => intro r h; simp [parts?] at h; subst h; exact ⟨rfl, .nil⟩
  | cons p l ih =>
    intro r h
    obtain ⟨i, x⟩ := p
    simp only [parts?] at h
    split at h
    · rename_i v r' hv hr
      simp at h
      subst h
      obtain ⟨h1, h2⟩ := ih r' hr
      exact ⟨by simp only [List.map_cons]; rw [h1], .cons (he _ _ hv) h2⟩
    · cases h

/-- The zero value of a type, if no address is in it (it never is). -/
def zeroC (P : Program) (t : TypeId) : Option (List Value) :=
  match P.info? t with
  | some f => match f.zero with
    | some z => bif z.cells.toList.all (flatN 2) then some z.cells.toList else none
    | none => none
  | none => none

theorem zero_flat {l : List Value} {d : Nat} (h : l.all (flatN d) = true) : VRs μ l l := by
  induction l with
  | nil => exact .nil
  | cons a l ih => simp only [List.all_cons, Bool.and_eq_true] at h; exact .cons (flat_self d a h.1) (ih h.2)

theorem zeroC_some {t : TypeId} {l : List Value} (h : zeroC P t = some l) : ∃ f z, P.info? t = some f ∧ f.zero = some z ∧ l = z.cells.toList ∧ l.all (flatN 2) = true := by
  unfold zeroC at h
  cases hi : P.info? t with
  | none => simp [hi] at h
  | some f =>
    simp only [hi] at h
    cases hz : f.zero with
    | none => simp [hz] at h
    | some z =>
      simp only [hz] at h
      cases ha : z.cells.toList.all (flatN 2) with
      | false => rw [ha] at h; simp at h
      | true => rw [ha] at h; simp only [cond_true, Option.some.injEq] at h; subst h; exact ⟨f, z, rfl, hz, rfl, ha⟩

def hBuild (P : Program) (t : TypeId) (ps : List (Nat × Value)) : Option Value :=
  match zeroC P t, P.underlying t with
  | some z, some (.array _ e) => match P.info? e with
    | some ie => (Instr.fill (fun i => some (i * ie.size, ie.size)) ⟨z⟩ ps).map .agg
    | none => none
  | some z, some (.struct fields) => match fields.toList.mapM (fun f => (P.info? f.type).map fun i => (f.offset, i.size)) with
    | some places => (Instr.fill (places.toArray[·]?) ⟨z⟩ ps).map .agg
    | none => none
  | _, _ => none

theorem build_sound {t : TypeId} {ps ps' : List (Nat × Value)} {v : Value} (h : hBuild P t ps = some v) (hi : ps.map (·.1) = ps'.map (·.1)) (hv : VRs μ (ps.map (·.2)) (ps'.map (·.2))) (w : World) :
    ∃ v', (Instr.build t ps'.toArray).run P w = .ok v' w ∧ VR μ v v' := by
  unfold hBuild at h
  split at h
  · rename_i z n e hz hu
    obtain ⟨f, z', h1, h2, rfl, h3⟩ := zeroC_some hz
    cases hie : P.info? e with
    | none => simp [hie] at h
    | some ie =>
      simp only [hie, Option.map_eq_some_iff] at h
      obtain ⟨r, hr, rfl⟩ := h
      obtain ⟨r', h4, h5⟩ := fill_vr ps ps' _ _ hi hv (zero_flat h3) r hr
      refine ⟨.agg r', run_build w t _ r' ?_, by obtain ⟨r⟩ := r; obtain ⟨r'⟩ := r'; exact .agg h5⟩
      simp only [Program.built, h1, hu, h2, hie]
      exact h4
  · rename_i z fields hz hu
    obtain ⟨f, z', h1, h2, rfl, h3⟩ := zeroC_some hz
    cases hp : fields.toList.mapM (fun f => (P.info? f.type).map fun i => (f.offset, i.size)) with
    | none => simp [hp] at h
    | some places =>
      simp only [hp, Option.map_eq_some_iff] at h
      obtain ⟨r, hr, rfl⟩ := h
      obtain ⟨r', h4, h5⟩ := fill_vr ps ps' _ _ hi hv (zero_flat h3) r hr
      refine ⟨.agg r', run_build w t _ r' ?_, by obtain ⟨r⟩ := r; obtain ⟨r'⟩ := r'; exact .agg h5⟩
      simp only [Program.built, h1, hu, h2, hp]
      exact h4
  · cases h

/-! ### new variables -/
def hAlloc (P : Program) (s : St) (e : TypeId) : Option (Value × St) :=
  match zeroC P e with
  | some z => (hNew s z e).map fun (i, s') => (.pointer (some ⟨i, 0, none⟩), s')
  | none => none

theorem new_ptr (h : R w0 μ s w) {c c' : List Value} {e : TypeId} {i : Nat} {s' : St} (hn : hNew s c e = some (i, s')) (hc : VRs μ c c') :
    ∃ μ', μ.le μ' ∧ R w0 μ' s' (w.alloc (.cells ⟨c'⟩ e)) ∧ VR μ' (.pointer (some ⟨i, 0, none⟩)) (.pointer (some ⟨w.heap.size, 0, none⟩)) ∧ μ' i = some ⟨w.heap.size, 0, c'.length, nobd⟩ := by
  obtain ⟨μ', h1, h2, h3⟩ := new_sound h hn (cur := ⟨c'⟩) (by simp [hc.length]) (CsR.of_vrs hc)
  refine ⟨μ', h1, h2, ?_, by simpa using h3⟩
  have := VR.ptr (o := 0) h3
  simpa using this

theorem alloc_sound (h : R w0 μ s w) {e : TypeId} {v : Value} {s' : St} (ha : hAlloc P s e = some (v, s')) (old : Value) :
    ∃ v' w' μ', (Instr.alloc e true old).run P w = .ok v' w' ∧ μ.le μ' ∧ R w0 μ' s' w' ∧ VR μ' v v' := by
  unfold hAlloc at ha
  cases hz : zeroC P e with
  | none => simp [hz] at ha
  | some z =>
    simp only [hz, Option.map_eq_some_iff, Prod.mk.injEq] at ha
    obtain ⟨⟨i, s1⟩, hn, rfl, rfl⟩ := ha
    obtain ⟨f, z', h1, h2, rfl, h3⟩ := zeroC_some hz
    obtain ⟨μ', k1, k2, k3, _⟩ := new_ptr h hn (zero_flat h3)
    refine ⟨_, _, μ', ?_, k1, k2, k3⟩
    simp [Instr.alloc, zeroValue, typeInfo, h1, h2, newVar, newRow]

def hBox (s : St) (e : TypeId) (x : Value) : Option (Value × St) := (hNew s x.cells.toList e).map fun (i, s') => (.pointer (some ⟨i, 0, none⟩), s')

theorem box_sound (h : R w0 μ s w) {e : TypeId} {x x' v : Value} {s' : St} (hb : hBox s e x = some (v, s')) (hx : VR μ x x') :
    ∃ v' w' μ', (Instr.box e x').run P w = .ok v' w' ∧ μ.le μ' ∧ R w0 μ' s' w' ∧ VR μ' v v' := by
  unfold hBox at hb
  simp only [Option.map_eq_some_iff, Prod.mk.injEq] at hb
  obtain ⟨⟨i, s1⟩, hn, rfl, rfl⟩ := hb
  obtain ⟨μ', k1, k2, k3, _⟩ := new_ptr h hn hx.cells
  refine ⟨_, _, μ', ?_, k1, k2, k3⟩
  simp [Instr.box, newVar, newRow]

/-! ### a slice literal -/
def rep (n : Nat) (l : List Value) : List Value :=
  match n with
  | 0 => []
  | n + 1 => l ++ rep n l

theorem rep_length (n : Nat) (l : List Value) : (rep n l).length = n * l.length := by
  induction n with
  | zero => simp [rep]
  | succ n ih => simp [rep, ih, Nat.succ_mul]; omega

theorem rep_get (n : Nat) (l : List Value) : ∀ j, j < n * l.length → (rep n l)[j]? = l[j % l.length]? := by
  induction n with
  | zero => intro j hj; simp at hj
  | succ n ih =>
    intro j hj
    simp only [rep]
    by_cases h : j < l.length
    · rw [List.getElem?_append_left h, Nat.mod_eq_of_lt h]
    · have hl : 0 < l.length := by
        rcases Nat.eq_zero_or_pos l.length with e | e
        · rw [e] at hj; simp at hj
        · exact e
      rw [List.getElem?_append_right (by omega), ih _ (by rw [Nat.succ_mul] at hj; omega)]
      congr 1
      rw [Nat.mod_eq_sub_mod (a := j) (by omega)]

theorem rep_eq (n : Nat) (z : Array Value) (k : Nat) (hk : k = z.size) : ((Array.range (n * k)).map (fun i => z[i % z.size]!)).toList = rep n z.toList := by
  subst hk
  apply List.ext_getElem?
  intro j
  by_cases hj : j < n * z.size
  · rw [rep_get n z.toList j (by simpa using hj)]
    have hz : 0 < z.size := by
      rcases Nat.eq_zero_or_pos z.size with e | e
      · rw [e] at hj; simp at hj
      · exact e
    have hm : j % z.size < z.size := Nat.mod_lt _ hz
    simp only [Array.toList_map, Array.toList_range, List.getElem?_map, List.getElem?_range hj, Option.map_some, Array.length_toList]
    rw [getElem!_pos z _ hm, List.getElem?_eq_getElem (by simpa using hm)]
    simp
  · rw [List.getElem?_eq_none (by simp; omega), List.getElem?_eq_none (by rw [rep_length]; simp; omega)]

theorem rep_vr {l l' : List Value} (h : VRs μ l l') (n : Nat) : VRs μ (rep n l) (rep n l') := by
  induction n with
  | zero => exact .nil
  | succ n ih => exact h.append ih

def hBuildSlice (P : Program) (s : St) (t : TypeId) (len : Nat) (ps : List (Nat × Value)) : Option (Value × St) :=
  match P.underlying t with
  | some (.slice e) => match P.info? e, zeroC P e with
    | some f, some z => bif Nat.ble (len * f.size) 16777216 && Nat.beq z.length f.size && Nat.blt 0 f.size && Nat.blt len UNK then
        match Instr.fill (fun i => some (i * f.size, f.size)) ⟨rep len z⟩ ps with
        | some cs => (hNew s cs.toList e).map fun (i, s') => (.slice (some ⟨i, 0, none⟩) len len, s')
        | none => none
      else none
    | _, _ => none
  | _ => none

theorem blt_lt {a b : Nat} (h : Nat.blt a b = true) : a < b := Nat.le_of_ble_eq_true h

theorem buildSlice_sound (h : R w0 μ s w) {t : TypeId} {len : Nat} {ps ps' : List (Nat × Value)} {v : Value} {s' : St} (hb : hBuildSlice P s t len ps = some (v, s')) (hi : ps.map (·.1) = ps'.map (·.1)) (hv : VRs μ (ps.map (·.2)) (ps'.map (·.2))) :
    ∃ v' w' μ', (Instr.buildSlice t len ps'.toArray).run P w = .ok v' w' ∧ μ.le μ' ∧ R w0 μ' s' w' ∧ VR μ' v v' := by
  unfold hBuildSlice at hb
  split at hb
  · rename_i e hu
    split at hb
    · rename_i f z hf hz
      cases hc : (Nat.ble (len * f.size) 16777216 && Nat.beq z.length f.size && Nat.blt 0 f.size && Nat.blt len UNK) with
      | false => rw [hc] at hb; simp at hb
      | true =>
        rw [hc] at hb
        simp only [cond_true] at hb
        simp only [Bool.and_eq_true] at hc
        obtain ⟨⟨⟨c1, c2⟩, c3⟩, c4⟩ := hc
        have c1 := ble_le c1
        have c2 := (beq_iff _ _).1 c2
        have c3 := blt_lt c3
        have c4 := blt_lt c4
        obtain ⟨f', z', h1, h2, rfl, h3⟩ := zeroC_some hz
        rw [hf] at h1; cases h1
        cases hfl : Instr.fill (fun i => some (i * f.size, f.size)) ⟨rep len z'.cells.toList⟩ ps with
        | none => rw [hfl] at hb; simp at hb
        | some cs =>
          rw [hfl] at hb
          simp only [Option.map_eq_some_iff, Prod.mk.injEq] at hb
          obtain ⟨⟨i, s1⟩, hn, rfl, rfl⟩ := hb
          obtain ⟨cs', k1, k2⟩ := fill_vr ps ps' _ _ hi hv (rep_vr (zero_flat h3) len) cs hfl
          obtain ⟨μ', m1, m2, _, m4⟩ := new_ptr h hn k2
          refine ⟨.slice (some ⟨w.heap.size, 0, none⟩) len len, w.alloc (.cells cs' e), μ', ?_, m1, m2, ?_⟩
          · have hsz : z'.cells.size = f.size := by simpa using c2
            have hrep : (Array.range (len * f.size)).map (fun i => z'.cells[i % z'.cells.size]!) = ⟨rep len z'.cells.toList⟩ := by
              apply Array.ext'
              rw [rep_eq len z'.cells f.size hsz.symm]
            by_cases h0 : len * f.size = 0
            · have hl0 : len = 0 := by
                rcases Nat.mul_eq_zero.1 h0 with h | h
                · exact h
                · omega
              subst hl0
              simp only [rep] at k1
              have e0 : (Array.range (0 * f.size)).map (fun i => (#[] : Array Value)[i % (#[] : Array Value).size]!) = ⟨[]⟩ := by simp
              simp only [Instr.buildSlice, run_underlying hu, sizeOf, typeInfo, Sem.run_bind, Sem.run_pure, run_program, Result.andThen_ok, hf, gt_iff_lt, show ¬ (2 ^ 24 < 0) by omega, if_false, Nat.zero_mul, if_true]
              simp only [Nat.zero_mul] at e0
              rw [e0]
              simp only [k1, newRow, Sem.run_bind, Sem.run_pure, run_newObj_alloc, Result.andThen_ok]
            · simp only [Instr.buildSlice, run_underlying hu, sizeOf, typeInfo, Sem.run_bind, Sem.run_pure, run_program, Result.andThen_ok, hf, gt_iff_lt, show ¬ (2 ^ 24 < len * f.size) by omega, if_false, h0, zeroValue, h2, hrep]
              simp only [k1, newRow, Sem.run_bind, Sem.run_pure, run_newObj_alloc, Result.andThen_ok]
          · have := VR.sliceK (o := 0) (n := len) m4 c4
            simpa using this
    · cases hb
  · cases hb

theorem hAlloc_sub {e : TypeId} {v : Value} {s' : St} (ha : hAlloc P s e = some (v, s')) : s.sub s' := by
  unfold hAlloc at ha
  split at ha
  · simp only [Option.map_eq_some_iff, Prod.mk.injEq] at ha
    obtain ⟨⟨i, s1⟩, hn, _, rfl⟩ := ha
    exact new_sub hn
  · cases ha
theorem hBox_sub {e : TypeId} {x v : Value} {s' : St} (ha : hBox s e x = some (v, s')) : s.sub s' := by
  unfold hBox at ha
  simp only [Option.map_eq_some_iff, Prod.mk.injEq] at ha
  obtain ⟨⟨i, s1⟩, hn, _, rfl⟩ := ha
  exact new_sub hn
theorem hBuildSlice_sub {t : TypeId} {len : Nat} {ps : List (Nat × Value)} {v : Value} {s' : St} (hb : hBuildSlice P s t len ps = some (v, s')) : s.sub s' := by
  unfold hBuildSlice at hb
  split at hb
  · split at hb
    · rename_i f z hf hz
      cases hc : (Nat.ble (len * f.size) 16777216 && Nat.beq z.length f.size && Nat.blt 0 f.size && Nat.blt len UNK) with
      | false => rw [hc] at hb; simp at hb
      | true =>
        rw [hc] at hb
        simp only [cond_true] at hb
        split at hb
        · simp only [Option.map_eq_some_iff, Prod.mk.injEq] at hb
          obtain ⟨⟨i, s1⟩, hn, _, rfl⟩ := hb
          exact new_sub hn
        · cases hb
    · cases hb
  · cases hb

end
end Go.Hx

namespace Go.Hx
open Go Go.RowKit

section
variable {w0 : Base} {μ : Mu} {s : St} {w : World} {P : Program}

/-- A bound that is not given, or a number. -/
def litI : Option Value → Option (Option Int)
  | none => some none
  | some (.int _ n) => some (some n)
  | _ => none

inductive VRo (μ : Mu) : Option Value → Option Value → Prop
  | none : VRo μ none none
  | some {v v' : Value} (h : VR μ v v') : VRo μ (some v) (some v')

def litV : Option Nat → Option Value → Prop
  | none, v' => v' = none
  | some k, v' => ∃ kd, v' = some (.int kd (k : Int))
/-- What is given is no negative number. -/
def posO : Option Int → Bool
  | none => true
  | some n => decide (0 ≤ n)

theorem litI_match {v v' : Option Value} {r : Option Int} (h : litI v = some r) (hv : VRo μ v v') (hp : posO r = true) : litV (r.map Int.toNat) v' ∧ v' = v := by
  cases hv with
  | none => simp [litI] at h; subst h; exact ⟨rfl, rfl⟩
  | @some u u' hv =>
    cases u with
    | int kd n =>
      cases hv
      simp only [litI, Option.some.injEq] at h
      subst h
      simp only [posO, decide_eq_true_eq] at hp
      exact ⟨⟨kd, by congr 2; show n = ((n.toNat : Nat) : Int); omega⟩, rfl⟩
    | _ => simp [litI] at h

def bnds (len cap : Nat) (lo hi mx : Option Nat) : Option (Nat × Nat × Nat) :=
  match hi, mx with
  | none, some _ => none
  | none, none => bif Nat.ble (lo.getD 0) len then some (lo.getD 0, len, cap) else none
  | some h, none => bif Nat.ble h cap && Nat.ble (lo.getD 0) h then some (lo.getD 0, h, cap) else none
  | some h, some m => bif Nat.ble m cap && Nat.ble h m && Nat.ble (lo.getD 0) h then some (lo.getD 0, h, m) else none

theorem bnds_le {len cap : Nat} {lo hi mx : Option Nat} {l h m : Nat} (hlc : len ≤ cap) (hb : bnds len cap lo hi mx = some (l, h, m)) : l ≤ h ∧ h ≤ m ∧ m ≤ cap := by
  unfold bnds at hb
  split at hb
  · cases hb
  · cases hc : Nat.ble (lo.getD 0) len with
    | false => rw [hc] at hb; simp at hb
    | true => rw [hc] at hb; simp only [cond_true, Option.some.injEq, Prod.mk.injEq] at hb; have := ble_le hc; omega
  · rename_i h'
    cases hc : (Nat.ble h' cap && Nat.ble (lo.getD 0) h') with
    | false => rw [hc] at hb; simp at hb
    | true =>
      rw [hc] at hb
      simp only [cond_true, Option.some.injEq, Prod.mk.injEq] at hb
      simp only [Bool.and_eq_true] at hc
      have := ble_le hc.1
      have := ble_le hc.2
      omega
  · rename_i h' m'
    cases hc : (Nat.ble m' cap && Nat.ble h' m' && Nat.ble (lo.getD 0) h') with
    | false => rw [hc] at hb; simp at hb
    | true =>
      rw [hc] at hb
      simp only [cond_true, Option.some.injEq, Prod.mk.injEq] at hb
      simp only [Bool.and_eq_true] at hc
      have := ble_le hc.1.1
      have := ble_le hc.1.2
      have := ble_le hc.2
      omega

/-- Bounds, and that they are such. -/
def bndsB (len cap : Nat) (lo hi mx : Option Int) : Option (Bool × Nat × Nat × Nat) :=
  match hi, mx with
  | none, some _ => none
  | none, none => some (posO lo && Nat.ble ((lo.map Int.toNat).getD 0) len, (lo.map Int.toNat).getD 0, len, cap)
  | some h, none => some (posO lo && decide (0 ≤ h) && (Nat.ble h.toNat cap && Nat.ble ((lo.map Int.toNat).getD 0) h.toNat), (lo.map Int.toNat).getD 0, h.toNat, cap)
  | some h, some m => some (posO lo && decide (0 ≤ h) && decide (0 ≤ m) && (Nat.ble m.toNat cap && Nat.ble h.toNat m.toNat && Nat.ble ((lo.map Int.toNat).getD 0) h.toNat), (lo.map Int.toNat).getD 0, h.toNat, m.toNat)

theorem bndsB_ok {len cap : Nat} {lo hi mx : Option Int} {b : Bool} {l h m : Nat} (hb : bndsB len cap lo hi mx = some (b, l, h, m)) (ok : b = true) :
    bnds len cap (lo.map Int.toNat) (hi.map Int.toNat) (mx.map Int.toNat) = some (l, h, m) ∧ posO lo = true ∧ posO hi = true ∧ posO mx = true := by
  unfold bndsB at hb
  split at hb
  · cases hb
  · simp only [Option.some.injEq, Prod.mk.injEq] at hb
    obtain ⟨h1, rfl, rfl, rfl⟩ := hb
    rw [ok] at h1
    simp only [Bool.and_eq_true] at h1
    have h0 := h1.1
    simp [bnds, h1.2]
    exact ⟨h0, rfl⟩
  · simp only [Option.some.injEq, Prod.mk.injEq] at hb
    obtain ⟨h1, rfl, rfl, rfl⟩ := hb
    rw [ok] at h1
    simp only [Bool.and_eq_true] at h1
    have h0 := h1.1.1
    have h2 := h1.1.2
    simp [bnds, h1.2.1, h1.2.2]
    exact ⟨h0, h2, rfl⟩
  · simp only [Option.some.injEq, Prod.mk.injEq] at hb
    obtain ⟨h1, rfl, rfl, rfl⟩ := hb
    rw [ok] at h1
    simp only [Bool.and_eq_true] at h1
    obtain ⟨⟨⟨a1, a2⟩, a3⟩, ⟨a4, a5⟩, a6⟩ := h1
    simp [bnds, a4, a5, a6]
    exact ⟨a1, a2, a3⟩

theorem run_bnds {isSlice : Bool} {len cap : Nat} {lo hi mx : Option Nat} {lo' hi' mx' : Option Value} {l h m : Nat} (hb : bnds len cap lo hi mx = some (l, h, m))
    (h1 : litV lo lo') (h2 : litV hi hi') (h3 : litV mx mx') (w : World) : (Instr.sliceBounds isSlice len cap lo' hi' mx').run P w = .ok (l, h, m) w := by
  have sb : ∀ (kd : IntKind) (k y : Nat) (code : BoundsCode), k ≤ y → (Instr.sliceBound (.int kd (k : Int)) y code).run P w = .ok k w := by
    intro kd k y code hk
    have := run_sliceBound (P := P) (w := w) kd (k : Int) y code (by omega) (by omega)
    simpa using this
  unfold bnds at hb
  split at hb
  · cases hb
  · simp only [litV] at h2 h3
    subst h2; subst h3
    cases hc : Nat.ble (lo.getD 0) len with
    | false => rw [hc] at hb; simp at hb
    | true =>
      rw [hc] at hb
      simp only [cond_true, Option.some.injEq, Prod.mk.injEq] at hb
      obtain ⟨rfl, rfl, rfl⟩ := hb
      have hc := ble_le hc
      cases lo with
      | none => simp only [litV] at h1; subst h1; simp [Instr.sliceBounds]
      | some k => simp only [litV] at h1; obtain ⟨kd, rfl⟩ := h1; simp only [Option.getD_some] at hc; simp [Instr.sliceBounds, sb _ _ _ _ hc]
  · rename_i h'
    simp only [litV] at h2 h3
    obtain ⟨kh, rfl⟩ := h2
    subst h3
    cases hc : (Nat.ble h' cap && Nat.ble (lo.getD 0) h') with
    | false => rw [hc] at hb; simp at hb
    | true =>
      rw [hc] at hb
      simp only [cond_true, Option.some.injEq, Prod.mk.injEq] at hb
      obtain ⟨rfl, rfl, rfl⟩ := hb
      simp only [Bool.and_eq_true] at hc
      have hc1 := ble_le hc.1
      have hc2 := ble_le hc.2
      cases lo with
      | none => simp only [litV] at h1; subst h1; simp [Instr.sliceBounds, sb _ _ _ _ hc1]
      | some k => simp only [litV] at h1; obtain ⟨kd, rfl⟩ := h1; simp only [Option.getD_some] at hc2; simp [Instr.sliceBounds, sb _ _ _ _ hc1, sb _ _ _ _ hc2]
  · rename_i h' m'
    simp only [litV] at h2 h3
    obtain ⟨kh, rfl⟩ := h2
    obtain ⟨km, rfl⟩ := h3
    cases hc : (Nat.ble m' cap && Nat.ble h' m' && Nat.ble (lo.getD 0) h') with
    | false => rw [hc] at hb; simp at hb
    | true =>
      rw [hc] at hb
      simp only [cond_true, Option.some.injEq, Prod.mk.injEq] at hb
      obtain ⟨rfl, rfl, rfl⟩ := hb
      simp only [Bool.and_eq_true] at hc
      have hc0 := ble_le hc.1.1
      have hc1 := ble_le hc.1.2
      have hc2 := ble_le hc.2
      cases lo with
      | none => simp only [litV] at h1; subst h1; simp [Instr.sliceBounds, sb _ _ _ _ hc0, sb _ _ _ _ hc1]
      | some k => simp only [litV] at h1; obtain ⟨kd, rfl⟩ := h1; simp only [Option.getD_some] at hc2; simp [Instr.sliceBounds, sb _ _ _ _ hc0, sb _ _ _ _ hc1, sb _ _ _ _ hc2]

def hSlice (P : Program) (t : TypeId) (x : Value) (lo hi mx : Option Value) (s : St) : Option (Value × St) :=
  match litI lo, litI hi, litI mx, P.underlying t with
  | some l, some h, some m, some (.slice e) => match P.info? e with
    | none => none
    | some f => match x with
      | .slice none n c => bif Nat.beq n 0 && Nat.beq c 0 then
          match bndsB 0 0 l h m with
          | some (b, _, _, _) => (need b s).map fun s' => (.slice none 0 0, s')
          | none => none
        else none
      | .slice (some ⟨i, o, none⟩) n c => bif Nat.blt c UNK then
          match bndsB n c l h m with
          | some (b, l, h, m) => (need (Nat.ble n c && b) s).map fun s' => (.slice (some (if m = l then ⟨i, o, none⟩ else ⟨i, o + l * f.size, none⟩)) (h - l) (m - l), s')
          | none => none
        else bif Nat.beq (UNK + f.size) c then
          match bndsB n n l h m, m with
          | some (b, l, h, _), none => (need b s).map fun s' => (.slice (some ⟨i, o + l * f.size, none⟩) (h - l) c, s')
          | some (b, l, h, m), some _ => (need (b && Nat.blt l m) s).map fun s' => (.slice (some ⟨i, o + l * f.size, none⟩) (h - l) (m - l), s')
          | _, _ => none
        else none
      | _ => match isFrz x, m with
        | some es, none => match bndsB es.length es.length l h none with
          | some (b, l, h, _) => (needP (b = true ∧ (es = [] ∨ ∀ v ∈ es, v.cells.size = f.size)) s).map fun s' => (frz ((es.drop l).take (h - l)), s')
          | none => none
        | _, _ => none
  | some l, some h, some m, some (.array n e) => match x with
    | .pointer (some ⟨i, o, none⟩) => match P.info? e, bndsB n n l h m with
      | some f, some (b, l, h, m) => bif Nat.blt n UNK then (need b s).map fun s' => (.slice (some (if m = l then ⟨i, o, none⟩ else ⟨i, o + l * f.size, none⟩)) (h - l) (m - l), s') else none
      | _, _ => none
    | _ => none
  | some _, some _, some _, some .string => match x with
    | .string b => (hFlat P (Instr.sliceAt t (.string b) lo hi mx)).map fun v => (v, s)
    | _ => none
  | _, _, _, _ => none

/-- Bounds that fit the length fit every capacity. -/
theorem bnds_any {n c : Nat} {lo hi mx : Option Nat} {l h m : Nat} (hnc : n ≤ c) (hb : bnds n n lo hi mx = some (l, h, m)) : bnds n c lo hi mx = some (l, h, if mx.isSome then m else c) := by
  unfold bnds at hb ⊢
  split at hb
  · cases hb
  · cases hc : Nat.ble (lo.getD 0) n with
    | false => rw [hc] at hb; simp at hb
    | true => rw [hc] at hb; simp at hb; obtain ⟨rfl, rfl, rfl⟩ := hb; simp
  · rename_i h'
    cases hc : (Nat.ble h' n && Nat.ble (lo.getD 0) h') with
    | false => rw [hc] at hb; simp at hb
    | true =>
      rw [hc] at hb
      simp at hb
      obtain ⟨rfl, rfl, rfl⟩ := hb
      simp only [Bool.and_eq_true] at hc
      have := ble_le hc.1
      have hb1 : Nat.ble h' c = true := Nat.ble_eq_true_of_le (by omega)
      simp [hb1, hc.2]
  · rename_i h' m'
    cases hc : (Nat.ble m' n && Nat.ble h' m' && Nat.ble (lo.getD 0) h') with
    | false => rw [hc] at hb; simp at hb
    | true =>
      rw [hc] at hb
      simp at hb
      obtain ⟨rfl, rfl, rfl⟩ := hb
      simp only [Bool.and_eq_true] at hc
      have := ble_le hc.1.1
      have hb1 : Nat.ble m' c = true := Nat.ble_eq_true_of_le (by omega)
      simp [hb1, hc.2, hc.1.2]

theorem VR.slice_inv {a : Addr} {n c : Nat} {v' : Value} (h : VR μ (.slice (some a) n c) v') :
    (∃ i o p, a = ⟨i, o, none⟩ ∧ μ i = some p ∧ c < UNK ∧ v' = .slice (some ⟨p.blk, p.base + o, none⟩) n c) ∨
    (∃ i o p z c', a = ⟨i, o, none⟩ ∧ c = UNK + z ∧ μ i = some p ∧ n ≤ c' ∧ c' ≤ maxLen ∧ o + c' * z ≤ p.room ∧ v' = .slice (some ⟨p.blk, p.base + o, none⟩) n c') ∨
    (∃ z a', c = UNK + z ∧ n = 0 ∧ v' = .slice (some a') 0 0) := by
  cases h with
  | sliceK hp hc => exact .inl ⟨_, _, _, rfl, hp, hc, rfl⟩
  | sliceU hp h1 h2 h3 => exact .inr (.inl ⟨_, _, _, _, _, rfl, rfl, hp, h1, h2, h3, rfl⟩)
  | sliceE => exact .inr (.inr ⟨_, _, rfl, rfl, rfl⟩)

theorem flat_opt {v v' : Option Value} {r : Option Int} (h : litI v = some r) (hv : VRo μ v v') : v' = v := by
  cases hv with
  | none => rfl
  | @some u u' hv =>
    cases u with
    | int kd n => cases hv; rfl
    | _ => simp [litI] at h

theorem flatV_len {es : List Value} {z : Nat} (h : ∀ x ∈ es, x.cells.size = z) : (flatV es).length = es.length * z := by
  induction es with
  | nil => simp [flatV]
  | cons a es ih =>
    have := ih fun x hx => h x (by simp [hx])
    simp only [flatV, List.flatMap_cons, List.length_append, List.length_cons] at this ⊢
    rw [this, Nat.succ_mul]
    have : a.cells.toList.length = z := by simpa using h a (by simp)
    omega
theorem flatV_append (a b : List Value) : flatV (a ++ b) = flatV a ++ flatV b := by simp [flatV]
theorem flatV_drop {es : List Value} {z : Nat} (h : ∀ x ∈ es, x.cells.size = z) (n : Nat) : flatV (es.drop n) = (flatV es).drop (n * z) := by
  rcases Nat.lt_or_ge es.length n with hn | hn
  · rw [List.drop_eq_nil_of_le (by omega), List.drop_eq_nil_of_le]
    · rfl
    · rw [flatV_len h]; exact Nat.mul_le_mul_right _ (by omega)
  · have e : flatV es = flatV (es.take n) ++ flatV (es.drop n) := by rw [← flatV_append, List.take_append_drop]
    have hl : (flatV (es.take n)).length = n * z := by
      rw [flatV_len fun x hx => h x (List.mem_of_mem_take hx), List.length_take, Nat.min_eq_left hn]
    rw [e, ← hl, List.drop_left]
theorem flatV_take {es : List Value} {z : Nat} (h : ∀ x ∈ es, x.cells.size = z) (n : Nat) : flatV (es.take n) = (flatV es).take (n * z) := by
  rcases Nat.lt_or_ge es.length n with hn | hn
  · rw [List.take_of_length_le (by omega), List.take_of_length_le]
    rw [flatV_len h]; exact Nat.mul_le_mul_right _ (by omega)
  · have e : flatV es = flatV (es.take n) ++ flatV (es.drop n) := by rw [← flatV_append, List.take_append_drop]
    have hl : (flatV (es.take n)).length = n * z := by
      rw [flatV_len fun x hx => h x (List.mem_of_mem_take hx), List.length_take, Nat.min_eq_left hn]
    rw [e, ← hl, List.take_left]

/-- A frozen slice is cut. -/
theorem frz_cut {es : List Value} {x' : Value} (h : VR μ (frz es) x') {l k z : Nat} (hlk : l ≤ k) (hk : k ≤ es.length) (hz : es = [] ∨ ∀ v ∈ es, v.cells.size = z) :
    (∃ a c, x' = .slice a es.length c ∧ es.length ≤ c ∧ ∀ a', (c - l ≠ 0 → a' = a.map fun (a : Addr) => a.add (l * z)) → VR μ (frz ((es.drop l).take (k - l))) (.slice a' (k - l) (c - l))) := by
  have hlen : ((es.drop l).take (k - l)).length = k - l := by simp; omega
  cases h with
  | iface ht _ => exact absurd ht (by simp [TYM])
  | frz h =>
    cases h with
    | frz0 =>
      rename_i a c
      refine ⟨a, c, rfl, by simp, fun a' _ => ?_⟩
      simp at hk
      have e0 : k - l = 0 := by omega
      have : ((([] : List Value).drop l).take (k - l)) = [] := by simp
      rw [this, e0]
      exact .frz .frz0
    | frz h hz' hes hc ho hr =>
      rename_i b o z' c cur e fr
      refine ⟨_, c, rfl, hc, fun a' ha => ?_⟩
      rcases Nat.eq_zero_or_pos (k - l) with h0 | h0
      · rw [h0]; simp only [List.take_zero]; exact .frz .frz0
      · have hne : es ≠ [] := fun e => by subst e; simp at hk; omega
        have hz2 : ∀ v ∈ es, v.cells.size = z := hz.resolve_left hne
        obtain ⟨v0, hv0⟩ := List.exists_mem_of_ne_nil es hne
        have hzz : z' = z := (hes v0 hv0).symm.trans (hz2 v0 hv0)
        subst hzz
        rw [ha (by omega)]
        simp only [Option.map_some, add_plain']
        have h1 : (k - l) * z' + l * z' = k * z' := by rw [← Nat.add_mul]; congr 1; omega
        have h2 : k * z' ≤ es.length * z' := Nat.mul_le_mul_right _ hk
        have hr2 := (hr.drop (l * z')).take ((k - l) * z')
        rw [← flatV_drop hes, ← flatV_take (fun x hx => hes x (List.mem_of_mem_drop hx)), List.drop_take, List.take_take, List.drop_drop, Nat.min_eq_left (by omega)] at hr2
        have := FR.frz (fz := μ.fz) (es := (es.drop l).take (k - l)) (o := o + l * z') (c := c - l) h hz' (fun x hx => hes x (List.mem_of_mem_drop (List.mem_of_mem_take hx))) (by rw [hlen]; omega) (by rw [hlen]; omega) (by rw [hlen]; exact hr2)
        rw [hlen] at this
        exact .frz this

theorem slice_sound {t : TypeId} {x x' v : Value} {lo hi mx lo' hi' mx' : Option Value} {s' : St} (hs : hSlice P t x lo hi mx s = some (v, s')) (hx : VR μ x x') (h1 : VRo μ lo lo') (h2 : VRo μ hi hi') (h3 : VRo μ mx mx') :
    s.like s' ∧ (SOK s' → ∃ v', (∀ w, (Instr.sliceAt t x' lo' hi' mx').run P w = .ok v' w) ∧ VR μ v v') := by
  unfold hSlice at hs
  split at hs
  · rename_i l h m e hl hh hm hu
    cases hf : P.info? e with
    | none => simp only [hf] at hs; cases hs
    | some f =>
      simp only [hf] at hs
      split at hs
      · rename_i n c
        cases hc : (Nat.beq n 0 && Nat.beq c 0) with
        | false => rw [hc] at hs; simp at hs
        | true =>
          rw [hc] at hs
          simp only [cond_true] at hs
          split at hs
          · rename_i b l2 h2' m2 hr
            simp only [Option.map_eq_some_iff, Prod.mk.injEq] at hs
            obtain ⟨s1, hs1, rfl, rfl⟩ := hs
            obtain ⟨k1, k2⟩ := need_like hs1
            refine ⟨k1, fun ok => ?_⟩
            obtain ⟨hb, p1, p2, p3⟩ := bndsB_ok hr (k2 ok)
            cases hx
            have hle := bnds_le (Nat.le_refl 0) hb
            have hrun := fun w => run_bnds (P := P) (isSlice := true) hb (litI_match hl h1 p1).1 (litI_match hh h2 p2).1 (litI_match hm h3 p3).1 w
            refine ⟨.slice none 0 0, fun w => ?_, .snil⟩
            have e1 : l2 = 0 := by omega
            have e2 : h2' = 0 := by omega
            have e3 : m2 = 0 := by omega
            subst e1; subst e2; subst e3
            simp [Instr.sliceAt, run_underlying hu, Instr.slice, hrun, sizeOf, typeInfo, hf]
          · cases hs
      · rename_i i o n c
        cases hck : Nat.blt c UNK with
        | true =>
          rw [hck] at hs
          simp only [cond_true] at hs
          split at hs
          · rename_i b l2 h2' m2 hr
            simp only [Option.map_eq_some_iff, Prod.mk.injEq] at hs
            obtain ⟨s1, hs1, rfl, rfl⟩ := hs
            obtain ⟨k1, k2⟩ := need_like hs1
            refine ⟨k1, fun ok => ?_⟩
            have k3 := k2 ok
            simp only [Bool.and_eq_true] at k3
            have hnc := ble_le k3.1
            obtain ⟨hb, p1, p2, p3⟩ := bndsB_ok hr k3.2
            have hck := blt_lt hck
            have hle := bnds_le hnc hb
            rcases hx.slice_inv with ⟨i, o, p, he, hp, _, rfl⟩ | ⟨_, _, _, z, _, _, hcz, _⟩ | ⟨z, _, hcz, _⟩
            · obtain ⟨rfl, rfl, _⟩ := Addr.mk.inj he
              have hrun := fun w => run_bnds (P := P) (isSlice := true) hb (litI_match hl h1 p1).1 (litI_match hh h2 p2).1 (litI_match hm h3 p3).1 w
              refine ⟨.slice (some (if m2 = l2 then ⟨p.blk, p.base + o, none⟩ else (⟨p.blk, p.base + o, none⟩ : Addr).add (l2 * f.size))) (h2' - l2) (m2 - l2), fun w => ?_, ?_⟩
              · simp [Instr.sliceAt, run_underlying hu, Instr.slice, hrun, sizeOf, typeInfo, hf]
                split <;> rfl
              · by_cases hml : m2 = l2
                · rw [if_pos hml, if_pos hml]; exact .sliceK hp (by omega)
                · rw [if_neg hml, if_neg hml, add_plain', Nat.add_assoc]; exact .sliceK hp (by omega)
            · exfalso; omega
            · exfalso; omega
          · cases hs
        | false =>
          rw [hck] at hs
          simp only [cond_false] at hs
          cases hcz : Nat.beq (UNK + f.size) c with
          | false => rw [hcz] at hs; simp at hs
          | true =>
            rw [hcz] at hs
            simp only [cond_true] at hs
            have hcz := (beq_iff _ _).1 hcz
            split at hs
            · rename_i b l2 h2' m2 hr
              simp only [Option.map_eq_some_iff, Prod.mk.injEq] at hs
              obtain ⟨s1, hs1, rfl, rfl⟩ := hs
              obtain ⟨k1, k2⟩ := need_like hs1
              refine ⟨k1, fun ok => ?_⟩
              obtain ⟨hb, p1, p2, p3⟩ := bndsB_ok hr (k2 ok)
              have hle := bnds_le (Nat.le_refl n) hb
              have key : ∀ (a' : Addr) (c' : Nat), n ≤ c' → ∀ w, (Instr.sliceAt t (.slice (some a') n c') lo' hi' mx').run P w = .ok (.slice (some (if c' = l2 then a' else a'.add (l2 * f.size))) (h2' - l2) (c' - l2)) w := by
                intro a' c' hnc w
                have hrun := run_bnds (P := P) (isSlice := true) (bnds_any hnc hb) (litI_match hl h1 p1).1 (litI_match hh h2 p2).1 (litI_match hm h3 p3).1 w
                simp only [Option.map_none, Option.isSome_none, Bool.false_eq_true, if_false] at hrun
                simp [Instr.sliceAt, run_underlying hu, Instr.slice, hrun, sizeOf, typeInfo, hf]
                split <;> rfl
              rcases hx.slice_inv with ⟨_, _, _, _, _, hcc, _⟩ | ⟨i, o, p, z, c', he, hcz', hp, hn, hm', hr', rfl⟩ | ⟨z, a', hcz', rfl, rfl⟩
              · exfalso; omega
              · obtain ⟨rfl, rfl, _⟩ := Addr.mk.inj he
                obtain rfl : z = f.size := by omega
                rw [hcz']
                refine ⟨_, key _ c' hn, ?_⟩
                by_cases hcl : c' = l2
                · rw [if_pos hcl]
                  have e1 : h2' - l2 = 0 := by omega
                  have e2 : c' - l2 = 0 := by omega
                  rw [e1, e2]
                  exact .sliceE
                · rw [if_neg hcl, add_plain', Nat.add_assoc]
                  refine .sliceU hp (by omega) (by omega) ?_
                  have : (c' - l2) * f.size + l2 * f.size ≤ c' * f.size := by rw [← Nat.add_mul]; exact Nat.mul_le_mul_right _ (by omega)
                  omega
              · refine ⟨_, key _ 0 (Nat.le_refl _), ?_⟩
                have e2 : h2' - l2 = 0 := by omega
                rw [e2, hcz']
                simp only [Nat.zero_sub]
                exact .sliceE
            · rename_i b l2 h2' m2 k hr
              simp only [Option.map_eq_some_iff, Prod.mk.injEq] at hs
              obtain ⟨s1, hs1, rfl, rfl⟩ := hs
              obtain ⟨k1, k2⟩ := need_like hs1
              refine ⟨k1, fun ok => ?_⟩
              have k3 := k2 ok
              simp only [Bool.and_eq_true] at k3
              obtain ⟨hb, p1, p2, p3⟩ := bndsB_ok hr k3.1
              have hlm := blt_lt k3.2
              have hle := bnds_le (Nat.le_refl n) hb
              have key : ∀ (a' : Addr) (c' : Nat), n ≤ c' → ∀ w, (Instr.sliceAt t (.slice (some a') n c') lo' hi' mx').run P w = .ok (.slice (some (if m2 = l2 then a' else a'.add (l2 * f.size))) (h2' - l2) (m2 - l2)) w := by
                intro a' c' hnc w
                have hrun := run_bnds (P := P) (isSlice := true) (bnds_any hnc hb) (litI_match hl h1 p1).1 (litI_match hh h2 p2).1 (litI_match hm h3 p3).1 w
                simp only [Option.map_some, Option.isSome_some, if_true] at hrun
                simp [Instr.sliceAt, run_underlying hu, Instr.slice, hrun, sizeOf, typeInfo, hf]
                split <;> rfl
              have hml' : ¬ m2 = l2 := by omega
              rcases hx.slice_inv with ⟨_, _, _, _, _, hcc, _⟩ | ⟨i, o, p, z, c', he, hcz', hp, hn, hm', hr', rfl⟩ | ⟨z, a', hcz', rfl, rfl⟩
              · exfalso; omega
              · obtain ⟨rfl, rfl, _⟩ := Addr.mk.inj he
                refine ⟨_, key _ _ hn, ?_⟩
                rw [if_neg hml', add_plain', Nat.add_assoc]
                refine .sliceK hp ?_
                simp only [maxLen] at hm'
                simp only [UNK]
                omega
              · exfalso; omega
            · cases hs
      · split at hs
        · rename_i es hes
          split at hs
          · rename_i b l2 h2' m2 hr
            simp only [Option.map_eq_some_iff, Prod.mk.injEq] at hs
            obtain ⟨s1, hs1, rfl, rfl⟩ := hs
            obtain ⟨k1, k2⟩ := needP_like hs1
            refine ⟨k1, fun ok => ?_⟩
            obtain ⟨k3, k4⟩ := k2 ok
            obtain ⟨hb, p1, p2, p3⟩ := bndsB_ok hr k3
            rw [isFrz_eq hes] at hx
            have hle := bnds_le (Nat.le_refl _) hb
            obtain ⟨a, c, rfl, hc, hcut⟩ := frz_cut hx (l := l2) (k := h2') (z := f.size) (by omega) (by omega) k4
            have hrun := fun w => run_bnds (P := P) (isSlice := true) (bnds_any hc hb) (litI_match hl h1 p1).1 (litI_match hh h2 p2).1 (litI_match hm h3 rfl).1 w
            simp only [Option.map_none, Option.isSome_none, Bool.false_eq_true, if_false] at hrun
            cases a with
            | none =>
              refine ⟨_, fun w => ?_, hcut none (fun _ => rfl)⟩
              simp [Instr.sliceAt, run_underlying hu, Instr.slice, hrun, sizeOf, typeInfo, hf]
            | some a =>
              refine ⟨_, fun w => ?_, hcut (some (if c = l2 then a else a.add (l2 * f.size))) (fun hne => by rw [if_neg (by omega)]; rfl)⟩
              simp [Instr.sliceAt, run_underlying hu, Instr.slice, hrun, sizeOf, typeInfo, hf]
              split <;> rfl
          · cases hs
        · cases hs
  · rename_i l h m n e hl hh hm hu
    split at hs
    · rename_i i o
      split at hs
      · rename_i f b l2 h2' m2 hf hr
        cases hnu : Nat.blt n UNK with
        | false => rw [hnu] at hs; simp at hs
        | true =>
          rw [hnu] at hs
          simp only [cond_true, Option.map_eq_some_iff, Prod.mk.injEq] at hs
          obtain ⟨s1, hs1, rfl, rfl⟩ := hs
          obtain ⟨k1, k2⟩ := need_like hs1
          refine ⟨k1, fun ok => ?_⟩
          obtain ⟨hb, p1, p2, p3⟩ := bndsB_ok hr (k2 ok)
          have hnu := blt_lt hnu
          have hle := bnds_le (Nat.le_refl n) hb
          cases hx with
          | ptr hp =>
            rename_i p
            have hrun := fun w => run_bnds (P := P) (isSlice := false) hb (litI_match hl h1 p1).1 (litI_match hh h2 p2).1 (litI_match hm h3 p3).1 w
            refine ⟨.slice (some (if m2 = l2 then ⟨p.blk, p.base + o, none⟩ else (⟨p.blk, p.base + o, none⟩ : Addr).add (l2 * f.size))) (h2' - l2) (m2 - l2), fun w => ?_, ?_⟩
            · simp [Instr.sliceAt, run_underlying hu, Instr.sureAddr, hrun, sizeOf, typeInfo, hf]
            · by_cases hml : m2 = l2
              · rw [if_pos hml, if_pos hml]; exact .sliceK hp (by omega)
              · rw [if_neg hml, if_neg hml, add_plain', Nat.add_assoc]; exact .sliceK hp (by omega)
      · cases hs
    · cases hs
  · rename_i l h m hl hh hm hu
    split at hs
    · rename_i b
      simp only [Option.map_eq_some_iff, Prod.mk.injEq] at hs
      obtain ⟨v1, hs, rfl, rfl⟩ := hs
      cases hx
      obtain rfl := flat_opt hl h1
      obtain rfl := flat_opt hh h2
      obtain rfl := flat_opt hm h3
      exact ⟨s.like_refl, fun _ => ⟨_, fun w => (hFlat_sound (μ := μ) hs w).1, (hFlat_sound hs default).2⟩⟩
    · cases hs
  · cases hs

/-! ### make -/
/-- Is a row wanted whose cells are not known one by one? -/
def popT (s : St) : Option (Bool × St) := bif s.opn then (match s.pth with
  | x :: r => some (x, { s with pth := r })
  | [] => none) else some (false, s)
theorem popT_like {x : Bool} {s s' : St} (h : popT s = some (x, s')) : s.like s' := by
  unfold popT at h
  cases ho : s.opn with
  | true =>
    rw [ho] at h
    simp only [cond_true] at h
    split at h
    · simp only [Option.some.injEq, Prod.mk.injEq] at h; obtain ⟨rfl, rfl⟩ := h; exact ⟨rfl, rfl, rfl, [], rfl⟩
    · cases h
  | false => rw [ho] at h; simp only [cond_false, Option.some.injEq, Prod.mk.injEq] at h; obtain ⟨rfl, rfl⟩ := h; exact s.like_refl

def hNewO (s : St) (c : List Value) (e : TypeId) : Option (Nat × St) :=
  (Tr.set 64 s.h s.next (.row true c e)).map fun t => (s.next, { s with h := t, next := s.next + 1 })
theorem newO_sound (h : R w0 μ s w) {c c' : List Value} {e : TypeId} {i : Nat} {s' : St} (hn : hNewO s c e = some (i, s')) (hc : FRs μ.fz c c') :
    s.sub s' ∧ ∃ μ', μ.le μ' ∧ R w0 μ' s' (w.alloc (.cells ⟨c'⟩ e)) ∧ μ' i = some ⟨w.heap.size, 0, c'.length, nobd⟩ := by
  unfold hNewO at hn
  simp only [Option.map_eq_some_iff, Prod.mk.injEq] at hn
  obtain ⟨t, ht, rfl, rfl⟩ := hn
  refine ⟨⟨[], rfl⟩, _, Mu.put_le (h.fresh _ (Nat.le_refl _)), h.alloc c e ht ⟨c'⟩ (by simp [hc.length]) (fun j v hj => ?_), Mu.put_same _ _ _⟩
  obtain ⟨v', h1, h2⟩ := hc.get j v hj
  exact ⟨v', by simpa using h1, h2⟩
theorem rep_fr {l l' : List Value} {fz : Nat → Option Obj} (h : FRs fz l l') (n : Nat) : FRs fz (rep n l) (rep n l') := by
  induction n with
  | zero => exact .nil
  | succ n ih => exact h.append ih

def hMakeSlice (P : Program) (s : St) (t : TypeId) (l c : Value) : Option (Value × St) :=
  match l, c, P.underlying t with
  | .int _ n, .int _ k, some (.slice e) => match P.info? e, zeroC P e with
    | some f, some z => bif Nat.beq z.length f.size then
        match need (decide (0 ≤ n) && decide (n ≤ k) && Nat.ble (f.bytes * k.toNat) 281474976710656 && Nat.ble k.toNat 1000000000) s with
        | some s1 => match popT s1 with
          | some (true, s2) => bif z.all (idf 0) then (hNewO s2 (rep k.toNat z) e).map fun (i, s') => (.slice (some ⟨i, 0, none⟩) n.toNat (UNK + f.size), s') else none
          | some (false, s2) => (hNew s2 (rep k.toNat z) e).map fun (i, s') => (.slice (some ⟨i, 0, none⟩) n.toNat k.toNat, s')
          | none => none
        | none => none
      else none
    | _, _ => none
  | _, _, _ => none

theorem makeSlice_sound (h : R w0 μ s w) {t : TypeId} {l c l' c' v : Value} {s' : St} (hm : hMakeSlice P s t l c = some (v, s')) (hl : VR μ l l') (hc : VR μ c c') :
    s.sub s' ∧ (SOK s' → ∃ v' w' μ', (Instr.makeSlice t l' c').run P w = .ok v' w' ∧ μ.le μ' ∧ R w0 μ' s' w' ∧ VR μ' v v') := by
  unfold hMakeSlice at hm
  split at hm
  · rename_i kl n kc k e hu
    split at hm
    · rename_i f z hf hz
      cases b4 : Nat.beq z.length f.size with
      | false => rw [b4] at hm; simp at hm
      | true =>
        rw [b4] at hm
        simp only [cond_true] at hm
        have b4 := (beq_iff _ _).1 b4
        split at hm
        · rename_i s1 hs1
          obtain ⟨q1, q2⟩ := need_like hs1
          obtain ⟨f', z', k1, k2, rfl, k3⟩ := zeroC_some hz
          rw [hf] at k1; cases k1
          have hsz : z'.cells.size = f.size := by simpa using b4
          cases hl; cases hc
          have run : SOK s1 → ∀ w, (Instr.makeSlice t (.int kl n) (.int kc k)).run P w = .ok (.slice (some ⟨w.heap.size, 0, none⟩) n.toNat k.toNat) (w.alloc (.cells ⟨rep k.toNat z'.cells.toList⟩ e)) ∧ k.toNat ≤ 1000000000 ∧ n.toNat ≤ k.toNat := fun ok w => by
            have hb := q2 ok
            simp only [Bool.and_eq_true, decide_eq_true_eq] at hb
            obtain ⟨⟨⟨b0, b1⟩, b2⟩, b3⟩ := hb
            have b2 := ble_le b2
            have b3 := ble_le b3
            have hrun := run_make (P := P) (w := w) t e f z' hu hf k2 kl kc n k (by omega) (by omega) (by
              have h : ((f.bytes * k.toNat : Nat) : Int) ≤ 281474976710656 := by omega
              rwa [Int.natCast_mul, Int.toNat_of_nonneg (by omega)] at h) (by omega)
            have : madeCells z'.cells (k.toNat * f.size) = ⟨rep k.toNat z'.cells.toList⟩ := by
              apply Array.ext'
              rw [← rep_eq k.toNat z'.cells f.size hsz.symm]
              rfl
            rw [this] at hrun
            exact ⟨hrun, b3, by omega⟩
          split at hm
          · rename_i s2 hs2
            have q3 := popT_like hs2
            cases hidf : z'.cells.toList.all (idf 0) with
            | false => rw [hidf] at hm; simp at hm
            | true =>
              rw [hidf] at hm
              simp only [cond_true, Option.map_eq_some_iff, Prod.mk.injEq] at hm
              obtain ⟨⟨i, s3⟩, hn, rfl, rfl⟩ := hm
              have hfr : FRs μ.fz z'.cells.toList z'.cells.toList := idfs_frs hidf (zero_flat k3)
              obtain ⟨m0, μ', m1, m2, m4⟩ := newO_sound ((h.like q1).like q3) hn (rep_fr hfr k.toNat)
              refine ⟨St.sub_trans q1.sub (St.sub_trans q3.sub m0), fun ok => ?_⟩
              obtain ⟨r1, r2, r3⟩ := run (SOK.of_sub q3.sub (SOK.of_sub m0 ok)) w
              refine ⟨_, _, μ', r1, m1, m2, ?_⟩
              have := VR.sliceU (o := 0) (n := n.toNat) (z := f.size) (c' := k.toNat) m4 r3 (by simp only [maxLen]; omega) (by rw [rep_length]; simp [hsz])
              simpa using this
          · rename_i s2 hs2
            have q3 := popT_like hs2
            simp only [Option.map_eq_some_iff, Prod.mk.injEq] at hm
            obtain ⟨⟨i, s3⟩, hn, rfl, rfl⟩ := hm
            obtain ⟨μ', m1, m2, _, m4⟩ := new_ptr ((h.like q1).like q3) hn (rep_vr (zero_flat k3) k.toNat)
            have m0 := new_sub hn
            refine ⟨St.sub_trans q1.sub (St.sub_trans q3.sub m0), fun ok => ?_⟩
            obtain ⟨r1, r2, r3⟩ := run (SOK.of_sub q3.sub (SOK.of_sub m0 ok)) w
            refine ⟨_, _, μ', r1, m1, m2, ?_⟩
            have := VR.sliceK (o := 0) (n := n.toNat) m4 (show k.toNat < UNK by simp only [UNK]; omega)
            simpa using this
          · cases hm
        · cases hm
    · cases hm
  · cases hm

end
end Go.Hx
