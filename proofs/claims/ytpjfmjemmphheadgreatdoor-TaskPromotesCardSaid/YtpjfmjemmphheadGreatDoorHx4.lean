/- The executor's steps on values, slices and appends, and that the model's instructions do as they say. -/
import Derived.Test.YtpjfmjemmphheadGreatDoorHx3
namespace Go.Hx
open Go Go.RowKit

structure HDef where
  fn : Fn
  cap : List Value
  args : List Value

inductive HN where
  | val (v : Value)
  | skip
  | enter (f : FuncId) (args : List Value)
  | dfr (d : HDef)

/-- What is known of names: operators, conversions; operations that leave the world alone; others. -/
structure Facts where
  bin : BinOp → IntKind → Int → Int → Option Value
  conv : IntKind → Int → Option Int
  eqi : Int → Int → Option Bool
  eqb : Nat → Nat → Option Bool
  pu : St → (Operand → Option Value) → Op → Option Value
  st : St → (Operand → Option Value) → Op → Option (HN × St)

structure FactsOK (η : Env) (fx : Facts) : Prop where
  bin : ∀ op k a b v, fx.bin op k a b = some v → ∃ v', (∀ P t w, (binOp op t (.int k (dn η a)) (.int k (dn η b))).run P w = .ok v' w) ∧ ∀ μ, VR η μ v v'
  conv : ∀ k n m, fx.conv k n = some m → k.wrap (dn η n) = dn η m
  eqi : ∀ a b r, fx.eqi a b = some r → (dn η a == dn η b) = r
  eqb : ∀ a b r, fx.eqb a b = some r → (decide (η.i a = 1) == decide (η.i b = 1)) = r

def noFacts : Facts := ⟨fun _ _ _ _ => none, fun _ _ => none, fun _ _ => none, fun _ _ => none, fun _ _ _ => none, fun _ _ _ => none⟩
theorem noFacts_ok (η : Env) : FactsOK η noFacts where
  bin := fun _ _ _ _ _ h => by simp [noFacts] at h
  conv := fun _ _ _ h => by simp [noFacts] at h
  eqi := fun _ _ _ h => by simp [noFacts] at h
  eqb := fun _ _ _ h => by simp [noFacts] at h

def pureRun {α : Type} (P : Program) : Sem α → Option α
  | .pure a => some a
  | .program k => pureRun P (k P)
  | _ => none

theorem pureRun_sound {α : Type} {P : Program} {x : Sem α} {a : α} (h : pureRun P x = some a) (w : World) : x.run P w = .ok a w := by
  induction x with
  | pure b => simp [pureRun] at h; subst h; rfl
  | program k ih => simp only [pureRun] at h; simp only [Sem.run]; exact ih P h
  | _ => simp [pureRun] at h

def hFlat (P : Program) (x : Sem Value) : Option Value :=
  match pureRun P x with
  | some v => bif flatN 6 v then some v else none
  | none => none

section
variable {η : Env} {w0 : Base} {μ : Mu} {s : St} {w : World} {P : Program}

theorem hFlat_sound {x : Sem Value} {v : Value} (h : hFlat P x = some v) (w : World) : x.run P w = .ok v w ∧ VR η μ v v := by
  unfold hFlat at h
  split at h
  · rename_i u hu
    cases hf : flatN 6 u with
    | false => rw [hf] at h; simp at h
    | true =>
      rw [hf] at h
      simp at h
      subst h
      exact ⟨pureRun_sound hu w, flat_self 6 _ hf⟩
  · cases h

/-! ### Operators -/
def hNe (P : Program) (t : TypeId) (x y : Value) : Bool :=
  match P.underlying t, x, y with
  | some (.pointer _), .pointer (some _), .pointer none => true
  | some (.pointer _), .pointer none, .pointer (some _) => true
  | some (.slice _), .slice (some _) _ _, .slice none _ _ => true
  | some (.slice _), .slice none _ _, .slice (some _) _ _ => true
  | some (.map _ _), .map (some _), .map none => true
  | some (.map _ _), .map none, .map (some _) => true
  | some (.func _ _ _), .func _ _ _, .nilFunc => true
  | some (.func _ _ _), .nilFunc, .func _ _ _ => true
  | some (.interface _), .iface _ _, .nilIface => true
  | some (.interface _), .nilIface, .iface _ _ => true
  | _, _, _ => false

theorem run_eqGuard_ne {op : BinOp} {t : TypeId} {xo yo : Operand} {x y : Value} (h : hNe P t x y = true) (w : World) : (eqGuard op t xo yo x y).run P w = .ok () w := by
  unfold hNe at h
  split at h <;> first | exact Bool.noConfusion h | (cases op <;> rfl)

theorem equalIn_ne {t : TypeId} {x y : Value} (h : hNe P t x y = true) (d : Nat) (w : World) : (Op.equalIn (d + 1) t x y).run P w = .ok false w := by
  unfold hNe at h
  split at h
  all_goals first
    | exact Bool.noConfusion h
    | (rename_i hu; simp [Op.equalIn, run_underlying hu])

theorem binOp_ne {t : TypeId} {x y : Value} (h : hNe P t x y = true) : binOp .eql t x y = (do pure (.bool (← Op.equal t x y)) : Sem Value) ∧ binOp .neq t x y = (do pure (.bool (!(← Op.equal t x y))) : Sem Value) := by
  unfold hNe at h
  split at h <;> first | exact Bool.noConfusion h | exact ⟨rfl, rfl⟩

theorem run_ne {t : TypeId} {xo yo : Operand} {x y : Value} (h : hNe P t x y = true) (w : World) :
    (do eqGuard .eql t xo yo x y; binOp .eql t x y : Sem Value).run P w = .ok (.bool false) w ∧ (do eqGuard .neq t xo yo x y; binOp .neq t x y : Sem Value).run P w = .ok (.bool true) w := by
  have he := equalIn_ne h 9999 w
  have hb := binOp_ne h
  refine ⟨?_, ?_⟩
  · rw [Sem.run_bind, run_eqGuard_ne h, hb.1]
    simp [Op.equal, Op.maxDepth, he]
  · rw [Sem.run_bind, run_eqGuard_ne h, hb.2]
    simp [Op.equal, Op.maxDepth, he]

theorem hNe_vr {t : TypeId} {x y x' y' : Value} (h : hNe P t x y = true) (hx : VR η μ x x') (hy : VR η μ y y') : hNe P t x' y' = true := by
  unfold hNe at h
  split at h
  all_goals first
    | exact Bool.noConfusion h
    | (rename_i hu; cases hx <;> cases hy <;> simp [hNe, hu])

def hEqNe : BinOp → Option Value
  | .eql => some (.bool false)
  | .neq => some (.bool true)
  | _ => none

/-! ### Parts of values -/
def hPart (P : Program) (t : TypeId) (cs : List Value) (off : Nat) : Option Value :=
  match P.underlying t with
  | none => none
  | some d => bif isAggD d then
      match P.info? t with
      | some f => some (.agg ⟨(cs.drop off).take f.size⟩)
      | none => none
    else cs[off]?

theorem part_sound {t : TypeId} {cs cs' : List Value} {off : Nat} {v : Value} (h : hPart P t cs off = some v) (hc : VRs η μ cs cs') (w : World) : ∃ v', (part t ⟨cs'⟩ off).run P w = .ok v' w ∧ VR η μ v v' := by
  unfold hPart at h
  cases hu : P.underlying t with
  | none => simp only [hu] at h; cases h
  | some d =>
    simp only [hu] at h
    cases hd : isAggD d with
    | true =>
      simp only [hd, cond_true] at h
      cases hi : P.info? t with
      | none => simp only [hi] at h; cases h
      | some f =>
        simp only [hi, Option.some.injEq] at h
        subst h
        refine ⟨_, ?_, .agg ((hc.drop off).take f.size)⟩
        simp [part, run_isAgg hu, hd, sizeOf, typeInfo, hi]
    | false =>
      simp only [hd, cond_false] at h
      obtain ⟨v', h1, h2⟩ := hc.get off v h
      refine ⟨v', ?_, h2⟩
      simp [part, run_isAgg hu, hd, h1]

/-! ### Structs and arrays that are compared -/
def isBl : Value → Bool
  | .bool _ => true
  | .float .f64 _ => true
  | _ => false

def bv (η : Env) : Value → Bool
  | .bool b => b
  | .float _ n => decide (η.i n = 1)
  | _ => false

def leafEq (η : Env) : Value × Value → Bool
  | (.int _ a, .int _ b) => dn η a == dn η b
  | (x, y) => bv η x == bv η y

abbrev EqRec := TypeId → Value → Value → Option (List (Value × Value))

def eqFs (P : Program) (rc : EqRec) (xs ys : List Value) : List Field → Option (List (Value × Value))
  | [] => some []
  | f :: fs => if f.name ≠ "_" then
      match hPart P f.type xs f.offset, hPart P f.type ys f.offset with
      | some a, some b => match rc f.type a b, eqFs P rc xs ys fs with
        | some l, some r => some (l ++ r)
        | _, _ => none
      | _, _ => none
    else eqFs P rc xs ys fs

def eqEs (P : Program) (rc : EqRec) (e : TypeId) (z : Nat) (xs ys : List Value) : List Nat → Option (List (Value × Value))
  | [] => some []
  | i :: is => match hPart P e xs (i * z), hPart P e ys (i * z) with
    | some a, some b => match rc e a b, eqEs P rc e z xs ys is with
      | some l, some r => some (l ++ r)
      | _, _ => none
    | _, _ => none

def eqLeaves (P : Program) : Nat → EqRec
  | 0, _, _, _ => none
  | d + 1, t, x, y => match P.underlying t, x, y with
    | some .bool, _, _ => bif isBl x && isBl y then some [(x, y)] else none
    | some (.int _), .int k a, .int k' b => if k = k' then some [(.int k a, .int k b)] else none
    | some (.struct fs), .agg xs, .agg ys => bif P.stoodInHeld t then none else eqFs P (eqLeaves P d) xs.toList ys.toList fs.toList
    | some (.array n e), .agg xs, .agg ys => match P.info? e with
      | some f => eqEs P (eqLeaves P d) e f.size xs.toList ys.toList (List.range' 0 n 1)
      | none => none
    | _, _, _ => none

def sameL (fx : Facts) : Value × Value → Bool
  | (.int _ a, .int _ b) => decide (a = b) || (match fx.eqi a b with | some true => true | _ => false)
  | (.bool a, .bool b) => a == b
  | (.float .f64 a, .float .f64 b) => Nat.beq a b || (match fx.eqb a b with | some true => true | _ => false)
  | _ => false

def diffL (fx : Facts) : Value × Value → Bool
  | (.int _ a, .int _ b) => (decide (a < TOK) && decide (b < TOK) && !decide (a = b)) || (match fx.eqi a b with | some false => true | _ => false)
  | (.bool a, .bool b) => a != b
  | (.float .f64 a, .float .f64 b) => match fx.eqb a b with | some false => true | _ => false
  | _ => false

def eqAll (fx : Facts) (l : List (Value × Value)) : Option Bool :=
  bif l.all (sameL fx) then some true else bif l.any (diffL fx) then some false else none

theorem bl_vr {v v' : Value} (hb : isBl v = true) (h : VR η μ v v') : v' = .bool (bv η v) := by
  cases h <;> simp [isBl] at hb <;> rfl

theorem leafEq_bl {x y : Value} (hx : isBl x = true) : leafEq η (x, y) = (bv η x == bv η y) := by
  cases x <;> simp [isBl] at hx <;> rfl

def EqOK (P : Program) (η : Env) (μ : Mu) (d : Nat) : Prop :=
  ∀ (t : TypeId) (x y x' y' : Value) (l : List (Value × Value)), eqLeaves P d t x y = some l → VR η μ x x' → VR η μ y y' → ∀ (D : Nat) (w : World), d ≤ D → (Op.equalIn D t x' y').run P w = .ok (l.all (leafEq η)) w

theorem eqFs_sound {d : Nat} (hr : EqOK P η μ d) {xs ys xs' ys' : List Value} (hx : VRs η μ xs xs') (hy : VRs η μ ys ys') {D : Nat} (hD : d ≤ D) (w : World) :
    ∀ (fs : List Field) (l : List (Value × Value)), eqFs P (eqLeaves P d) xs ys fs = some l → (Op.eqFields D ⟨xs'⟩ ⟨ys'⟩ fs).run P w = .ok (l.all (leafEq η)) w := by
  intro fs
  induction fs with
  | nil => intro l h; cases h; rfl
  | cons f fs ih =>
    intro l h
    simp only [eqFs] at h
    unfold Op.eqFields
    split at h
    · rename_i hn
      rw [if_pos hn]
      split at h
      · rename_i a b ha hb
        split at h
        · rename_i l1 r1 hl hr1
          cases h
          obtain ⟨a', k1, k2⟩ := part_sound ha hx w
          obtain ⟨b', k3, k4⟩ := part_sound hb hy w
          have k5 := hr f.type a b a' b' l1 hl k2 k4 D w hD
          have k6 := ih r1 hr1
          simp only [Sem.run_bind, k1, k3, k5, Result.andThen_ok, List.all_append]
          cases l1.all (leafEq η) with
          | false => simp
          | true => simp [k6]
        · cases h
      · cases h
    · rename_i hn
      rw [if_neg hn]
      exact ih l h

theorem eqEs_sound {d : Nat} (hr : EqOK P η μ d) {xs ys xs' ys' : List Value} (hx : VRs η μ xs xs') (hy : VRs η μ ys ys') {D : Nat} (hD : d ≤ D) {e : TypeId} {z : Nat} (w : World) :
    ∀ (is : List Nat) (l : List (Value × Value)), eqEs P (eqLeaves P d) e z xs ys is = some l →
    (do let s ← forIn (m := Sem) is ((none, ()) : Option Bool × Unit) fun i _ => do
          let b ← Op.equalIn D e (← part e ⟨xs'⟩ (i * z)) (← part e ⟨ys'⟩ (i * z))
          if (!b) = true then pure (ForInStep.done (some false, ())) else pure (ForInStep.yield (none, ()))
        match s.fst with
        | some r => pure r
        | none => pure true : Sem Bool).run P w = .ok (l.all (leafEq η)) w := by
  intro is
  induction is with
  | nil => intro l h; cases h; rfl
  | cons i is ih =>
    intro l h
    simp only [eqEs] at h
    split at h
    · rename_i a b ha hb
      split at h
      · rename_i l1 r1 hl hr1
        cases h
        obtain ⟨a', k1, k2⟩ := part_sound ha hx w
        obtain ⟨b', k3, k4⟩ := part_sound hb hy w
        have k5 := hr e a b a' b' l1 hl k2 k4 D w hD
        have k6 := ih r1 hr1
        simp only [List.forIn_cons, Sem.run_bind, k1, k3, k5, Result.andThen_ok, List.all_append]
        cases l1.all (leafEq η) with
        | false => simp
        | true =>
          simp only [Bool.not_true, Bool.false_eq_true, if_false, Sem.run_pure, Result.andThen_ok, Bool.true_and]
          simpa only [Sem.run_bind] using k6
      · cases h
    · cases h

theorem eqLeaves_sound : ∀ d, EqOK P η μ d := by
  intro d
  induction d with
  | zero => intro t x y x' y' l h; cases h
  | succ d ih =>
    intro t x y x' y' l h hx hy D w hD
    obtain ⟨D', rfl⟩ : ∃ D', D = D' + 1 := ⟨D - 1, by omega⟩
    simp only [eqLeaves] at h
    split at h
    · rename_i x y _ _ _ hu
      cases hb : (isBl x && isBl y) with
      | false => rw [hb] at h; cases h
      | true =>
        rw [hb] at h
        simp only [cond_true, Option.some.injEq] at h
        subst h
        simp only [Bool.and_eq_true] at hb
        rw [bl_vr hb.1 hx, bl_vr hb.2 hy, run_equalIn_bool' w D' t _ _ hu]
        simp [leafEq_bl hb.1]
    · rename_i k0 k a k' b hu
      split at h
      · rename_i hk
        subst hk
        cases h
        cases hx; cases hy
        rw [run_equalIn_int w D' t k k0 _ _ hu]
        simp [leafEq]
      · cases h
    · rename_i fs xs ys hu
      cases hs : P.stoodInHeld t with
      | true => rw [hs] at h; cases h
      | false =>
        rw [hs] at h
        simp only [cond_false] at h
        cases hx with
        | agg hx =>
          cases hy with
          | agg hy =>
            have hf : P.fieldsOf t = fs := by unfold Program.fieldsOf; rw [hu]
            rw [run_equalIn_struct w D' t _ _ (by rw [hf]; exact hu) hs, hf]
            exact eqFs_sound ih hx hy (by omega) w _ _ h
    · rename_i n e xs ys hu
      split at h
      · rename_i f hi
        cases hx with
        | agg hx =>
          cases hy with
          | agg hy =>
            have k := eqEs_sound ih hx hy (D := D') (by omega) (e := e) (z := f.size) w _ _ h
            simp only [Op.equalIn, Sem.run_bind, run_underlying hu, Result.andThen_ok, sizeOf, typeInfo, run_program, hi, Sem.run_pure]
            rw [Std.Legacy.Range.forIn_eq_forIn_range']
            simp [Std.Legacy.Range.size]
            simp at k
            refine Eq.trans ?_ k
            congr
            funext a w'
            obtain ⟨_ | _, _⟩ := a <;> rfl
      · cases h
    · cases h

theorem eqAll_sound {fx : Facts} (hf : FactsOK η fx) {l : List (Value × Value)} {r : Bool} (h : eqAll fx l = some r) : l.all (leafEq η) = r := by
  unfold eqAll at h
  have hs : ∀ x, sameL fx x = true → leafEq η x = true := by
    rintro ⟨a, b⟩ hx
    unfold sameL at hx
    split at hx
    · rename_i k n k' m e
      cases e
      simp only [leafEq]
      simp only [Bool.or_eq_true, decide_eq_true_eq] at hx
      rcases hx with rfl | hx
      · simp
      · split at hx
        · rename_i he; exact hf.eqi _ _ _ he
        · cases hx
    · rename_i a b e
      cases e
      simpa [leafEq, bv] using hx
    · rename_i n m e
      cases e
      simp only [leafEq, bv]
      simp only [Bool.or_eq_true, beq_iff] at hx
      rcases hx with rfl | hx
      · simp
      · split at hx
        · rename_i he; exact hf.eqb _ _ _ he
        · cases hx
    · cases hx
  have hd : ∀ x, diffL fx x = true → leafEq η x = false := by
    rintro ⟨a, b⟩ hx
    unfold diffL at hx
    split at hx
    · rename_i k n k' m e
      cases e
      simp only [leafEq]
      simp only [Bool.or_eq_true, Bool.and_eq_true, decide_eq_true_eq, Bool.not_eq_true', decide_eq_false_iff_not] at hx
      rcases hx with ⟨⟨h1, h2⟩, h3⟩ | hx
      · rw [dn_lt h1, dn_lt h2]; simpa using h3
      · split at hx
        · rename_i he; exact hf.eqi _ _ _ he
        · cases hx
    · rename_i a b e
      cases e
      cases a <;> cases b <;> simp_all [leafEq, bv]
    · rename_i n m e
      cases e
      simp only [leafEq, bv]
      split at hx
      · rename_i he; exact hf.eqb _ _ _ he
      · cases hx
    · cases hx
  cases ha : l.all (sameL fx) with
  | true =>
    rw [ha] at h
    cases h
    rw [List.all_eq_true] at ha ⊢
    exact fun x hx => hs x (ha x hx)
  | false =>
    rw [ha] at h
    simp only [cond_false] at h
    cases hb : l.any (diffL fx) with
    | false => rw [hb] at h; cases h
    | true =>
      rw [hb] at h
      cases h
      rw [List.any_eq_true] at hb
      obtain ⟨x, h1, h2⟩ := hb
      cases hc : l.all (leafEq η) with
      | false => rfl
      | true =>
        rw [List.all_eq_true] at hc
        have := hc x h1
        rw [hd x h2] at this
        cases this

def hEqAgg (P : Program) (fx : Facts) (op : BinOp) (t : TypeId) (x y : Value) : Option Value :=
  match op with
  | .eql => bif P.eqGuardType P.depth t then none else match eqLeaves P 8 t x y with
    | some l => (eqAll fx l).map fun b => .bool b
    | none => none
  | .neq => bif P.eqGuardType P.depth t then none else match eqLeaves P 8 t x y with
    | some l => (eqAll fx l).map fun b => .bool (!b)
    | none => none
  | _ => none

theorem eqAgg_sound {fx : Facts} (hf : FactsOK η fx) {op : BinOp} {t : TypeId} {xo yo : Operand} {xs ys : Array Value} {x' y' v : Value} (h : hEqAgg P fx op t (.agg xs) (.agg ys) = some v) (hx : VR η μ (.agg xs) x') (hy : VR η μ (.agg ys) y') (w : World) :
    ∃ v', (do eqGuard op t xo yo x' y'; binOp op t x' y' : Sem Value).run P w = .ok v' w ∧ VR η μ v v' := by
  unfold hEqAgg at h
  split at h
  · cases hg : P.eqGuardType P.depth t with
    | true => rw [hg] at h; cases h
    | false =>
      rw [hg] at h
      simp only [cond_false] at h
      split at h
      · rename_i l hl
        simp only [Option.map_eq_some_iff] at h
        obtain ⟨b, hb, rfl⟩ := h
        have k := eqLeaves_sound 8 t _ _ _ _ l hl hx hy 10000 w (by omega)
        rw [eqAll_sound hf hb] at k
        cases hx; cases hy
        refine ⟨.bool b, ?_, .bool b⟩
        rw [Sem.run_bind, run_eqGuard_agg w .eql t xo yo _ _ hg, Result.andThen_ok, run_eql_struct, k]
        rfl
      · cases h
  · cases hg : P.eqGuardType P.depth t with
    | true => rw [hg] at h; cases h
    | false =>
      rw [hg] at h
      simp only [cond_false] at h
      split at h
      · rename_i l hl
        simp only [Option.map_eq_some_iff] at h
        obtain ⟨b, hb, rfl⟩ := h
        have k := eqLeaves_sound 8 t _ _ _ _ l hl hx hy 10000 w (by omega)
        rw [eqAll_sound hf hb] at k
        cases hx; cases hy
        refine ⟨.bool (!b), ?_, .bool _⟩
        rw [Sem.run_bind, run_eqGuard_agg w .neq t xo yo _ _ hg, Result.andThen_ok, run_neq_struct, k]
        rfl
      · cases h
  · cases h

/-! ### Operators, all of them -/
def hBin (P : Program) (fx : Facts) (op : BinOp) (t : TypeId) (xo yo : Operand) (x y : Value) : Option Value :=
  bif flatN 6 x && flatN 6 y then hFlat P (do eqGuard op t xo yo x y; binOp op t x y)
  else bif hNe P t x y then hEqNe op
  else match x, y with
    | .int k a, .int k' b => if k = k' then fx.bin op k a b else none
    | .agg xs, .agg ys => hEqAgg P fx op t (.agg xs) (.agg ys)
    | _, _ => none

theorem bin_sound {fx : Facts} (hf : FactsOK η fx) {op : BinOp} {t : TypeId} {xo yo : Operand} {x y x' y' v : Value} (h : hBin P fx op t xo yo x y = some v) (hx : VR η μ x x') (hy : VR η μ y y') (w : World) :
    ∃ v', (do eqGuard op t xo yo x' y'; binOp op t x' y' : Sem Value).run P w = .ok v' w ∧ VR η μ v v' := by
  unfold hBin at h
  cases hb : (flatN 6 x && flatN 6 y) with
  | true =>
    rw [hb] at h
    simp only [cond_true] at h
    simp only [Bool.and_eq_true] at hb
    obtain rfl := flat_eq 6 _ _ hb.1 hx
    obtain rfl := flat_eq 6 _ _ hb.2 hy
    exact ⟨v, hFlat_sound h w⟩
  | false =>
    rw [hb] at h
    simp only [cond_false] at h
    cases hn : hNe P t x y with
    | true =>
      rw [hn] at h
      simp only [cond_true] at h
      have hn' := run_ne (xo := xo) (yo := yo) (hNe_vr hn hx hy) w
      cases op <;> simp only [hEqNe, Option.some.injEq, reduceCtorEq] at h <;> first | (subst h; exact ⟨_, hn'.1, .bool _⟩) | (subst h; exact ⟨_, hn'.2, .bool _⟩)
    | false =>
      rw [hn] at h
      simp only [cond_false] at h
      split at h
      · rename_i k a k' b
        split at h
        · rename_i hk
          subst hk
          cases hx with
          | int k a =>
            cases hy with
            | int k b =>
              obtain ⟨v', h1, h2⟩ := hf.bin op _ _ _ v h
              refine ⟨v', ?_, h2 μ⟩
              rw [Sem.run_bind, show (eqGuard op t xo yo (.int k (dn η a)) (.int k (dn η b))).run P w = .ok () w by cases op <;> rfl]
              exact h1 P t w
        · cases h
      · exact eqAgg_sound hf h hx hy w
      · cases h

def hConv (P : Program) (fx : Facts) (src dst : TypeId) (x : Value) : Option Value :=
  bif flatN 6 x then hFlat P (convert src dst x)
  else match x, P.underlying src, P.underlying dst with
    | .int _ n, some _, some (.int k) => (fx.conv k n).map fun m => .int k m
    | _, _, _ => none

theorem conv_sound {fx : Facts} (hf : FactsOK η fx) {src dst : TypeId} {x x' v : Value} (h : hConv P fx src dst x = some v) (hx : VR η μ x x') (w : World) : ∃ v', (convert src dst x').run P w = .ok v' w ∧ VR η μ v v' := by
  unfold hConv at h
  cases hb : flatN 6 x with
  | true =>
    rw [hb] at h
    simp only [cond_true] at h
    obtain rfl := flat_eq 6 _ _ hb hx
    exact ⟨v, hFlat_sound h w⟩
  | false =>
    rw [hb] at h
    simp only [cond_false] at h
    split at h
    · rename_i k0 n d k hs hd
      simp only [Option.map_eq_some_iff] at h
      obtain ⟨m, hm, rfl⟩ := h
      cases hx
      refine ⟨_, ?_, .int k m⟩
      have := hf.conv k n m hm
      simp [convert, run_underlying hs, run_underlying hd, Conv.intToInt, this]
    · cases h

def hField (P : Program) (t : TypeId) (x : Value) (f : Nat) : Option Value :=
  match P.underlying t, x with
  | some (.struct fs), .agg cs => match fs[f]? with
    | some g => hPart P g.type cs.toList g.offset
    | none => none
  | _, _ => none

theorem field_sound {t : TypeId} {x x' v : Value} {f : Nat} (h : hField P t x f = some v) (hx : VR η μ x x') (w : World) : ∃ v', (Instr.field t x' f).run P w = .ok v' w ∧ VR η μ v v' := by
  unfold hField at h
  split at h
  · rename_i fs cs hu
    cases hg : fs[f]? with
    | none => simp only [hg] at h; cases h
    | some g =>
      simp only [hg] at h
      cases hx with
      | agg hc =>
        obtain ⟨v', h1, h2⟩ := part_sound h hc w
        refine ⟨v', ?_, h2⟩
        simp [Instr.field, run_underlying hu, hg, asAgg, h1]
  · cases h

def hIndex (P : Program) (t : TypeId) (x i : Value) : Option Value :=
  bif flatN 6 x && flatN 6 i then hFlat P (Instr.index t x i)
  else match P.underlying t, x, i with
    | some (.array n e), .agg cs, .int _ k => match P.info? e with
      | some f => bif decide (k < TOK) && decide (0 ≤ k) && decide (k < n) then hPart P e cs.toList (k.toNat * f.size) else none
      | none => none
    | _, _, _ => none

theorem index_sound {t : TypeId} {x x' i i' v : Value} (h : hIndex P t x i = some v) (hx : VR η μ x x') (hi : VR η μ i i') (w : World) : ∃ v', (Instr.index t x' i').run P w = .ok v' w ∧ VR η μ v v' := by
  unfold hIndex at h
  cases hb : (flatN 6 x && flatN 6 i) with
  | true =>
    rw [hb] at h
    simp only [cond_true] at h
    simp only [Bool.and_eq_true] at hb
    obtain rfl := flat_eq 6 _ _ hb.1 hx
    obtain rfl := flat_eq 6 _ _ hb.2 hi
    exact ⟨v, hFlat_sound h w⟩
  | false =>
    rw [hb] at h
    simp only [cond_false] at h
    split at h
    · rename_i n e cs kd k hu
      cases hf : P.info? e with
      | none => simp only [hf] at h; cases h
      | some f =>
        simp only [hf] at h
        cases hc : (decide (k < TOK) && decide (0 ≤ k) && decide (k < (n : Int))) with
        | false => rw [hc] at h; simp at h
        | true =>
          rw [hc] at h
          simp only [cond_true] at h
          simp only [Bool.and_eq_true, decide_eq_true_eq] at hc
          obtain ⟨⟨c1, c2⟩, c3⟩ := hc
          cases hi with
          | int kd k =>
            rw [dn_lt c1]
            cases hx with
            | agg hcs =>
              obtain ⟨v', h1, h2⟩ := part_sound h hcs w
              refine ⟨v', ?_, h2⟩
              simp [Instr.index, asIntOf, run_underlying hu, c2, c3, sizeOf, typeInfo, hf, h1]
    · cases h

/-! ### Addresses -/
def hFieldAddr (P : Program) (t : TypeId) (x : Value) (f : Nat) : Option Value :=
  match P.underlying t, x with
  | some (.struct fs), .pointer (some ⟨i, o, none⟩) => match fs[f]? with
    | some g => match P.info? g.type with
      | some inf => bif Nat.beq inf.size 0 then none else some (.pointer (some ⟨i, o + g.offset, none⟩))
      | none => none
    | none => none
  | _, _ => none

theorem fieldAddr_sound {t : TypeId} {x x' v : Value} {f : Nat} (h : hFieldAddr P t x f = some v) (hx : VR η μ x x') (w : World) : ∃ v', (Instr.fieldAt t x' f).run P w = .ok v' w ∧ VR η μ v v' := by
  unfold hFieldAddr at h
  split at h
  · rename_i fs i o hu
    cases hg : fs[f]? with
    | none => simp only [hg] at h; cases h
    | some g =>
      simp only [hg] at h
      cases hi : P.info? g.type with
      | none => simp only [hi] at h; cases h
      | some inf =>
        simp only [hi] at h
        cases hz : Nat.beq inf.size 0 with
        | true => rw [hz] at h; simp at h
        | false =>
          rw [hz] at h
          simp only [cond_false, Option.some.injEq] at h
          subst h
          have hz' : inf.size ≠ 0 := fun e => by rw [(beq_iff _ _).2 e] at hz; cases hz
          cases hx with
          | ptr hp =>
            rename_i p
            refine ⟨_, ?_, .ptr (o := o + g.offset) hp⟩
            simp [Instr.fieldAt, run_underlying hu, hg, Instr.sureAddr, fieldPlace, sizeOf, typeInfo, hi, hz', add_plain', Nat.add_assoc]
  · cases h

def hIndexAddr (P : Program) (t : TypeId) (x i : Value) : Option Value :=
  match P.underlying t, x, i with
  | some (.slice e), .slice (some ⟨b, o, none⟩) n _, .int _ k => match P.info? e with
    | some f => bif decide (k < TOK) && decide (0 ≤ k) && decide (k < n) then some (.pointer (some ⟨b, o + k.toNat * f.size, none⟩)) else none
    | none => none
  | some (.array n e), .pointer (some ⟨b, o, none⟩), .int _ k => match P.info? e with
    | some f => bif decide (k < TOK) && decide (0 ≤ k) && decide (k < n) then some (.pointer (some ⟨b, o + k.toNat * f.size, none⟩)) else none
    | none => none
  | _, _, _ => none

theorem indexAddr_sound {t : TypeId} {x x' i i' v : Value} (h : hIndexAddr P t x i = some v) (hx : VR η μ x x') (hi : VR η μ i i') (w : World) : ∃ v', (Instr.indexAt t x' i').run P w = .ok v' w ∧ VR η μ v v' := by
  unfold hIndexAddr at h
  split at h
  · rename_i e b o n c kd k hu
    cases hf : P.info? e with
    | none => simp only [hf] at h; cases h
    | some f =>
      simp only [hf] at h
      cases hc : (decide (k < TOK) && decide (0 ≤ k) && decide (k < (n : Int))) with
      | false => rw [hc] at h; simp at h
      | true =>
        rw [hc] at h
        simp only [cond_true, Option.some.injEq] at h
        subst h
        simp only [Bool.and_eq_true, decide_eq_true_eq] at hc
        obtain ⟨⟨c1, c2⟩, c3⟩ := hc
        cases hi with
        | int kd k =>
          rw [dn_lt c1]
          cases hx with
          | sliceK hp hcc =>
            refine ⟨_, ?_, .ptr (o := o + k.toNat * f.size) hp⟩
            simp [Instr.indexAt, asIntOf, run_underlying hu, c2, c3, sizeOf, typeInfo, hf, add_plain', Nat.add_assoc]
          | sliceU hp h1 h2 h3 =>
            refine ⟨_, ?_, .ptr (o := o + k.toNat * f.size) hp⟩
            simp [Instr.indexAt, asIntOf, run_underlying hu, c2, c3, sizeOf, typeInfo, hf, add_plain', Nat.add_assoc]
          | sliceE => exfalso; simp at c3; omega
  · rename_i n e b o kd k hu
    cases hf : P.info? e with
    | none => simp only [hf] at h; cases h
    | some f =>
      simp only [hf] at h
      cases hc : (decide (k < TOK) && decide (0 ≤ k) && decide (k < (n : Int))) with
      | false => rw [hc] at h; simp at h
      | true =>
        rw [hc] at h
        simp only [cond_true, Option.some.injEq] at h
        subst h
        simp only [Bool.and_eq_true, decide_eq_true_eq] at hc
        obtain ⟨⟨c1, c2⟩, c3⟩ := hc
        cases hi with
        | int kd k =>
          rw [dn_lt c1]
          cases hx with
          | ptr hp =>
            refine ⟨_, ?_, .ptr (o := o + k.toNat * f.size) hp⟩
            simp [Instr.indexAt, asIntOf, run_underlying hu, Instr.sureAddr, c2, c3, sizeOf, typeInfo, hf, add_plain', Nat.add_assoc]
  · cases h

end
end Go.Hx
