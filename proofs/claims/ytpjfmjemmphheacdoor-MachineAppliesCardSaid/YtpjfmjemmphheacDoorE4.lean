/- MachineApplies: the executor: one operation. Conditions: none. -/
import Derived.Test.YtpjfmjemmphheacDoorE3
import Derived.OrdersHeld
import Derived.StillTail
set_option linter.all false
set_option linter.unusedVariables false
set_option linter.unusedSimpArgs false
namespace Go.Hx
open Go Go.RowKit

structure HF where
  t : Tr Value
  n : Nat
  ds : List HDef
  dv : Value
def HF.get (f : HF) (d : Nat) : Value := (f.t.get d).getD f.dv
/-- In a slot: whatever. -/
def hvc : Value := .complex .f64 0 0
def isHv : Value → Bool
  | .complex _ _ _ => true
  | _ => false
def HF.ev (s : St) (f : HF) : Operand → Option Value
  | .tmp d => bif Nat.blt d f.n && !isHv (f.get d) then some (f.get d) else none
  | .const v => bif flatN 4 v then some v else none
  | .global g => bif Nat.blt g s.ng then some (.pointer (some ⟨g, 0, none⟩)) else none
  | .func g => some (.func (.func g) #[] #[])
def HF.put (f : HF) (d : Option Nat) (v : Value) : Option HF :=
  match d with
  | none => some f
  | some d => bif Nat.blt d f.n then (Tr.set 64 f.t d v).map fun t => { f with t := t } else none

inductive DsR (μ : Mu) : List HDef → List Deferred → Prop
  | nil : DsR μ [] []
  | cons {fn : Fn} {cap args cap' args' : List Value} {l : List HDef} {l' : List Deferred} (h1 : VRs μ cap cap') (h2 : VRs μ args args') (t : DsR μ l l') :
      DsR μ (⟨fn, cap, args⟩ :: l) ({ target := .fn fn ⟨cap'⟩, args := ⟨args'⟩ } :: l')

theorem DsR.mono {μ ν : Mu} (hl : μ.le ν) {l : List HDef} {l' : List Deferred} (h : DsR μ l l') : DsR ν l l' := by
  induction h with
  | nil => exact .nil
  | cons h1 h2 _ ih => exact .cons (h1.mono hl) (h2.mono hl) ih

structure AR (μ : Mu) (f : HF) (a : Act) : Prop where
  size : a.tmps.size = f.n
  vals : ∀ d, d < f.n → isHv (f.get d) = false → VR μ (f.get d) (a.tmps.getD d undef)
  ds : DsR μ f.ds a.defers

def evs (ev : Operand → Option Value) : List Operand → Option (List Value)
  | [] => some []
  | x :: l => match ev x, evs ev l with
    | some v, some r => some (v :: r)
    | _, _ => none

def evO (ev : Operand → Option Value) : Option Operand → Option (Option Value)
  | none => some none
  | some x => match ev x with
    | some v => some (some v)
    | none => none

def notNil : Value → Bool
  | .pointer (some _) => true
  | .iface t _ => Nat.beq t 1208925819614629174706177 || Nat.blt t TYM
  | .func (.func _) _ _ => true
  | _ => false

def isIfaceD : TypeDesc → Bool
  | .interface _ => true
  | _ => false

def hasBody (P : Program) (g : FuncId) : Bool :=
  match P.funcs[g]? with
  | some fn => fn.body.isSome
  | none => false

def hCallee (P : Program) (f : Value) (args : List Value) : Option (FuncId × List Value) :=
  match f with
  | .func (.func g) first cap => bif hasBody P g then some (g, first.toList ++ args ++ cap.toList) else none
  | _ => none

/-- Operations that leave the world alone and do not look at it: what they yield. -/
def hpure (P : Program) (s : St) (ev : Operand → Option Value) (o : Oper) : Option (Value × St) :=
  match o.op with
  | .move x => (ev x).map fun v => (v, s)
  | .assign x => (ev x).map fun v => (v, s)
  | .pick c a b => match ev c with
    | some (.bool t) => match popB t s with
      | some (true, s') => (ev a).map fun v => (v, s')
      | some (false, s') => (ev b).map fun v => (v, s')
      | none => none
    | _ => none
  | .nilCheck x => match ev x with
    | some v => bif notNil v then some (v, s) else none
    | none => none
  | .binOp op t x y _ => match ev x, ev y with
    | some vx, some vy => hBin P op t x y vx vy s
    | _, _ => none
  | .unOp op _ x => match ev x with
    | some v => bif flatN 6 v then (hFlat P (Op.unary op v)).map fun v => (v, s) else none
    | none => none
  | .convert src dst x => match ev x with
    | some v => (hConv P src dst v).map fun v => (v, s)
    | none => none
  | .makeInterface t x => match ev x, P.underlying t with
    | some v, some d => bif isIfaceD d || !(Nat.blt t TYM) then none else some (.iface t v, s)
    | _, _ => none
  | .makeFunc fn first cap => match evs ev first.toList, evs ev cap.toList with
    | some f, some c => some (.func fn ⟨f⟩ ⟨c⟩, s)
    | _, _ => none
  | .slice t x lo hi mx => match ev x, evO ev lo, evO ev hi, evO ev mx with
    | some vx, some l, some h, some m => hSlice P t vx l h m s
    | _, _, _, _ => none
  | .fieldAddr t x f => match ev x with
    | some v => (hFieldAddr P t v f).map fun v => (v, s)
    | none => none
  | .field t x f => match ev x with
    | some v => (hField P t v f).map fun v => (v, s)
    | none => none
  | .indexAddr t x i => match ev x, ev i with
    | some vx, some vi => hIndexAddr P t vx vi s
    | _, _ => none
  | .index t x i => match ev x, ev i with
    | some vx, some vi => hIndex P t vx vi s
    | _, _ => none
  | .extract t k => match ev t with
    | some (.tuple vs) => (vs.toList[k]?).map fun v => (v, s)
    | _ => none
  | .call c => match c.callee, c.argTypes.toList, evs ev c.args.toList with
    | .builtin .len, [t], some [x] => match P.underlying t with
      | some (.slice _) => (hLen P s t x).map fun v => (v, s)
      | some (.array _ _) => (hLen P s t x).map fun v => (v, s)
      | some .string => (hLen P s t x).map fun v => (v, s)
      | _ => none
    | _, _, _ => none
  | _ => none

/-- Min and max of numbers. -/
def hMinMax (mx : Bool) : List Value → Option Value
  | [.int k a, .int k' b] => if k = k' then some (.int k (if mx then max a b else min a b)) else none
  | _ => none

def hBuiltin (P : Program) (s : St) (b : Builtin) (ts : List TypeId) (ty : TypeId) (args : List Value) : Option (Value × St) :=
  match b, ts, args with
  | .len, [t], [x] => (hLen P s t x).map fun v => (v, s)
  | .append, [t, u], [x, y] => bif Nat.beq t u then hAppend P s t x y else none
  | .min, _, _ => bif args.all (flatN 2) then (hFlat P (Builtin.min_ ts.toArray ty args.toArray)).map fun v => (v, s) else none
  | .max, _, _ => bif args.all (flatN 2) then (hFlat P (Builtin.max_ ts.toArray ty args.toArray)).map fun v => (v, s) else none
  | _, _, _ => none

def hop (P : Program) (s : St) (ev : Operand → Option Value) (o : Oper) : Option (HN × St) :=
  match hpure P s ev o with
  | some (v, s') => some (.val v, s')
  | none =>
  match o.op with
  | .alloc e => (hAlloc P s e).map fun (v, s') => (.val v, s')
  | .box e x => match ev x with
    | some v => (hBox s e v).map fun (v, s') => (.val v, s')
    | none => none
  | .build t ps => match parts? ev ps.toList with
    | some l => (hBuild P t l).map fun v => (.val v, s)
    | none => none
  | .buildSlice t n ps => match parts? ev ps.toList with
    | some l => (hBuildSlice P s t n l).map fun (v, s') => (.val v, s')
    | none => none
  | .load t a => match ev a with
    | some v => (hLoad P s t v).map fun (v, s') => (.val v, s')
    | none => none
  | .store t a x => match ev a, ev x with
    | some va, some vx => (hStore P s t va vx).map fun s' => (.skip, s')
    | _, _ => none
  | .makeSlice t l c => match ev l, ev c with
    | some vl, some vc => (hMakeSlice P s t vl vc).map fun (v, s') => (.val v, s')
    | _, _ => none
  | .makeMap _ r => match r with
    | none => (hMakeMap s).map fun (v, s') => (.val v, s')
    | some _ => none
  | .lookup t x i ok => match ev x, ev i with
    | some vx, some vi => (hLookup P s t vx vi ok).map fun (v, s') => (.val v, s')
    | _, _ => none
  | .mapUpdate t m k x => match ev m, ev k, ev x with
    | some vm, some vk, some vx => (hMapUpdate P s t vm vk vx).map fun s' => (.skip, s')
    | _, _, _ => none
  | .call c => match c.callee, evs ev c.args.toList with
    | .value f, some args => match ev f with
      | some vf => (hCallee P vf args).map fun (g, l) => (.enter g l, s)
      | none => none
    | .invoke r name, some args => match ev r with
      | some vr => match hMethod P name vr with
        | some (g, x) => bif hasBody P g then some (.enter g (x :: args), s) else none
        | none => none
      | none => none
    | .builtin b, some args => (hBuiltin P s b c.argTypes.toList o.type args).map fun (v, s') => (.val v, s')
    | _, _ => none
  | .defer c => match c.callee, evs ev c.args.toList with
    | .value f, some args => match ev f with
      | some (.func fn first cap) => some (.dfr ⟨fn, cap.toList, first.toList ++ args⟩, s)
      | _ => none
    | _, _ => none
  | _ => none

/-- What the model's operation comes to. -/
def Sim (w0 : Base) (μ : Mu) (w : World) (r : Result Next) : HN × St → Prop
  | (.val v, s') => ∃ v' w' μ', r = .ok (.value v') w' ∧ μ.le μ' ∧ R w0 μ' s' w' ∧ VR μ' v v'
  | (.skip, s') => ∃ w' μ', r = .ok .skip w' ∧ μ.le μ' ∧ R w0 μ' s' w'
  | (.enter f args, s') => ∃ args', r = .ok (.enter f ⟨args'⟩) w ∧ R w0 μ s' w ∧ VRs μ args args'
  | (.dfr d, s') => ∃ cap' args', r = .ok (.defer { target := .fn d.fn ⟨cap'⟩, args := ⟨args'⟩ }) w ∧ R w0 μ s' w ∧ VRs μ d.cap cap' ∧ VRs μ d.args args'

section
variable {w0 : Base} {μ : Mu} {s : St} {w : World} {P : Program} {ev : Operand → Option Value} {ρ : Operand → Value}

theorem evs_sound (he : ∀ x v, ev x = some v → VR μ v (ρ x)) : ∀ (l : List Operand) (r : List Value), evs ev l = some r → VRs μ r (l.map ρ) := by
  intro l
  induction l with
  | nil => intro r h; simp [evs] at h; subst h; exact .nil
  | cons x l ih =>
    intro r h
    simp only [evs] at h
    split at h
    · rename_i v r' hv hr
      simp at h
      subst h
      exact .cons (he _ _ hv) (ih r' hr)
    · cases h

theorem evO_sound (he : ∀ x v, ev x = some v → VR μ v (ρ x)) {x : Option Operand} {r : Option Value} (h : evO ev x = some r) : VRo μ r (x.map ρ) := by
  cases x with
  | none => simp [evO] at h; subst h; exact .none
  | some x =>
    simp only [evO] at h
    split at h
    · rename_i v hv; simp at h; subst h; exact .some (he _ _ hv)
    · cases h

/-- No function with a body bears the one name that the model looks for. -/
def NoG (P : Program) : Prop := ∀ (g : FuncId) (fn : Func), P.funcs[g]? = some fn → fn.body.isSome = true → (fn.name == "runtime.NumGoroutine") = false

theorem run_callFunc (hg : NoG P) {g : FuncId} (hb : hasBody P g = true) (args : Array Value) (w : World) : (callFunc g args).run P w = .ok (.enter g args) w := by
  unfold hasBody at hb
  cases hf : P.funcs[g]? with
  | none => simp [hf] at hb
  | some fn =>
    simp only [hf] at hb
    have hn := hg g fn hf hb
    have hb' : fn.body.isNone = false := by cases hx : fn.body <;> simp_all
    simp only [callFunc, Sem.run_bind, run_program, Result.andThen_ok, hf, hn, hb', Bool.false_eq_true, if_false, Sem.run_pure]

theorem flats_eq {l l' : List Value} {d : Nat} (hf : l.all (flatN d) = true) (h : VRs μ l l') : l' = l := by
  induction l generalizing l' with
  | nil => cases h; rfl
  | cons a l ih =>
    simp only [List.all_cons, Bool.and_eq_true] at hf
    cases h with
    | cons h t => rw [ih hf.2 t, flat_eq d _ _ hf.1 h]

theorem bif_some {α : Type} {c : Bool} {x : Option α} {y : α} (h : (bif c then x else none) = some y) : c = true ∧ x = some y := by
  cases c
  · cases h
  · exact ⟨rfl, h⟩

theorem len_all {t ty : TypeId} {x x' v : Value} (hl : hLen P s t x = some v) (hx : VR μ x x') (hk : (∃ e, P.underlying t = some (.slice e)) ∨ (∃ n e, P.underlying t = some (.array n e)) ∨ P.underlying t = some .string) :
    (∀ w, (Builtin.len_ #[t] ty #[x']).run P w = .ok v w) ∧ VR μ v v := by
  unfold hLen at hl
  rcases hk with ⟨e, hu⟩ | ⟨n, e, hu⟩ | hu
  · simp only [hu] at hl
    split at hl
    · rename_i a n c
      simp only [Option.some.injEq] at hl
      subst hl
      refine ⟨fun w => ?_, .int _ _⟩
      cases hx <;> simp [Builtin.len_, run_underlying hu, goInt]
    · rename_i t' kd n
      cases ht : Nat.beq t' 1208925819614629174706178 with
      | false => rw [ht] at hl; simp at hl
      | true =>
        rw [ht] at hl
        simp only [cond_true, Option.some.injEq] at hl
        subst hl
        have := (beq_iff _ _).1 ht
        subst this
        refine ⟨fun w => ?_, .int _ _⟩
        cases hx with
        | iface ht _ => exact absurd ht (by simp [TYM])
        | szv => simp [Builtin.len_, run_underlying hu, goInt]
    · simp only [Option.map_eq_some_iff] at hl
      obtain ⟨es, hes, rfl⟩ := hl
      refine ⟨fun w => ?_, .int _ _⟩
      rw [isFrz_eq hes] at hx
      cases hx with
      | iface ht _ => exact absurd ht (by simp [TYM])
      | frz hx => cases hx <;> simp [Builtin.len_, run_underlying hu, goInt]
  · simp only [hu, Option.some.injEq] at hl
    subst hl
    exact ⟨fun w => by simp [Builtin.len_, run_underlying hu, goInt], .int _ _⟩
  · simp only [hu] at hl
    split at hl
    · simp only [Option.some.injEq] at hl
      subst hl
      refine ⟨fun w => ?_, .int _ _⟩
      cases hx
      simp [Builtin.len_, run_underlying hu, goInt]
    · cases hl

theorem hpure_sound {s' : St} (h : R w0 μ s w) (he : ∀ x v, ev x = some v → VR μ v (ρ x)) {o : Oper} {v : Value} (ho : hpure P s ev o = some (v, s')) :
    s.like s' ∧ (SOK s' → ∃ v', (∀ w, (execOp ρ o).run P w = .ok (.value v') w) ∧ VR μ v v') := by
  unfold hpure at ho
  unfold execOp
  split at ho
  · rename_i x hop
    simp only [Option.map_eq_some_iff, Prod.mk.injEq] at ho
    obtain ⟨v1, hv, rfl, rfl⟩ := ho
    rw [hop]
    exact ⟨s.like_refl, fun _ => ⟨_, fun w => rfl, he _ _ hv⟩⟩
  · rename_i x hop
    simp only [Option.map_eq_some_iff, Prod.mk.injEq] at ho
    obtain ⟨v1, hv, rfl, rfl⟩ := ho
    rw [hop]
    exact ⟨s.like_refl, fun _ => ⟨_, fun w => rfl, he _ _ hv⟩⟩
  · rename_i c a b hop
    rw [hop]
    split at ho
    · rename_i t hc
      have hvc := he _ _ hc
      split at ho
      · rename_i s1 hp
        obtain ⟨k1, k2⟩ := popB_like hp
        simp only [Option.map_eq_some_iff, Prod.mk.injEq] at ho
        obtain ⟨v1, hv, rfl, rfl⟩ := ho
        refine ⟨k1, fun ok => ?_⟩
        have := k2 ok
        subst this
        dsimp only
        generalize ρ c = vc at hvc ⊢
        cases hvc
        exact ⟨_, fun w => rfl, he _ _ hv⟩
      · rename_i s1 hp
        obtain ⟨k1, k2⟩ := popB_like hp
        simp only [Option.map_eq_some_iff, Prod.mk.injEq] at ho
        obtain ⟨v1, hv, rfl, rfl⟩ := ho
        refine ⟨k1, fun ok => ?_⟩
        have := k2 ok
        subst this
        dsimp only
        generalize ρ c = vc at hvc ⊢
        cases hvc
        exact ⟨_, fun w => rfl, he _ _ hv⟩
      · cases ho
    · cases ho
  · rename_i x hop
    rw [hop]
    split at ho
    · rename_i v1 hv
      cases hn : notNil v1 with
      | false => rw [hn] at ho; simp at ho
      | true =>
        rw [hn] at ho
        simp only [cond_true, Option.some.injEq, Prod.mk.injEq] at ho
        obtain ⟨rfl, rfl⟩ := ho
        refine ⟨s.like_refl, fun _ => ?_⟩
        have hvr := he _ _ hv
        refine ⟨ρ x, fun w => ?_, hvr⟩
        dsimp only
        generalize ρ x = vx at hvr ⊢
        unfold notNil at hn
        split at hn
        · cases hvr; rfl
        · rename_i t u
          simp only [Bool.or_eq_true, beq_iff] at hn
          cases hvr with
          | iface _ _ => rfl
          | fptr _ _ _ => rfl
          | frz _ => exfalso; rcases hn with hn | hn
                     · simp at hn
                     · exact absurd (blt_lt hn) (by simp [TYM])
          | szv => exfalso; rcases hn with hn | hn
                   · simp at hn
                   · exact absurd (blt_lt hn) (by simp [TYM])
        · cases hvr; rfl
        · cases hn
    · cases ho
  · rename_i op t x y yt hop
    rw [hop]
    split at ho
    · rename_i vx vy hvx hvy
      obtain ⟨k1, k2⟩ := bin_sound (xo := x) (yo := y) ho (he _ _ hvx) (he _ _ hvy)
      refine ⟨k1, fun ok => ?_⟩
      obtain ⟨v', k3, k4⟩ := k2 ok
      exact ⟨v', fun w => by have := k3 w; simp only [Sem.run_bind] at this ⊢; rw [this]; rfl, k4⟩
    · cases ho
  · rename_i op t x hop
    rw [hop]
    split at ho
    · rename_i vx hvx
      cases hfl : flatN 6 vx with
      | false => rw [hfl] at ho; simp at ho
      | true =>
        rw [hfl] at ho
        simp only [cond_true, Option.map_eq_some_iff, Prod.mk.injEq] at ho
        obtain ⟨v1, hv, rfl, rfl⟩ := ho
        have hfe := flat_eq 6 _ _ hfl (he _ _ hvx)
        exact ⟨s.like_refl, fun _ => ⟨_, fun w => by dsimp only; rw [← hfe]; simp only [Sem.run_bind, (hFlat_sound (μ := μ) hv w).1, Result.andThen_ok, Sem.run_pure], (hFlat_sound hv default).2⟩⟩
    · cases ho
  · rename_i src dst x hop
    rw [hop]
    split at ho
    · rename_i vx hvx
      simp only [Option.map_eq_some_iff, Prod.mk.injEq] at ho
      obtain ⟨v1, hv, rfl, rfl⟩ := ho
      obtain ⟨v', k1, k2⟩ := conv_sound hv (he _ _ hvx)
      exact ⟨s.like_refl, fun _ => ⟨v', fun w => by simp only [Sem.run_bind, k1 w, Result.andThen_ok, Sem.run_pure], k2⟩⟩
    · cases ho
  · rename_i t x hop
    rw [hop]
    split at ho
    · rename_i v1 d hv hd
      cases hi : (isIfaceD d || !(Nat.blt t TYM)) with
      | true => rw [hi] at ho; simp at ho
      | false =>
        rw [hi] at ho
        simp only [cond_false, Option.some.injEq, Prod.mk.injEq] at ho
        obtain ⟨rfl, rfl⟩ := ho
        simp only [Bool.or_eq_false_iff, Bool.not_eq_false'] at hi
        refine ⟨s.like_refl, fun _ => ⟨.iface t (ρ x), fun w => ?_, .iface (blt_lt hi.2) (he _ _ hv)⟩⟩
        have : (Instr.makeInterface t (ρ x)).run P w = .ok (.iface t (ρ x)) w := by
          simp only [Instr.makeInterface, Sem.run_bind, run_underlying hd, Result.andThen_ok]
          have hi := hi.1
          cases d <;> first | (simp [isIfaceD] at hi; done) | rfl
        simp only [Sem.run_bind, this, Result.andThen_ok, Sem.run_pure]
    · cases ho
  · rename_i fn first cap hop
    rw [hop]
    split at ho
    · rename_i f c hf hc
      simp only [Option.some.injEq, Prod.mk.injEq] at ho
      obtain ⟨rfl, rfl⟩ := ho
      have h1 := evs_sound he _ _ hf
      have h2 := evs_sound he _ _ hc
      refine ⟨s.like_refl, fun _ => ⟨.func fn (first.map ρ) (cap.map ρ), fun w => rfl, ?_⟩⟩
      have e1 : first.map ρ = ⟨first.toList.map ρ⟩ := by apply Array.ext'; simp
      have e2 : cap.map ρ = ⟨cap.toList.map ρ⟩ := by apply Array.ext'; simp
      rw [e1, e2]
      exact .func h1 h2
    · cases ho
  · rename_i t x lo hi mx hop
    rw [hop]
    split at ho
    · rename_i vx l hh m hvx hl hh2 hm
      obtain ⟨k1, k2⟩ := slice_sound ho (he _ _ hvx) (evO_sound he hl) (evO_sound he hh2) (evO_sound he hm)
      refine ⟨k1, fun ok => ?_⟩
      obtain ⟨v', k3, k4⟩ := k2 ok
      exact ⟨v', fun w => by simp only [Sem.run_bind, k3 w, Result.andThen_ok, Sem.run_pure], k4⟩
    · cases ho
  · rename_i t x f hop
    rw [hop]
    split at ho
    · rename_i vx hvx
      simp only [Option.map_eq_some_iff, Prod.mk.injEq] at ho
      obtain ⟨v1, hv, rfl, rfl⟩ := ho
      obtain ⟨v', k1, k2⟩ := fieldAddr_sound hv (he _ _ hvx)
      exact ⟨s.like_refl, fun _ => ⟨v', fun w => by simp only [Sem.run_bind, k1 w, Result.andThen_ok, Sem.run_pure], k2⟩⟩
    · cases ho
  · rename_i t x f hop
    rw [hop]
    split at ho
    · rename_i vx hvx
      simp only [Option.map_eq_some_iff, Prod.mk.injEq] at ho
      obtain ⟨v1, hv, rfl, rfl⟩ := ho
      obtain ⟨v', k1, k2⟩ := field_sound hv (he _ _ hvx)
      exact ⟨s.like_refl, fun _ => ⟨v', fun w => by simp only [Sem.run_bind, k1 w, Result.andThen_ok, Sem.run_pure], k2⟩⟩
    · cases ho
  · rename_i t x i hop
    rw [hop]
    split at ho
    · rename_i vx vi hvx hvi
      obtain ⟨k1, k2⟩ := indexAddr_sound ho (he _ _ hvx) (he _ _ hvi)
      refine ⟨k1, fun ok => ?_⟩
      obtain ⟨v', k3, k4⟩ := k2 ok
      exact ⟨v', fun w => by simp only [Sem.run_bind, k3 w, Result.andThen_ok, Sem.run_pure], k4⟩
    · cases ho
  · rename_i t x i hop
    rw [hop]
    split at ho
    · rename_i vx vi hvx hvi
      obtain ⟨k1, k2⟩ := index_sound ho (he _ _ hvx) (he _ _ hvi)
      refine ⟨k1, fun ok => ?_⟩
      obtain ⟨v', k3, k4⟩ := k2 ok
      exact ⟨v', fun w => by simp only [Sem.run_bind, k3 w, Result.andThen_ok, Sem.run_pure], k4⟩
    · cases ho
  · rename_i t k hop
    rw [hop]
    split at ho
    · rename_i vs hvs
      simp only [Option.map_eq_some_iff, Prod.mk.injEq] at ho
      obtain ⟨v1, hv, rfl, rfl⟩ := ho
      have := he _ _ hvs
      refine ⟨s.like_refl, fun _ => ?_⟩
      dsimp only
      generalize ρ t = vt at this ⊢
      cases this with
      | tuple hl =>
        obtain ⟨v', k1, k2⟩ := hl.get k _ hv
        refine ⟨v', fun w => ?_, k2⟩
        simp [Instr.extract, k1]
    · cases ho
  · rename_i c hop
    rw [hop]
    split at ho
    · rename_i t x hc ht ha
      have har := evs_sound he _ _ ha
      have e1 : c.args.map ρ = ⟨c.args.toList.map ρ⟩ := by apply Array.ext'; simp
      generalize hl : c.args.toList.map ρ = l' at har e1
      obtain ⟨ts, hts⟩ : ∃ ts, c.argTypes = ⟨ts⟩ := ⟨c.argTypes.toList, rfl⟩
      rw [hts] at ht
      simp only at ht
      subst ht
      cases har with
      | cons h1 h2 =>
        cases h2
        rename_i x'
        have hrun : ∀ (v : Value) w, (Builtin.len_ #[t] o.type #[x']).run P w = .ok v w → (do let d ← resolve ρ c o.type; invoke d.target d.args : Sem Next).run P w = .ok (.value v) w := by
          intro v w k
          simp only [resolve, hc, Sem.run_bind, Sem.run_pure, Result.andThen_ok, invoke, e1, hts]
          simp [builtin, k]
        have fin : ∀ v, hLen P s t x = some v → (∀ w, (Builtin.len_ #[t] o.type #[x']).run P w = .ok v w) ∧ VR μ v v → s.like s ∧ (SOK s → ∃ v', (∀ w, (do let d ← resolve ρ c o.type; invoke d.target d.args : Sem Next).run P w = .ok (.value v') w) ∧ VR μ v v') :=
          fun v _ k => ⟨s.like_refl, fun _ => ⟨v, fun w => hrun v w (k.1 w), k.2⟩⟩
        split at ho
        · rename_i e hu
          simp only [Option.map_eq_some_iff, Prod.mk.injEq] at ho
          obtain ⟨v1, hv, rfl, rfl⟩ := ho
          exact fin _ hv (len_all hv h1 (.inl ⟨e, hu⟩))
        · rename_i n e hu
          simp only [Option.map_eq_some_iff, Prod.mk.injEq] at ho
          obtain ⟨v1, hv, rfl, rfl⟩ := ho
          exact fin _ hv (len_all hv h1 (.inr (.inl ⟨n, e, hu⟩)))
        · rename_i hu
          simp only [Option.map_eq_some_iff, Prod.mk.injEq] at ho
          obtain ⟨v1, hv, rfl, rfl⟩ := ho
          exact fin _ hv (len_all hv h1 (.inr (.inr hu)))
        · cases ho
    · cases ho
  · cases ho

theorem builtin_sound (h : R w0 μ s w) {b : Builtin} {ts : Array TypeId} {ty : TypeId} {args args' : List Value} {cs : Array Bool} {v : Value} {s' : St} (hb : hBuiltin P s b ts.toList ty args = some (v, s')) (ha : VRs μ args args') :
    s.sub s' ∧ (SOK s' → ∃ v' w' μ', (builtin b ts ty cs ⟨args'⟩).run P w = .ok (.value v') w' ∧ μ.le μ' ∧ R w0 μ' s' w' ∧ VR μ' v v') := by
  unfold hBuiltin at hb
  obtain ⟨ts⟩ := ts
  split at hb
  · rename_i t x hts
    simp only at hts
    subst hts
    simp only [Option.map_eq_some_iff, Prod.mk.injEq] at hb
    obtain ⟨u, hu, rfl, rfl⟩ := hb
    cases ha with
    | cons h1 h2 =>
      cases h2
      obtain ⟨k1, k2⟩ := len_sound (ty := ty) h hu h1
      exact ⟨s.sub_refl, fun _ => ⟨_, w, μ, by simp [builtin, k1], Mu.le_refl _, h, k2⟩⟩
  · rename_i t u x y hts
    simp only at hts
    subst hts
    cases htu : Nat.beq t u with
    | false => rw [htu] at hb; simp at hb
    | true =>
      rw [htu] at hb
      simp only [cond_true] at hb
      have htu := (beq_iff _ _).1 htu
      subst htu
      cases ha with
      | cons h1 h2 =>
        cases h2 with
        | cons h2 h3 =>
          cases h3
          obtain ⟨q1, q2⟩ := append_sound (ty := ty) h hb h1 h2
          refine ⟨q1, fun ok => ?_⟩
          obtain ⟨v', w', μ', k1, k2, k3, k4⟩ := q2 ok
          refine ⟨v', w', μ', ?_, k2, k3, k4⟩
          simp [builtin, k1]
  · obtain ⟨hfl, hb⟩ := bif_some hb
    simp only [Option.map_eq_some_iff, Prod.mk.injEq] at hb
    obtain ⟨u, hu, rfl, rfl⟩ := hb
    obtain rfl := flats_eq hfl ha
    obtain ⟨k1, k2⟩ := hFlat_sound (μ := μ) hu w
    refine ⟨s.sub_refl, fun _ => ⟨_, w, μ, ?_, Mu.le_refl _, h, k2⟩⟩
    simp only [builtin, Sem.run_bind]
    rw [k1]
    rfl
  · obtain ⟨hfl, hb⟩ := bif_some hb
    simp only [Option.map_eq_some_iff, Prod.mk.injEq] at hb
    obtain ⟨u, hu, rfl, rfl⟩ := hb
    obtain rfl := flats_eq hfl ha
    obtain ⟨k1, k2⟩ := hFlat_sound (μ := μ) hu w
    refine ⟨s.sub_refl, fun _ => ⟨_, w, μ, ?_, Mu.le_refl _, h, k2⟩⟩
    simp only [builtin, Sem.run_bind]
    rw [k1]
    rfl
  · cases hb

theorem hop_sound (hg : NoG P) (h : R w0 μ s w) (he : ∀ x v, ev x = some v → VR μ v (ρ x)) {o : Oper} {r : HN × St} (ho : hop P s ev o = some r) :
    s.sub r.2 ∧ (SOK r.2 → Sim w0 μ w ((execOp ρ o).run P w) r) := by
  unfold hop at ho
  split at ho
  · rename_i v s1 hp
    cases ho
    obtain ⟨k1, k2⟩ := hpure_sound h he hp
    refine ⟨k1.sub, fun ok => ?_⟩
    obtain ⟨v', k3, k4⟩ := k2 ok
    exact ⟨v', w, μ, k3 w, Mu.le_refl _, h.like k1, k4⟩
  · unfold execOp
    split at ho
    · rename_i e hop
      rw [hop]
      simp only [Option.map_eq_some_iff] at ho
      obtain ⟨⟨v, s'⟩, hv, rfl⟩ := ho
      obtain ⟨v', w', μ', k1, k2, k3, k4⟩ := alloc_sound h hv (.tuple #[])
      exact ⟨hAlloc_sub hv, fun _ => ⟨v', w', μ', by simp only [Sem.run_bind, k1, Result.andThen_ok, Sem.run_pure], k2, k3, k4⟩⟩
    · rename_i e x hop
      rw [hop]
      split at ho
      · rename_i vx hx
        simp only [Option.map_eq_some_iff] at ho
        obtain ⟨⟨v, s'⟩, hv, rfl⟩ := ho
        obtain ⟨v', w', μ', k1, k2, k3, k4⟩ := box_sound (P := P) h hv (he _ _ hx)
        exact ⟨hBox_sub hv, fun _ => ⟨v', w', μ', by simp only [Sem.run_bind, k1, Result.andThen_ok, Sem.run_pure], k2, k3, k4⟩⟩
      · cases ho
    · rename_i t ps hop
      rw [hop]
      split at ho
      · rename_i l hl
        simp only [Option.map_eq_some_iff] at ho
        obtain ⟨v, hv, rfl⟩ := ho
        obtain ⟨p1, p2⟩ := parts_vr he _ _ hl
        obtain ⟨v', k1, k2⟩ := build_sound hv p1 p2 w
        refine ⟨s.sub_refl, fun _ => ⟨v', w, μ, ?_, Mu.le_refl _, h, k2⟩⟩
        have e1 : (List.map (fun x => (x.1, ρ x.2)) ps.toList).toArray = ps.map fun x => (x.1, ρ x.2) := by apply Array.ext'; simp
        simp only [e1] at k1
        simp only [Sem.run_bind, k1, Result.andThen_ok, Sem.run_pure]
      · cases ho
    · rename_i t n ps hop
      rw [hop]
      split at ho
      · rename_i l hl
        simp only [Option.map_eq_some_iff] at ho
        obtain ⟨⟨v, s'⟩, hv, rfl⟩ := ho
        obtain ⟨p1, p2⟩ := parts_vr he _ _ hl
        obtain ⟨v', w', μ', k1, k2, k3, k4⟩ := buildSlice_sound h hv p1 p2
        refine ⟨hBuildSlice_sub hv, fun _ => ⟨v', w', μ', ?_, k2, k3, k4⟩⟩
        have e1 : (List.map (fun x => (x.1, ρ x.2)) ps.toList).toArray = ps.map fun x => (x.1, ρ x.2) := by apply Array.ext'; simp
        simp only [e1] at k1
        simp only [Sem.run_bind, k1, Result.andThen_ok, Sem.run_pure]
      · cases ho
    · rename_i t a hop
      rw [hop]
      split at ho
      · rename_i va hva
        simp only [Option.map_eq_some_iff] at ho
        obtain ⟨⟨v, s'⟩, hv, rfl⟩ := ho
        obtain ⟨q1, q2⟩ := load_sound h hv (he _ _ hva)
        refine ⟨q1.sub, fun ok => ?_⟩
        obtain ⟨v', k1, k2⟩ := q2 ok
        exact ⟨v', w, μ, by simp only [Sem.run_bind, k1, Result.andThen_ok, Sem.run_pure], Mu.le_refl _, h.like q1, k2⟩
      · cases ho
    · rename_i t a x hop
      rw [hop]
      split at ho
      · rename_i va vx hva hvx
        simp only [Option.map_eq_some_iff] at ho
        obtain ⟨s', hv, rfl⟩ := ho
        obtain ⟨q1, q2⟩ := store_sound h hv (he _ _ hva) (he _ _ hvx)
        refine ⟨q1, fun ok => ?_⟩
        obtain ⟨w', k1, k2⟩ := q2 ok
        exact ⟨w', μ, by simp only [Sem.run_bind, k1, Result.andThen_ok, Sem.run_pure], Mu.le_refl _, k2⟩
      · cases ho
    · rename_i t l c hop
      rw [hop]
      split at ho
      · rename_i vl vc hvl hvc
        simp only [Option.map_eq_some_iff] at ho
        obtain ⟨⟨v, s'⟩, hv, rfl⟩ := ho
        obtain ⟨q1, q2⟩ := makeSlice_sound h hv (he _ _ hvl) (he _ _ hvc)
        refine ⟨q1, fun ok => ?_⟩
        obtain ⟨v', w', μ', k1, k2, k3, k4⟩ := q2 ok
        exact ⟨v', w', μ', by simp only [Sem.run_bind, k1, Result.andThen_ok, Sem.run_pure], k2, k3, k4⟩
      · cases ho
    · rename_i t r hop
      rw [hop]
      split at ho
      · simp only [Option.map_eq_some_iff] at ho
        obtain ⟨⟨v, s'⟩, hv, rfl⟩ := ho
        obtain ⟨q1, v', w', μ', k1, k2, k3, k4⟩ := makeMap_sound (P := P) (t := t) h hv
        exact ⟨q1, fun _ => ⟨v', w', μ', by simp only [Option.map_none, Sem.run_bind, k1, Result.andThen_ok, Sem.run_pure], k2, k3, k4⟩⟩
      · cases ho
    · rename_i t x i ok hop
      rw [hop]
      split at ho
      · rename_i vx vi hvx hvi
        simp only [Option.map_eq_some_iff] at ho
        obtain ⟨⟨v, s'⟩, hv, rfl⟩ := ho
        obtain ⟨q1, q2⟩ := lookup_sound h hv (he _ _ hvx) (he _ _ hvi)
        refine ⟨q1.sub, fun ok => ?_⟩
        obtain ⟨v', k1, k2⟩ := q2 ok
        exact ⟨v', w, μ, by simp only [Sem.run_bind, k1, Result.andThen_ok, Sem.run_pure], Mu.le_refl _, h.like q1, k2⟩
      · cases ho
    · rename_i t m k x hop
      rw [hop]
      split at ho
      · rename_i vm vk vx hvm hvk hvx
        simp only [Option.map_eq_some_iff] at ho
        obtain ⟨s', hv, rfl⟩ := ho
        obtain ⟨q1, q2⟩ := mapUpdate_sound h hv (he _ _ hvm) (he _ _ hvk) (he _ _ hvx)
        refine ⟨q1, fun ok => ?_⟩
        obtain ⟨w', μ', k1, k2, k3⟩ := q2 ok
        exact ⟨w', μ', by simp only [Sem.run_bind, k1, Result.andThen_ok, Sem.run_pure], k2, k3⟩
      · cases ho
    · rename_i c hop
      rw [hop]
      split at ho
      · rename_i f args hc ha
        split at ho
        · rename_i vf hvf
          simp only [Option.map_eq_some_iff] at ho
          obtain ⟨⟨g, l⟩, hgl, rfl⟩ := ho
          have hvr := he _ _ hvf
          have har := evs_sound he _ _ ha
          unfold hCallee at hgl
          split at hgl
          · rename_i g0 first cap
            cases hb : hasBody P g0 with
            | false => rw [hb] at hgl; simp at hgl
            | true =>
              rw [hb] at hgl
              simp only [cond_true, Option.some.injEq, Prod.mk.injEq] at hgl
              obtain ⟨rfl, rfl⟩ := hgl
              generalize hρ : ρ f = vf' at hvr
              cases hvr with
              | func h1 h2 =>
                rename_i fl fl' cl cl'
                refine ⟨s.sub_refl, fun _ => ⟨fl' ++ c.args.toList.map ρ ++ cl', ?_, h, (h1.append har).append h2⟩⟩
                simp only [resolve, hc, hρ, Deferred.ofValue, Sem.run_bind, Sem.run_pure, Result.andThen_ok, invoke, run_callFunc hg hb]
                congr 2
                apply Array.ext'
                simp
          · cases hgl
        · cases ho
      · rename_i r name args hc ha
        split at ho
        · rename_i vr hvr
          split at ho
          · rename_i g x hm
            obtain ⟨hb, ho⟩ := bif_some ho
            cases ho
            have har := evs_sound he _ _ ha
            obtain ⟨x', k1, k2⟩ := method_sound (μ := μ) hm (he _ _ hvr)
            refine ⟨s.sub_refl, fun _ => ⟨x' :: c.args.toList.map ρ, ?_, h, .cons k1 har⟩⟩
            have e1 : (#[ρ r] ++ c.args.map ρ)[0]? = some (ρ r) := by rw [Array.getElem?_append_left (by simp)]; rfl
            have e2 : (#[ρ r] ++ c.args.map ρ).extract 1 (#[ρ r] ++ c.args.map ρ).size = c.args.map ρ := by
              apply Array.ext'
              simp
              exact List.take_of_length_le (by simp)
            simp only [resolve, hc, Sem.run_bind, Sem.run_pure, Result.andThen_ok, invoke, e1, e2, k2, run_callFunc hg hb]
            congr 2
            apply Array.ext'
            simp
          · cases ho
        · cases ho
      · rename_i b args hc ha
        simp only [Option.map_eq_some_iff] at ho
        obtain ⟨⟨v, s'⟩, hv, rfl⟩ := ho
        have har := evs_sound he _ _ ha
        obtain ⟨q1, q2⟩ := builtin_sound (cs := c.args.map fun | .const _ => true | _ => false) h hv har
        refine ⟨q1, fun ok => ?_⟩
        obtain ⟨v', w', μ', k1, k2, k3, k4⟩ := q2 ok
        refine ⟨v', w', μ', ?_, k2, k3, k4⟩
        simp only [resolve, hc, Sem.run_bind, Sem.run_pure, Result.andThen_ok, invoke]
        have e1 : c.args.map ρ = ⟨c.args.toList.map ρ⟩ := by apply Array.ext'; simp
        rw [e1]
        exact k1
      · cases ho
    · rename_i c hop
      rw [hop]
      split at ho
      · rename_i f args hc ha
        split at ho
        · rename_i fn first cap hvf
          simp only [Option.some.injEq] at ho
          subst ho
          have hvr := he _ _ hvf
          have har := evs_sound he _ _ ha
          generalize hρ : ρ f = vf' at hvr
          cases hvr with
          | func h1 h2 =>
            rename_i fl fl' cl cl'
            refine ⟨s.sub_refl, fun _ => ⟨cl', fl' ++ c.args.toList.map ρ, ?_, h, h2, h1.append har⟩⟩
            simp only [resolve, hc, hρ, Deferred.ofValue, Sem.run_bind, Sem.run_pure, Result.andThen_ok]
            congr 3
            apply Array.ext'
            simp
        · cases ho
      · cases ho
    · cases ho

end
end Go.Hx

namespace Go.Hx
open Go Go.RowKit

section
variable {s s' : St} {P : Program}

theorem map_like {α β : Type} {x : Option α} {g : α → β × St} {v : β} (h : x.map g = some (v, s')) (k : ∀ a, x = some a → s.like (g a).2) : s.like s' := by
  simp only [Option.map_eq_some_iff] at h
  obtain ⟨a, h1, h2⟩ := h
  have := k a h1
  rw [h2] at this
  exact this
theorem map_sub {α β : Type} {x : Option α} {g : α → β × St} {v : β} (h : x.map g = some (v, s')) (k : ∀ a, x = some a → s.sub (g a).2) : s.sub s' := by
  simp only [Option.map_eq_some_iff] at h
  obtain ⟨a, h1, h2⟩ := h
  have := k a h1
  rw [h2] at this
  exact this
theorem map_same {α β : Type} {x : Option α} {g : α → β} {v : β} (h : (x.map fun a => (g a, s)) = some (v, s')) : s.like s' := map_like h fun _ _ => s.like_refl

theorem hBin0_like {op : BinOp} {t : TypeId} {xo yo : Operand} {x y v : Value} (h : hBin0 P op t xo yo x y s = some (v, s')) : s.like s' := by
  unfold hBin0 at h
  cases hd : isDiv op with
  | false => rw [hd] at h; exact map_same h
  | true =>
    rw [hd] at h
    simp only [cond_true] at h
    unfold hDiv at h
    split at h
    · split at h
      · exact map_like h fun a ha => (need_like ha).1
      · cases h
    · split at h
      · exact map_like h fun a ha => (need_like ha).1
      · cases h
    · cases h
theorem hBin_like {op : BinOp} {t : TypeId} {xo yo : Operand} {x y v : Value} (h : hBin P op t xo yo x y s = some (v, s')) : s.like s' := by
  unfold hBin at h
  split at h
  · split at h
    · simp only [Option.map_eq_some_iff, Prod.mk.injEq] at h
      obtain ⟨s1, h1, _, rfl⟩ := h
      exact (need_like h1).1
    · cases h
  · exact hBin0_like h

theorem hIndex_like {t : TypeId} {x i v : Value} (h : hIndex P t x i s = some (v, s')) : s.like s' := by
  unfold hIndex at h
  split at h
  · split at h
    · cases ho : s.opn with
      | true =>
        rw [ho] at h
        simp only [cond_true] at h
        split at h
        · rename_i hp; exact map_like h fun a ha => (popO_like hp).trans (needP_like ha).1
        · cases h
      | false =>
        rw [ho] at h
        simp only [cond_false] at h
        obtain ⟨_, h⟩ := bif_some h
        exact map_same h
    · cases h
  · obtain ⟨_, h⟩ := bif_some h
    exact map_same h

theorem hIndexAddr_like {t : TypeId} {x i v : Value} (h : hIndexAddr P t x i s = some (v, s')) : s.like s' := by
  unfold hIndexAddr at h
  split at h
  · split at h
    · split at h
      · exact map_like h fun a ha => (need_like ha).1
      · split at h
        · split at h
          · rename_i hp
            obtain ⟨_, h⟩ := bif_some h
            exact map_like h fun a ha => (popO_like hp).trans (needP_like ha).1
          · cases h
        · cases h
    · cases h
  · split at h
    · split at h
      · exact map_like h fun a ha => (need_like ha).1
      · split at h
        · obtain ⟨_, h⟩ := bif_some h
          cases h; exact s.like_refl
        · cases h
    · cases h
  · cases h

theorem hSlice_like {t : TypeId} {x v : Value} {lo hi mx : Option Value} (h : hSlice P t x lo hi mx s = some (v, s')) : s.like s' := by
  unfold hSlice at h
  split at h
  · split at h
    · cases h
    · split at h
      · obtain ⟨_, h⟩ := bif_some h
        split at h
        · exact map_like h fun a ha => (need_like ha).1
        · cases h
      · rename_i i o n c
        cases hck : Nat.blt c UNK with
        | true =>
          rw [hck] at h
          simp only [cond_true] at h
          split at h
          · exact map_like h fun a ha => (need_like ha).1
          · cases h
        | false =>
          rw [hck] at h
          simp only [cond_false] at h
          obtain ⟨_, h⟩ := bif_some h
          split at h
          · exact map_like h fun a ha => (need_like ha).1
          · exact map_like h fun a ha => (need_like ha).1
          · cases h
      · split at h
        · split at h
          · exact map_like h fun a ha => (needP_like ha).1
          · cases h
        · cases h
  · split at h
    · split at h
      · obtain ⟨_, h⟩ := bif_some h
        exact map_like h fun a ha => (need_like ha).1
      · cases h
    · cases h
  · split at h
    · exact map_same h
    · cases h
  · cases h

theorem rd_like {i o n : Nat} {l : List Value} (h : rd s i o n = some (l, s')) : s.like s' := by
  unfold rd at h
  split at h
  · exact (rdX_spec h).1
  · exact (rdX_spec h).1
  · exact (rdX_spec h).1
  · cases h

theorem hLoadR_like {t : TypeId} {r : Nat → Option (List Value × St)} {v : Value} (hq : ∀ n l s', r n = some (l, s') → s.like s') (h : hLoadR P t r = some (v, s')) : s.like s' := by
  unfold hLoadR at h
  split at h
  · cases h
  · rename_i d _
    cases hd : isAggD d with
    | true =>
      rw [hd] at h
      simp only [cond_true] at h
      split at h
      · exact map_like h fun a ha => hq _ _ _ ha
      · cases h
    | false =>
      rw [hd] at h
      simp only [cond_false] at h
      split at h
      · rename_i hx; cases h; exact hq _ _ _ hx
      · cases h

theorem hLoad_like {t : TypeId} {x v : Value} (h : hLoad P s t x = some (v, s')) : s.like s' := by
  unfold hLoad at h
  split at h
  · exact hLoadR_like (fun n l s' hr => rd_like hr) h
  · split at h
    · exact hLoadR_like (fun n l s' hr => (rdX_spec (op := false) hr).1) h
    · cases h

theorem hStore_sub {t : TypeId} {x v : Value} (h : hStore P s t x v = some s') : s.sub s' := by
  unfold hStore at h
  split at h
  · split at h
    · cases h
    · obtain ⟨_, h⟩ := bif_some h
      split at h
      · obtain ⟨_, h⟩ := bif_some h
        split at h
        · rename_i hf
          simp only [Option.map_eq_some_iff] at h
          obtain ⟨t, _, rfl⟩ := h
          exact (fitB_like hf).1.sub
        · cases h
      · cases h
  · cases h

theorem hMakeSlice_sub {t : TypeId} {l c v : Value} (h : hMakeSlice P s t l c = some (v, s')) : s.sub s' := by
  unfold hMakeSlice at h
  split at h
  · split at h
    · obtain ⟨_, h⟩ := bif_some h
      split at h
      · rename_i hn
        have q1 := (need_like hn).1.sub
        split at h
        · rename_i hp
          have q2 := (popT_like hp).sub
          obtain ⟨_, h⟩ := bif_some h
          refine St.sub_trans q1 (St.sub_trans q2 (map_sub h fun a ha => ?_))
          unfold hNewO at ha
          simp only [Option.map_eq_some_iff] at ha
          obtain ⟨t, _, rfl⟩ := ha
          exact ⟨[], rfl⟩
        · rename_i hp
          have q2 := (popT_like hp).sub
          exact St.sub_trans q1 (St.sub_trans q2 (map_sub h fun a ha => new_sub ha))
        · cases h
      · cases h
    · cases h
  · cases h

theorem srcA_like {z : Nat} {y : Value} {op : Bool} {news : List Value} (h : srcA s z y = some (op, news, s')) : s.like s' := by
  have c1 : ∀ {c : List Value} {o n : Nat}, ((rdC c o n s).map fun r => (false, r.1, r.2)) = some (op, news, s') → s.like s' := fun h => by
    simp only [Option.map_eq_some_iff, Prod.mk.injEq] at h
    obtain ⟨⟨l, s1⟩, h1, _, _, rfl⟩ := h
    exact (rdX_spec (op := false) h1).1
  have c2 : ∀ {p : Prop} {l : List Value}, ((needP p s).map fun s' => (true, l, s')) = some (op, news, s') → s.like s' := fun h => by
    simp only [Option.map_eq_some_iff, Prod.mk.injEq] at h
    obtain ⟨s1, h1, _, _, rfl⟩ := h
    exact (needP_like h1).1
  unfold srcA at h
  split at h
  · split at h
    · exact c1 h
    · exact c1 h
    · exact c1 h
    · exact c2 h
    · exact c2 h
    · cases h
  · split at h
    · exact c2 h
    · cases h

theorem hAppend_sub {t : TypeId} {x y v : Value} (h : hAppend P s t x y = some (v, s')) : s.sub s' := by
  unfold hAppend at h
  split at h
  · split at h
    · split at h
      · rename_i hp
        have q1 := (popB_like hp).1.sub
        split at h
        · rename_i n c
          cases hck : Nat.blt c UNK with
          | true => rw [hck] at h; simp only [cond_true] at h; obtain ⟨_, h⟩ := bif_some h; cases h; exact q1
          | false => rw [hck] at h; simp only [cond_false] at h; cases h; exact q1
        · cases h
      · rename_i hp
        have q1 := (popB_like hp).1.sub
        split at h
        · cases h
        · rename_i hs
          have q2 := (srcA_like hs).sub
          split at h
          · split at h
            · rename_i hn
              have q3 := (need_like hn).1.sub
              obtain ⟨_, h⟩ := bif_some h
              exact St.sub_trans q1 (St.sub_trans q2 (St.sub_trans q3 (hGrow_sub h)))
            · cases h
          · cases h
      · cases h
    · cases h
  · cases h

theorem hLookup_like {t : TypeId} {x k v : Value} {ok : Bool} (h : hLookup P s t x k ok = some (v, s')) : s.like s' := by
  have zr : ∀ {s1 : St} {elem : TypeId}, s.like s1 → zeroR P elem ok s1 = some (v, s') → s.like s' := fun q h => by rw [zeroR_same h]; exact q
  have cl : ∀ {kk : IntKind} {n : Int} {es : List MapEntry} {elem : TypeId}, (match lookE kk n es 0 s with
      | some (some (_, v), s') => some (valR v ok, s')
      | some (none, s') => zeroR P elem ok s'
      | none => none) = some (v, s') → s.like s' := fun h => by
    split at h
    · rename_i hl; cases h; exact lookE_like _ _ _ _ _ hl
    · rename_i hl; exact zr (lookE_like _ _ _ _ _ hl) h
    · cases h
  unfold hLookup at h
  split at h
  · split at h
    · split at h
      · exact zr s.like_refl h
      · dsimp only at h
        split at h
        · exact cl h
        · split at h
          · obtain ⟨_, h⟩ := bif_some h
            split at h
            · rename_i hp
              have q1 := (popB_like hp).1
              split at h
              · rename_i ho; exact map_like h fun a ha => q1.trans ((popO_like ho).trans (needP_like ha).1)
              · cases h
            · rename_i hp; exact zr (popB_like hp).1 h
            · cases h
          · obtain ⟨_, h⟩ := bif_some h
            split at h
            · rename_i hp
              have q1 := (popB_like hp).1
              split at h
              · rename_i ho; exact map_like h fun a ha => q1.trans ((popO_like ho).trans (needP_like ha).1)
              · cases h
            · rename_i hp; exact zr (popB_like hp).1 h
            · cases h
          · obtain ⟨_, h⟩ := bif_some h
            exact map_like h fun a ha => (needP_like ha).1
          · cases h
      · cases h
    · cases h
  · cases h

theorem hMapUpdate_sub {t : TypeId} {m k v : Value} (h : hMapUpdate P s t m k v = some s') : s.sub s' := by
  unfold hMapUpdate at h
  split at h
  · split at h
    · split at h
      · split at h
        · rename_i hl
          simp only [Option.map_eq_some_iff] at h
          obtain ⟨t, _, rfl⟩ := h
          exact (lookE_like _ _ _ _ _ hl).sub
        · rename_i hl
          split at h
          · simp only [Option.map_eq_some_iff] at h
            obtain ⟨t, _, rfl⟩ := h
            exact (lookE_like _ _ _ _ _ hl).sub
          · cases h
        · cases h
      · obtain ⟨_, h⟩ := bif_some h
        simp only [Option.map_eq_some_iff] at h
        obtain ⟨t, _, rfl⟩ := h
        exact ⟨[], rfl⟩
      · obtain ⟨_, h⟩ := bif_some h
        split at h
        · rename_i ht
          simp only [Option.map_eq_some_iff] at h
          obtain ⟨t, _, rfl⟩ := h
          exact (takeIn_like ht).sub
        · rename_i ht
          split at h
          · simp only [Option.map_eq_some_iff] at h
            obtain ⟨t, _, rfl⟩ := h
            exact (takeIn_like ht).sub
          · cases h
        · cases h
      · cases h
    · cases h
  · cases h

theorem hpure_like {ev : Operand → Option Value} {o : Oper} {v : Value} (h : hpure P s ev o = some (v, s')) : s.like s' := by
  unfold hpure at h
  split at h
  · exact map_same h
  · exact map_same h
  · split at h
    · split at h
      · rename_i hp; exact map_like h fun a ha => (popB_like hp).1
      · rename_i hp; exact map_like h fun a ha => (popB_like hp).1
      · cases h
    · cases h
  · split at h
    · obtain ⟨_, h⟩ := bif_some h; cases h; exact s.like_refl
    · cases h
  · split at h
    · exact hBin_like h
    · cases h
  · split at h
    · obtain ⟨_, h⟩ := bif_some h; exact map_same h
    · cases h
  · split at h
    · exact map_same h
    · cases h
  · split at h
    · rename_i v1 d _ _
      cases hi : (isIfaceD d || !(Nat.blt _ TYM)) with
      | true => rw [hi] at h; simp at h
      | false => rw [hi] at h; simp only [cond_false, Option.some.injEq, Prod.mk.injEq] at h; rw [← h.2]; exact s.like_refl
    · cases h
  · split at h
    · cases h; exact s.like_refl
    · cases h
  · split at h
    · exact hSlice_like h
    · cases h
  · split at h
    · exact map_same h
    · cases h
  · split at h
    · exact map_same h
    · cases h
  · split at h
    · exact hIndexAddr_like h
    · cases h
  · split at h
    · exact hIndex_like h
    · cases h
  · split at h
    · exact map_same h
    · cases h
  · split at h
    · split at h
      · exact map_same h
      · exact map_same h
      · exact map_same h
      · cases h
    · cases h
  · cases h

theorem hBuiltin_sub {b : Builtin} {ts : List TypeId} {ty : TypeId} {args : List Value} {v : Value} (h : hBuiltin P s b ts ty args = some (v, s')) : s.sub s' := by
  unfold hBuiltin at h
  split at h
  · exact (map_same h).sub
  · obtain ⟨_, h⟩ := bif_some h; exact hAppend_sub h
  · obtain ⟨_, h⟩ := bif_some h; exact (map_same h).sub
  · obtain ⟨_, h⟩ := bif_some h; exact (map_same h).sub
  · cases h

theorem hop_sub {ev : Operand → Option Value} {o : Oper} {r : HN} (h : hop P s ev o = some (r, s')) : s.sub s' := by
  unfold hop at h
  split at h
  · rename_i hp; cases h; exact (hpure_like hp).sub
  · split at h
    · exact map_sub h fun a ha => hAlloc_sub ha
    · split at h
      · exact map_sub h fun a ha => hBox_sub ha
      · cases h
    · split at h
      · exact (map_same h).sub
      · cases h
    · split at h
      · exact map_sub h fun a ha => hBuildSlice_sub ha
      · cases h
    · split at h
      · exact map_sub h fun a ha => (hLoad_like ha).sub
      · cases h
    · split at h
      · exact map_sub h fun a ha => hStore_sub ha
      · cases h
    · split at h
      · exact map_sub h fun a ha => hMakeSlice_sub ha
      · cases h
    · split at h
      · refine map_sub h fun a ha => ?_
        unfold hMakeMap at ha
        simp only [Option.map_eq_some_iff] at ha
        obtain ⟨t, _, rfl⟩ := ha
        exact ⟨[], rfl⟩
      · cases h
    · split at h
      · exact map_sub h fun a ha => (hLookup_like ha).sub
      · cases h
    · split at h
      · exact map_sub h fun a ha => hMapUpdate_sub ha
      · cases h
    · split at h
      · split at h
        · exact (map_same h).sub
        · cases h
      · split at h
        · split at h
          · obtain ⟨_, h⟩ := bif_some h; cases h; exact s.sub_refl
          · cases h
        · cases h
      · exact map_sub h fun a ha => hBuiltin_sub ha
      · cases h
    · split at h
      · split at h
        · cases h; exact s.sub_refl
        · cases h
      · cases h
    · cases h
end
end Go.Hx

namespace Go.Hx
open Go Go.RowKit

/-- The number behind a pointer or a map; none: frozen memory. -/
def idOf : Value → Option Nat
  | .pointer (some a) => some a.block
  | .map (some i) => some i
  | _ => none

/-- A quiet operation's value, and whose block it reads (none: nobody's; some none: a frozen one). -/
def hstill (P : Program) (s : St) (ev : Operand → Option Value) (o : Oper) : Option (Value × Option (Option Nat) × St) :=
  match hpure P s ev o with
  | some (v, s') => some (v, none, s')
  | none => match o.op with
    | .load t a => match ev a with
      | some v => (hLoad P s t v).map fun r => (r.1, some (idOf v), r.2)
      | none => none
    | .lookup t x i ok => match ev x, ev i with
      | some (.map none), some vi => (hLookup P s t (.map none) vi ok).map fun r => (r.1, none, r.2)
      | some (.map (some j)), some vi => (hLookup P s t (.map (some j)) vi ok).map fun r => (r.1, some (some j), r.2)
      | _, _ => none
    | _ => none

section
variable {w0 : Base} {μ : Mu} {s : St} {w : World} {P : Program} {ev : Operand → Option Value} {ρ : Operand → Value}

/-- The block that is read: nobody's, an object's, a frozen one. -/
def BlkOK (μ : Mu) (w w' : World) : Option (Option Nat) → Nat → Prop
  | none, _ => True
  | some none, b => (∃ O, μ.fz b = some O) ∧ w'.heap[b]? = w.heap[b]?
  | some (some i), b => (∃ p, μ i = some p ∧ p.blk = b) ∧ w'.heap[b]? = w.heap[b]?

theorem hLoad_ptr {t : TypeId} {v r : Value} {s' : St} (h : hLoad P s t v = some (r, s')) : (∃ i o, v = .pointer (some ⟨i, o, none⟩)) ∨ ∃ cs, v = fptr cs := by
  unfold hLoad at h
  split at h
  · exact .inl ⟨_, _, rfl⟩
  · split at h
    · rename_i cs hcs; exact .inr ⟨cs, isFptr_eq hcs⟩
    · cases h

theorem hstill_sound (h : R w0 μ s w) (he : ∀ x v, ev x = some v → VR μ v (ρ x)) {o : Oper} {v : Value} {z : Option (Option Nat)} {s' : St} (ho : hstill P s ev o = some (v, z, s')) :
    s.like s' ∧ (SOK s' → ∃ v' b, (∀ w', BlkOK μ w w' z b → (execOp ρ o).run P w' = .ok (.value v') w') ∧ VR μ v v' ∧ BlkOK μ w w z b) := by
  unfold hstill at ho
  split at ho
  · rename_i v1 s1 hp
    simp only [Option.some.injEq, Prod.mk.injEq] at ho
    obtain ⟨rfl, rfl, rfl⟩ := ho
    obtain ⟨k1, k2⟩ := hpure_sound h he hp
    refine ⟨k1, fun ok => ?_⟩
    obtain ⟨v', k3, k4⟩ := k2 ok
    exact ⟨v', 0, fun w' _ => k3 w', k4, trivial⟩
  · split at ho
    · rename_i t a hop
      split at ho
      · rename_i va hva
        simp only [Option.map_eq_some_iff, Prod.mk.injEq] at ho
        obtain ⟨⟨r, s1⟩, hl, rfl, rfl, rfl⟩ := ho
        have hvr := he _ _ hva
        obtain ⟨k1, k2⟩ := load_still h hl hvr
        refine ⟨k1, fun ok => ?_⟩
        obtain ⟨r', b, off, k3, k4, k5, k6⟩ := k2 ok
        have hrun : ∀ w', w'.heap[b]? = w.heap[b]? → (execOp ρ o).run P w' = .ok (.value r') w' := fun w' hw' => by
          unfold execOp
          rw [hop]
          simp only [Sem.run_bind, (k5 w' hw').1, Result.andThen_ok, Sem.run_pure]
        refine ⟨r', b, fun w' hw' => hrun w' ?_, k4, ?_⟩
        · rcases hLoad_ptr hl with ⟨i, o', rfl⟩ | ⟨cs, rfl⟩
          · exact hw'.2
          · exact hw'.2
        · rcases k6 with ⟨i, o', p, rfl, hp, hpb⟩ | hz
          · exact ⟨⟨p, hp, hpb⟩, rfl⟩
          · rcases hLoad_ptr hl with ⟨i, o', rfl⟩ | ⟨cs, rfl⟩
            · rw [k3] at hvr
              cases hvr with
              | ptr hp => exact ⟨⟨_, hp, rfl⟩, rfl⟩
            · exact ⟨hz, rfl⟩
      · cases ho
    · rename_i t x i ok' hop
      split at ho
      · rename_i vi hx hvi
        simp only [Option.map_eq_some_iff, Prod.mk.injEq] at ho
        obtain ⟨⟨r, s1⟩, hl, rfl, rfl, rfl⟩ := ho
        have hvr := he _ _ hx
        obtain ⟨k1, k2⟩ := lookup_still h hl hvr (he _ _ hvi)
        refine ⟨k1, fun ok => ?_⟩
        obtain ⟨r', k3, k4⟩ := k2 ok
        refine ⟨r', 0, fun w' _ => ?_, k4, trivial⟩
        have := k3 w' (fun r hr => by generalize ρ x = vx at hvr hr; cases hvr; cases hr)
        unfold execOp
        rw [hop]
        simp only [Sem.run_bind, this, Result.andThen_ok, Sem.run_pure]
      · rename_i j vi hx hvi
        simp only [Option.map_eq_some_iff, Prod.mk.injEq] at ho
        obtain ⟨⟨r, s1⟩, hl, rfl, rfl, rfl⟩ := ho
        have hvr := he _ _ hx
        obtain ⟨k1, k2⟩ := lookup_still h hl hvr (he _ _ hvi)
        refine ⟨k1, fun ok => ?_⟩
        obtain ⟨r', k3, k4⟩ := k2 ok
        generalize hρx : ρ x = vx at hvr k3
        cases hvr with
        | map hp =>
          rename_i p
          refine ⟨r', p.blk, fun w' hw' => ?_, k4, ⟨p, hp, rfl⟩, rfl⟩
          have := k3 w' (fun r hr => by cases hr; exact hw'.2)
          unfold execOp
          rw [hop]
          simp only [hρx, Sem.run_bind, this, Result.andThen_ok, Sem.run_pure]
      · cases ho
    · cases ho

end
end Go.Hx

namespace Go.Hx
open Go Go.RowKit

/-- How many are listed. -/
def cnt : List Bool → Nat
  | [] => 0
  | true :: l => cnt l + 1
  | false :: l => cnt l

theorem cnt_le : ∀ l : List Bool, cnt l ≤ l.length
  | [] => Nat.le_refl _
  | true :: l => Nat.succ_le_succ (cnt_le l)
  | false :: l => Nat.le_succ_of_le (cnt_le l)

theorem cnt_set : ∀ (l : List Bool) (i : Nat), l[i]? = some false → cnt (l.set i true) = cnt l + 1
  | [], i, h => by simp at h
  | b :: l, 0, h => by
    simp at h
    subst h
    rfl
  | b :: l, i + 1, h => by
    have := cnt_set l i (by simpa using h)
    cases b <;> simp [cnt, this]

theorem cnt_lt : ∀ (l : List Bool) (i : Nat), l[i]? = some false → cnt l < l.length
  | [], i, h => by simp at h
  | b :: l, 0, h => by
    simp at h
    subst h
    have := cnt_le l
    simp only [cnt, List.length_cons]
    omega
  | b :: l, i + 1, h => by
    have := cnt_lt l i (by simpa using h)
    cases b <;> simp [cnt] <;> omega

section
variable {P : Program} {ops : Array Oper} {Q : Exit → Act → World → Prop} {md : Region.Mode}

/-- Whatever order is picked from here on, and S holds behind every operation. -/
def wpAnyG (P : Program) (md : Region.Mode) (ops : Array Oper) (Q : Exit → Act → World → Prop) (S : Array Bool → World → Prop) : Nat → Array Bool → Act → World → Prop
  | 0, listed, a, w => Region.ready md ops listed = [] ∧ Q .normal a w
  | fuel + 1, listed, a, w => (Region.ready md ops listed = [] → Q .normal a w) ∧
    ∀ i ∈ Region.ready md ops listed, wpOp P ops Q i (fun a' w' => S (listed.setIfInBounds i true) w' ∧ wpAnyG P md ops Q S fuel (listed.setIfInBounds i true) a' w') a w

theorem wpAny_of_G {S : Array Bool → World → Prop} : ∀ (fuel : Nat) (listed : Array Bool) (a : Act) (w : World), wpAnyG P md ops Q S fuel listed a w → wpAny P md ops Q fuel listed a w
  | 0, _, _, _, h => h
  | fuel + 1, _, _, _, h => ⟨h.1, fun i hi => wpOp_mono (fun a' w' h' => wpAny_of_G fuel _ a' w' h'.2) (h.2 i hi)⟩

/-- A weaker S, from where 'c' is listed on. -/
theorem wpAnyG_from {S S' : Array Bool → World → Prop} {c : Nat} (hS : ∀ l w, l.getD c false = true → S' l w → S l w) : ∀ (fuel : Nat) (listed : Array Bool) (a : Act) (w : World), listed.getD c false = true →
    wpAnyG P md ops Q S' fuel listed a w → wpAnyG P md ops Q S fuel listed a w
  | 0, _, _, _, _, h => h
  | fuel + 1, _, _, _, hc, h => ⟨h.1, fun i hi => wpOp_mono (fun _ _ h' => ⟨hS _ _ (getD_set_true hc) h'.1, wpAnyG_from hS fuel _ _ _ (getD_set_true hc) h'.2⟩) (h.2 i hi)⟩

theorem wpAnyG_mono {S S' : Array Bool → World → Prop} (hS : ∀ l w, S' l w → S l w) : ∀ (fuel : Nat) (listed : Array Bool) (a : Act) (w : World),
    wpAnyG P md ops Q S' fuel listed a w → wpAnyG P md ops Q S fuel listed a w
  | 0, _, _, _, h => h
  | fuel + 1, _, _, _, h => ⟨h.1, fun i hi => wpOp_mono (fun _ _ h' => ⟨hS _ _ h'.1, wpAnyG_mono hS fuel _ _ _ h'.2⟩) (h.2 i hi)⟩

/-- A listed operation of those that act waits for number i. -/
def conf (md : Region.Mode) (ops : Array Oper) (st : Nat → Bool) (i : Nat) (l : Array Bool) : Prop := ∃ c, st c = true ∧ l.getD c false = true ∧ Region.waitsFor md ops c i = true

theorem conf_set {st : Nat → Bool} {i j : Nat} (hj : st j = false) (l : Array Bool) : conf md ops st i (l.setIfInBounds j true) ↔ conf md ops st i l := by
  constructor
  · rintro ⟨c, h1, h2, h3⟩
    have hne : j ≠ c := fun e => by subst e; rw [hj] at h1; cases h1
    rw [getD_set_ne false hne] at h2
    exact ⟨c, h1, h2, h3⟩
  · rintro ⟨c, h1, h2, h3⟩
    exact ⟨c, h1, getD_set_true h2, h3⟩

theorem conf_mono {st : Nat → Bool} {i j : Nat} {l : Array Bool} (h : conf md ops st i l) : conf md ops st i (l.setIfInBounds j true) := by
  obtain ⟨c, h1, h2, h3⟩ := h
  exact ⟨c, h1, getD_set_true h2, h3⟩

/-- **An operation that may come up now may be taken first**, if it yields its value in every world that meets T, and T holds as long as nobody who waits for it has come up. -/
theorem wpAnyG_first {st : Nat → Bool} {i : Nat} {oi : Oper} {v : Value} {T : World → Prop} {S : Array Bool → World → Prop} (hi : ops[i]? = some oi) (hst : st i = false)
    (hsel : ∀ (j : Nat) (o : Oper) cs b, ops[j]? = some o → o.op ≠ .select cs b) (hQ : ∀ c a w, Q (.panic c) (a.put oi.dst v) w → Q (.panic c) a w) (hS : ∀ l w, S (l.setIfInBounds i true) w ↔ S l w) :
    ∀ (fuel : Nat) (listed : Array Bool) (a : Act) (w : World),
      (∀ j oj, ops[j]? = some oj → j ≠ i → listed.getD j true = false → (∀ e ∈ oj.after, Region.binds md e = true → e.on ≠ i) → oi.apart ops oj = true) →
      i ∈ Region.ready md ops listed → ¬ conf md ops st i listed → YieldsIf P ops T oi v a → T w → S listed w →
      wpAnyG P md ops Q (fun l w => S l w ∧ (conf md ops st i l ∨ T w)) fuel (listed.setIfInBounds i true) (a.put oi.dst v) w → wpAnyG P md ops Q S (fuel + 1) listed a w := by
  intro fuel
  induction fuel with
  | zero =>
    intro listed a w _ hr hc hy hT hSw H
    refine ⟨fun h => (by rw [h] at hr; cases hr), fun j hj => ?_⟩
    by_cases hji : j = i
    · subst hji; exact hy.wpOp hi hT ⟨(hS _ _).2 hSw, H⟩
    · have := ready_mono hj hji
      rw [H.1] at this
      cases this
  | succ fuel ih =>
    intro listed a w hfree hr hc hy hT hSw H
    refine ⟨fun h => (by rw [h] at hr; cases hr), fun j hj => ?_⟩
    by_cases hji : j = i
    · subst hji; exact hy.wpOp hi hT ⟨(hS _ _).2 hSw, wpAnyG_mono (fun _ _ h => h.1) _ _ _ _ H⟩
    · have h1 := H.2 j (ready_mono hj hji)
      obtain ⟨hjun, oj, hoj, hall⟩ := mem_ready.1 hj
      have hun : listed.getD i true = false := (mem_ready.1 hr).1
      have hnot : ∀ e ∈ oj.after, Region.binds md e = true → e.on ≠ i := fun e he hb heq => by
        have h1 := hall e he hb
        rw [heq, getD_both hun] at h1
        cases h1
      have hnw : Region.waitsFor md ops j i = false := by
        cases hw : Region.waitsFor md ops j i with
        | false => rfl
        | true =>
          obtain ⟨oj', hj', e, he, hb, heq⟩ := Region.waitsFor_spec hw
          rw [hoj] at hj'; cases hj'
          exact absurd heq (hnot e he hb)
      have hc' : ¬ conf md ops st i (listed.setIfInBounds j true) := by
        rintro ⟨c, k1, k2, k3⟩
        by_cases hcj : j = c
        · subst hcj; rw [hnw] at k3; cases k3
        · rw [getD_set_ne false hcj] at k2
          exact hc ⟨c, k1, k2, k3⟩
      have h2 := wpOp_putIf hoj (hfree j oj hoj hji hjun hnot) (fun cs b => hsel i oi cs b hi) (fun cs b => hsel j oj cs b hoj) hQ hy h1
      have hfree' : ∀ k ok, ops[k]? = some ok → k ≠ i → (listed.setIfInBounds j true).getD k true = false →
          (∀ e ∈ ok.after, Region.binds md e = true → e.on ≠ i) → oi.apart ops ok = true := fun k ok hk hki hun hno => by
        refine hfree k ok hk hki ?_ hno
        by_cases hjk : j = k
        · subst hjk; exact hjun
        · rw [getD_set_ne true hjk] at hun; exact hun
      refine wpOp_mono (fun a' w' h3 => ?_) h2
      obtain ⟨hy', ⟨hS', hT'⟩, hG⟩ := h3
      rw [Array.setIfInBounds_comm _ _ (Ne.symm hji)] at hS' hT' hG
      have hS'' := (hS _ _).1 hS'
      have hT'' : T w' := by
        rcases hT' with hT' | hT'
        · exact absurd ((conf_set hst _).1 hT') hc'
        · exact hT'
      exact ⟨hS'', ih (listed.setIfInBounds j true) a' w' hfree' (ready_mono hr (Ne.symm hji)) hc' hy' hT'' hS'' hG⟩

end
end Go.Hx
