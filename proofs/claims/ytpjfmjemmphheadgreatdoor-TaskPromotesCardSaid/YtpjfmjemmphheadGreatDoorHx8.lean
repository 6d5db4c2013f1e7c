/- The executor's operations, and that the model's operations do as they say. -/
import Derived.Test.YtpjfmjemmphheadGreatDoorHx7a
namespace Go.Hx
open Go Go.RowKit

structure HF where
  t : Tr Value
  n : Nat
  ds : List HDef

def HF.get (f : HF) (d : Nat) : Value := (f.t.get d).getD undef
/-- In a slot: whatever. -/
def hvc : Value := .complex .f64 0 0
def isHv : Value → Bool
  | .complex _ _ _ => true
  | _ => false
def HF.ev (s : St) (f : HF) : Operand → Option Value
  | .tmp d => bif Nat.blt d f.n && !isHv (f.get d) then some (f.get d) else none
  | .const v => bif flatN 4 v then some v else none
  | .global g => bif Nat.blt g s.ng then some (.pointer (some ⟨g, 0, none⟩)) else none
  | .func g => some (.func (.func g) #[] #[])
def HF.put (f : HF) (d : Option Nat) (v : Value) : Option HF :=
  match d with
  | none => some f
  | some d => bif Nat.blt d f.n then (Tr.set 64 f.t d v).map fun t => { f with t := t } else none

inductive DsR (η : Env) (μ : Mu) : List HDef → List Deferred → Prop
  | nil : DsR η μ [] []
  | cons {fn : Fn} {cap args cap' args' : List Value} {l : List HDef} {l' : List Deferred} (h1 : VRs η μ cap cap') (h2 : VRs η μ args args') (t : DsR η μ l l') :
      DsR η μ (⟨fn, cap, args⟩ :: l) ({ target := .fn fn ⟨cap'⟩, args := ⟨args'⟩ } :: l')

theorem DsR.mono {η : Env} {μ ν : Mu} (hl : μ.le ν) {l : List HDef} {l' : List Deferred} (h : DsR η μ l l') : DsR η ν l l' := by
  induction h with
  | nil => exact .nil
  | cons h1 h2 _ ih => exact .cons (h1.mono hl) (h2.mono hl) ih

structure AR (η : Env) (μ : Mu) (f : HF) (a : Act) : Prop where
  size : a.tmps.size = f.n
  vals : ∀ d, d < f.n → isHv (f.get d) = false → VR η μ (f.get d) (a.tmps.getD d undef)
  ds : DsR η μ f.ds a.defers

def evs (ev : Operand → Option Value) : List Operand → Option (List Value)
  | [] => some []
  | x :: l => match ev x, evs ev l with
    | some v, some r => some (v :: r)
    | _, _ => none

def evO (ev : Operand → Option Value) : Option Operand → Option (Option Value)
  | none => some none
  | some x => match ev x with
    | some v => some (some v)
    | none => none

def notNil : Value → Bool
  | .pointer (some _) => true
  | .iface _ _ => true
  | .func (.func _) _ _ => true
  | _ => false

def isIfaceD : TypeDesc → Bool
  | .interface _ => true
  | _ => false

def hasBody (P : Program) (g : FuncId) : Bool :=
  match P.funcs[g]? with
  | some fn => fn.body.isSome
  | none => false

def hCallee (P : Program) (f : Value) (args : List Value) : Option (FuncId × List Value) :=
  match f with
  | .func (.func g) first cap => bif hasBody P g then some (g, first.toList ++ args ++ cap.toList) else none
  | _ => none

def hBuiltin (P : Program) (s : St) (b : Builtin) (ts : List TypeId) (ty : TypeId) (args : List Value) : Option (Value × St) :=
  match b, ts, args with
  | .len, [t], [x] => match hLen P s t x with
    | some v => bif flatN 0 v then some (v, s) else none
    | none => none
  | .append, [t, u], [x, y] => bif Nat.beq t u then hAppend P s t x y else none
  | .min, _, _ => bif args.all (flatN 2) then (hFlat P (Builtin.min_ ts.toArray ty args.toArray)).map fun v => (v, s) else none
  | .max, _, _ => bif args.all (flatN 2) then (hFlat P (Builtin.max_ ts.toArray ty args.toArray)).map fun v => (v, s) else none
  | _, _, _ => none

def hop0 (P : Program) (fx : Facts) (s : St) (ev : Operand → Option Value) (o : Oper) : Option (HN × St) :=
  match o.op with
  | .move x => (ev x).map fun v => (.val v, s)
  | .assign x => (ev x).map fun v => (.val v, s)
  | .pick c a b => match ev c with
    | some (.bool true) => (ev a).map fun v => (.val v, s)
    | some (.bool false) => (ev b).map fun v => (.val v, s)
    | _ => none
  | .alloc e => (hAlloc P s e).map fun (v, s') => (.val v, s')
  | .box e x => match ev x with
    | some v => (hBox s e v).map fun (v, s') => (.val v, s')
    | none => none
  | .build t ps => match parts? ev ps.toList with
    | some l => (hBuild P t l).map fun v => (.val v, s)
    | none => none
  | .buildSlice t n ps => match parts? ev ps.toList with
    | some l => (hBuildSlice P s t n l).map fun (v, s') => (.val v, s')
    | none => none
  | .load t a => match ev a with
    | some v => (hLoad P s t v).map fun v => (.val v, s)
    | none => none
  | .store t a x => match ev a, ev x with
    | some va, some vx => (hStore P s t va vx).map fun s' => (.skip, s')
    | _, _ => none
  | .nilCheck x => match ev x with
    | some v => bif notNil v then some (.val v, s) else none
    | none => none
  | .binOp op t x y _ => match ev x, ev y with
    | some vx, some vy => (hBin P fx op t x y vx vy).map fun v => (.val v, s)
    | _, _ => none
  | .unOp op _ x => match ev x with
    | some v => bif flatN 6 v then (hFlat P (Op.unary op v)).map fun v => (.val v, s) else none
    | none => none
  | .convert src dst x => match ev x with
    | some v => (hConv P fx src dst v).map fun v => (.val v, s)
    | none => none
  | .makeInterface t x => match ev x, P.underlying t with
    | some v, some d => bif isIfaceD d then none else some (.val (.iface t v), s)
    | _, _ => none
  | .makeFunc fn first cap => match evs ev first.toList, evs ev cap.toList with
    | some f, some c => some (.val (.func fn ⟨f⟩ ⟨c⟩), s)
    | _, _ => none
  | .makeSlice t l c => match ev l, ev c with
    | some vl, some vc => (hMakeSlice P s t vl vc).map fun (v, s') => (.val v, s')
    | _, _ => none
  | .slice t x lo hi mx => match ev x, evO ev lo, evO ev hi, evO ev mx with
    | some vx, some l, some h, some m => (hSlice P t vx l h m).map fun v => (.val v, s)
    | _, _, _, _ => none
  | .fieldAddr t x f => match ev x with
    | some v => (hFieldAddr P t v f).map fun v => (.val v, s)
    | none => none
  | .field t x f => match ev x with
    | some v => (hField P t v f).map fun v => (.val v, s)
    | none => none
  | .indexAddr t x i => match ev x, ev i with
    | some vx, some vi => (hIndexAddr P t vx vi).map fun v => (.val v, s)
    | _, _ => none
  | .index t x i => match ev x, ev i with
    | some vx, some vi => (hIndex P t vx vi).map fun v => (.val v, s)
    | _, _ => none
  | .extract t k => match ev t with
    | some (.tuple vs) => (vs.toList[k]?).map fun v => (.val v, s)
    | _ => none
  | .makeMap _ r => match r with
    | none => (hMakeMap s).map fun (v, s') => (.val v, s')
    | some _ => none
  | .lookup t x i ok => match ev x, ev i with
    | some vx, some vi => (hLookup P s t vx vi ok).map fun v => (.val v, s)
    | _, _ => none
  | .mapUpdate t m k x => match ev m, ev k, ev x with
    | some vm, some vk, some vx => (hMapUpdate P s t vm vk vx).map fun s' => (.skip, s')
    | _, _, _ => none
  | .call c => match c.callee, evs ev c.args.toList with
    | .value f, some args => match ev f with
      | some vf => (hCallee P vf args).map fun (g, l) => (.enter g l, s)
      | none => none
    | .invoke r name, some args => match ev r with
      | some vr => match hMethod P name vr with
        | some (g, x) => bif hasBody P g then some (.enter g (x :: args), s) else none
        | none => none
      | none => none
    | .builtin b, some args => (hBuiltin P s b c.argTypes.toList o.type args).map fun (v, s') => (.val v, s')
    | _, _ => none
  | .defer c => match c.callee, evs ev c.args.toList with
    | .value f, some args => match ev f with
      | some (.func fn first cap) => some (.dfr ⟨fn, cap.toList, first.toList ++ args⟩, s)
      | _ => none
    | _, _ => none
  | _ => none

/-- What the model's operation comes to. -/
def Sim (η : Env) (w0 : Base) (μ : Mu) (w : World) (r : Result Next) : HN × St → Prop
  | (.val v, s') => ∃ v' w' μ', r = .ok (.value v') w' ∧ μ.le μ' ∧ R η w0 μ' s' w' ∧ VR η μ' v v'
  | (.skip, s') => ∃ w' μ', r = .ok .skip w' ∧ μ.le μ' ∧ R η w0 μ' s' w'
  | (.enter f args, s') => ∃ args', r = .ok (.enter f ⟨args'⟩) w ∧ R η w0 μ s' w ∧ VRs η μ args args'
  | (.dfr d, s') => ∃ cap' args', r = .ok (.defer { target := .fn d.fn ⟨cap'⟩, args := ⟨args'⟩ }) w ∧ R η w0 μ s' w ∧ VRs η μ d.cap cap' ∧ VRs η μ d.args args'

section
variable {η : Env} {w0 : Base} {μ : Mu} {s : St} {w : World} {P : Program} {fx : Facts} {ev : Operand → Option Value} {ρ : Operand → Value}

theorem evs_sound (he : ∀ x v, ev x = some v → VR η μ v (ρ x)) : ∀ (l : List Operand) (r : List Value), evs ev l = some r → VRs η μ r (l.map ρ) := by
  intro l
  induction l with
  | nil => intro r h; simp [evs] at h; subst h; exact .nil
  | cons x l ih =>
    intro r h
    simp only [evs] at h
    split at h
    · rename_i v r' hv hr
      simp at h
      subst h
      exact .cons (he _ _ hv) (ih r' hr)
    · cases h

theorem evO_sound (he : ∀ x v, ev x = some v → VR η μ v (ρ x)) {x : Option Operand} {r : Option Value} (h : evO ev x = some r) : VRo η μ r (x.map ρ) := by
  cases x with
  | none => simp [evO] at h; subst h; exact .none
  | some x =>
    simp only [evO] at h
    split at h
    · rename_i v hv; simp at h; subst h; exact .some (he _ _ hv)
    · cases h

/-- No function with a body bears the one name that the model looks for. -/
def NoG (P : Program) : Prop := ∀ (g : FuncId) (fn : Func), P.funcs[g]? = some fn → fn.body.isSome = true → (fn.name == "runtime.NumGoroutine") = false

theorem run_callFunc (hg : NoG P) {g : FuncId} (hb : hasBody P g = true) (args : Array Value) (w : World) : (callFunc g args).run P w = .ok (.enter g args) w := by
  unfold hasBody at hb
  cases hf : P.funcs[g]? with
  | none => simp [hf] at hb
  | some fn =>
    simp only [hf] at hb
    have hn := hg g fn hf hb
    have hb' : fn.body.isNone = false := by cases hx : fn.body <;> simp_all
    simp only [callFunc, Sem.run_bind, run_program, Result.andThen_ok, hf, hn, hb', Bool.false_eq_true, if_false, Sem.run_pure]

theorem flats_eq {l l' : List Value} {d : Nat} (hf : l.all (flatN d) = true) (h : VRs η μ l l') : l' = l := by
  induction l generalizing l' with
  | nil => cases h; rfl
  | cons a l ih =>
    simp only [List.all_cons, Bool.and_eq_true] at hf
    cases h with
    | cons h t => rw [ih hf.2 t, flat_eq d _ _ hf.1 h]

theorem bif_some {α : Type} {c : Bool} {x : Option α} {y : α} (h : (bif c then x else none) = some y) : c = true ∧ x = some y := by
  cases c
  · cases h
  · exact ⟨rfl, h⟩

theorem builtin_sound (h : R η w0 μ s w) {b : Builtin} {ts : Array TypeId} {ty : TypeId} {args args' : List Value} {cs : Array Bool} {v : Value} {s' : St} (hb : hBuiltin P s b ts.toList ty args = some (v, s')) (ha : VRs η μ args args') :
    ∃ v' w' μ', (builtin b ts ty cs ⟨args'⟩).run P w = .ok (.value v') w' ∧ μ.le μ' ∧ R η w0 μ' s' w' ∧ VR η μ' v v' := by
  unfold hBuiltin at hb
  obtain ⟨ts⟩ := ts
  split at hb
  · rename_i t x hts
    simp only at hts
    subst hts
    split at hb
    · rename_i u hu
      cases hfl : flatN 0 u with
      | false => rw [hfl] at hb; simp at hb
      | true =>
        rw [hfl] at hb
        simp only [cond_true, Option.some.injEq, Prod.mk.injEq] at hb
        obtain ⟨rfl, rfl⟩ := hb
        cases ha with
        | cons h1 h2 =>
          cases h2
          obtain ⟨k1, k2⟩ := len_sound (ty := ty) h hu hfl h1
          refine ⟨_, w, μ, ?_, Mu.le_refl _, h, k2⟩
          simp [builtin, k1]
    · cases hb
  · rename_i t u x y hts
    simp only at hts
    subst hts
    cases htu : Nat.beq t u with
    | false => rw [htu] at hb; simp at hb
    | true =>
      rw [htu] at hb
      simp only [cond_true] at hb
      have htu := (beq_iff _ _).1 htu
      subst htu
      cases ha with
      | cons h1 h2 =>
        cases h2 with
        | cons h2 h3 =>
          cases h3
          obtain ⟨v', w', μ', k1, k2, k3, k4⟩ := append_sound (ty := ty) h hb h1 h2
          refine ⟨v', w', μ', ?_, k2, k3, k4⟩
          simp [builtin, k1]
  · obtain ⟨hfl, hb⟩ := bif_some hb
    simp only [Option.map_eq_some_iff, Prod.mk.injEq] at hb
    obtain ⟨u, hu, rfl, rfl⟩ := hb
    obtain rfl := flats_eq hfl ha
    obtain ⟨k1, k2⟩ := hFlat_sound (η := η) (μ := μ) hu w
    refine ⟨_, w, μ, ?_, Mu.le_refl _, h, k2⟩
    simp only [builtin, Sem.run_bind]
    rw [k1]
    rfl
  · obtain ⟨hfl, hb⟩ := bif_some hb
    simp only [Option.map_eq_some_iff, Prod.mk.injEq] at hb
    obtain ⟨u, hu, rfl, rfl⟩ := hb
    obtain rfl := flats_eq hfl ha
    obtain ⟨k1, k2⟩ := hFlat_sound (η := η) (μ := μ) hu w
    refine ⟨_, w, μ, ?_, Mu.le_refl _, h, k2⟩
    simp only [builtin, Sem.run_bind]
    rw [k1]
    rfl
  · cases hb

theorem hop0_sound (hfx : FactsOK η fx) (hg : NoG P) (h : R η w0 μ s w) (he : ∀ x v, ev x = some v → VR η μ v (ρ x)) {o : Oper} {r : HN × St} (ho : hop0 P fx s ev o = some r) :
    Sim η w0 μ w ((execOp ρ o).run P w) r := by
  unfold hop0 at ho
  unfold execOp
  split at ho
  · rename_i x hop
    simp only [Option.map_eq_some_iff] at ho
    obtain ⟨v, hv, rfl⟩ := ho
    rw [hop]
    exact ⟨_, w, μ, rfl, Mu.le_refl _, h, he _ _ hv⟩
  · rename_i x hop
    simp only [Option.map_eq_some_iff] at ho
    obtain ⟨v, hv, rfl⟩ := ho
    rw [hop]
    exact ⟨_, w, μ, rfl, Mu.le_refl _, h, he _ _ hv⟩
  · rename_i c a b hop
    rw [hop]
    split at ho
    · rename_i hc
      simp only [Option.map_eq_some_iff] at ho
      obtain ⟨v, hv, rfl⟩ := ho
      have := he _ _ hc
      dsimp only
      generalize ρ c = vc at this ⊢
      cases this
      exact ⟨_, w, μ, rfl, Mu.le_refl _, h, he _ _ hv⟩
    · rename_i hc
      simp only [Option.map_eq_some_iff] at ho
      obtain ⟨v, hv, rfl⟩ := ho
      have := he _ _ hc
      dsimp only
      generalize ρ c = vc at this ⊢
      cases this
      exact ⟨_, w, μ, rfl, Mu.le_refl _, h, he _ _ hv⟩
    · cases ho
  · rename_i e hop
    rw [hop]
    simp only [Option.map_eq_some_iff] at ho
    obtain ⟨⟨v, s'⟩, hv, rfl⟩ := ho
    obtain ⟨v', w', μ', k1, k2, k3, k4⟩ := alloc_sound h hv (.tuple #[])
    exact ⟨v', w', μ', by simp only [Sem.run_bind, k1, Result.andThen_ok, Sem.run_pure], k2, k3, k4⟩
  · rename_i e x hop
    rw [hop]
    split at ho
    · rename_i vx hx
      simp only [Option.map_eq_some_iff] at ho
      obtain ⟨⟨v, s'⟩, hv, rfl⟩ := ho
      obtain ⟨v', w', μ', k1, k2, k3, k4⟩ := box_sound (P := P) h hv (he _ _ hx)
      exact ⟨v', w', μ', by simp only [Sem.run_bind, k1, Result.andThen_ok, Sem.run_pure], k2, k3, k4⟩
    · cases ho
  · rename_i t ps hop
    rw [hop]
    split at ho
    · rename_i l hl
      simp only [Option.map_eq_some_iff] at ho
      obtain ⟨v, hv, rfl⟩ := ho
      obtain ⟨p1, p2⟩ := parts_vr he _ _ hl
      obtain ⟨v', k1, k2⟩ := build_sound hv p1 p2 w
      refine ⟨v', w, μ, ?_, Mu.le_refl _, h, k2⟩
      have e1 : (List.map (fun x => (x.1, ρ x.2)) ps.toList).toArray = ps.map fun x => (x.1, ρ x.2) := by apply Array.ext'; simp
      simp only [e1] at k1
      simp only [Sem.run_bind, k1, Result.andThen_ok, Sem.run_pure]
    · cases ho
  · rename_i t n ps hop
    rw [hop]
    split at ho
    · rename_i l hl
      simp only [Option.map_eq_some_iff] at ho
      obtain ⟨⟨v, s'⟩, hv, rfl⟩ := ho
      obtain ⟨p1, p2⟩ := parts_vr he _ _ hl
      obtain ⟨v', w', μ', k1, k2, k3, k4⟩ := buildSlice_sound h hv p1 p2
      refine ⟨v', w', μ', ?_, k2, k3, k4⟩
      have e1 : (List.map (fun x => (x.1, ρ x.2)) ps.toList).toArray = ps.map fun x => (x.1, ρ x.2) := by apply Array.ext'; simp
      simp only [e1] at k1
      simp only [Sem.run_bind, k1, Result.andThen_ok, Sem.run_pure]
    · cases ho
  · rename_i t a hop
    rw [hop]
    split at ho
    · rename_i va hva
      simp only [Option.map_eq_some_iff] at ho
      obtain ⟨v, hv, rfl⟩ := ho
      obtain ⟨v', k1, k2⟩ := load_sound h hv (he _ _ hva)
      exact ⟨v', w, μ, by simp only [Sem.run_bind, k1, Result.andThen_ok, Sem.run_pure], Mu.le_refl _, h, k2⟩
    · cases ho
  · rename_i t a x hop
    rw [hop]
    split at ho
    · rename_i va vx hva hvx
      simp only [Option.map_eq_some_iff] at ho
      obtain ⟨s', hv, rfl⟩ := ho
      obtain ⟨w', k1, k2⟩ := store_sound h hv (he _ _ hva) (he _ _ hvx)
      exact ⟨w', μ, by simp only [Sem.run_bind, k1, Result.andThen_ok, Sem.run_pure], Mu.le_refl _, k2⟩
    · cases ho
  · rename_i x hop
    rw [hop]
    split at ho
    · rename_i v hv
      cases hn : notNil v with
      | false => rw [hn] at ho; simp at ho
      | true =>
        rw [hn] at ho
        simp only [cond_true, Option.some.injEq] at ho
        subst ho
        have hvr := he _ _ hv
        refine ⟨ρ x, w, μ, ?_, Mu.le_refl _, h, hvr⟩
        dsimp only
        generalize ρ x = vx at hvr ⊢
        unfold notNil at hn
        split at hn
        · cases hvr; rfl
        · cases hvr; rfl
        · cases hvr; rfl
        · cases hn
    · cases ho
  · rename_i op t x y yt hop
    rw [hop]
    split at ho
    · rename_i vx vy hvx hvy
      simp only [Option.map_eq_some_iff] at ho
      obtain ⟨v, hv, rfl⟩ := ho
      obtain ⟨v', k1, k2⟩ := bin_sound hfx hv (he _ _ hvx) (he _ _ hvy) w
      exact ⟨v', w, μ, by simp only [Sem.run_bind] at k1 ⊢; rw [k1]; rfl, Mu.le_refl _, h, k2⟩
    · cases ho
  · rename_i op t x hop
    rw [hop]
    split at ho
    · rename_i vx hvx
      cases hfl : flatN 6 vx with
      | false => rw [hfl] at ho; simp at ho
      | true =>
        rw [hfl] at ho
        simp only [cond_true, Option.map_eq_some_iff] at ho
        obtain ⟨v, hv, rfl⟩ := ho
        have hfe := flat_eq 6 _ _ hfl (he _ _ hvx)
        obtain ⟨k1, k2⟩ := hFlat_sound (η := η) (μ := μ) hv w
        exact ⟨v, w, μ, by dsimp only; rw [← hfe]; simp only [Sem.run_bind, k1, Result.andThen_ok, Sem.run_pure], Mu.le_refl _, h, k2⟩
    · cases ho
  · rename_i src dst x hop
    rw [hop]
    split at ho
    · rename_i vx hvx
      simp only [Option.map_eq_some_iff] at ho
      obtain ⟨v, hv, rfl⟩ := ho
      obtain ⟨v', k1, k2⟩ := conv_sound hfx hv (he _ _ hvx) w
      exact ⟨v', w, μ, by simp only [Sem.run_bind, k1, Result.andThen_ok, Sem.run_pure], Mu.le_refl _, h, k2⟩
    · cases ho
  · rename_i t x hop
    rw [hop]
    split at ho
    · rename_i v d hv hd
      cases hi : isIfaceD d with
      | true => rw [hi] at ho; simp at ho
      | false =>
        rw [hi] at ho
        simp only [cond_false, Option.some.injEq] at ho
        subst ho
        refine ⟨.iface t (ρ x), w, μ, ?_, Mu.le_refl _, h, .iface (he _ _ hv)⟩
        have : (Instr.makeInterface t (ρ x)).run P w = .ok (.iface t (ρ x)) w := by
          simp only [Instr.makeInterface, Sem.run_bind, run_underlying hd, Result.andThen_ok]
          cases d <;> first | (simp [isIfaceD] at hi; done) | rfl
        simp only [Sem.run_bind, this, Result.andThen_ok, Sem.run_pure]
    · cases ho
  · rename_i fn first cap hop
    rw [hop]
    split at ho
    · rename_i f c hf hc
      simp only [Option.some.injEq] at ho
      subst ho
      have h1 := evs_sound he _ _ hf
      have h2 := evs_sound he _ _ hc
      refine ⟨.func fn (first.map ρ) (cap.map ρ), w, μ, rfl, Mu.le_refl _, h, ?_⟩
      have e1 : first.map ρ = ⟨first.toList.map ρ⟩ := by apply Array.ext'; simp
      have e2 : cap.map ρ = ⟨cap.toList.map ρ⟩ := by apply Array.ext'; simp
      rw [e1, e2]
      exact .func h1 h2
    · cases ho
  · rename_i t l c hop
    rw [hop]
    split at ho
    · rename_i vl vc hvl hvc
      simp only [Option.map_eq_some_iff] at ho
      obtain ⟨⟨v, s'⟩, hv, rfl⟩ := ho
      obtain ⟨v', w', μ', k1, k2, k3, k4⟩ := makeSlice_sound h hv (he _ _ hvl) (he _ _ hvc)
      exact ⟨v', w', μ', by simp only [Sem.run_bind, k1, Result.andThen_ok, Sem.run_pure], k2, k3, k4⟩
    · cases ho
  · rename_i t x lo hi mx hop
    rw [hop]
    split at ho
    · rename_i vx l hh m hvx hl hh2 hm
      simp only [Option.map_eq_some_iff] at ho
      obtain ⟨v, hv, rfl⟩ := ho
      obtain ⟨v', k1, k2⟩ := slice_sound hv (he _ _ hvx) (evO_sound he hl) (evO_sound he hh2) (evO_sound he hm) w
      exact ⟨v', w, μ, by simp only [Sem.run_bind, k1, Result.andThen_ok, Sem.run_pure], Mu.le_refl _, h, k2⟩
    · cases ho
  · rename_i t x f hop
    rw [hop]
    split at ho
    · rename_i vx hvx
      simp only [Option.map_eq_some_iff] at ho
      obtain ⟨v, hv, rfl⟩ := ho
      obtain ⟨v', k1, k2⟩ := fieldAddr_sound hv (he _ _ hvx) w
      exact ⟨v', w, μ, by simp only [Sem.run_bind, k1, Result.andThen_ok, Sem.run_pure], Mu.le_refl _, h, k2⟩
    · cases ho
  · rename_i t x f hop
    rw [hop]
    split at ho
    · rename_i vx hvx
      simp only [Option.map_eq_some_iff] at ho
      obtain ⟨v, hv, rfl⟩ := ho
      obtain ⟨v', k1, k2⟩ := field_sound hv (he _ _ hvx) w
      exact ⟨v', w, μ, by simp only [Sem.run_bind, k1, Result.andThen_ok, Sem.run_pure], Mu.le_refl _, h, k2⟩
    · cases ho
  · rename_i t x i hop
    rw [hop]
    split at ho
    · rename_i vx vi hvx hvi
      simp only [Option.map_eq_some_iff] at ho
      obtain ⟨v, hv, rfl⟩ := ho
      obtain ⟨v', k1, k2⟩ := indexAddr_sound hv (he _ _ hvx) (he _ _ hvi) w
      exact ⟨v', w, μ, by simp only [Sem.run_bind, k1, Result.andThen_ok, Sem.run_pure], Mu.le_refl _, h, k2⟩
    · cases ho
  · rename_i t x i hop
    rw [hop]
    split at ho
    · rename_i vx vi hvx hvi
      simp only [Option.map_eq_some_iff] at ho
      obtain ⟨v, hv, rfl⟩ := ho
      obtain ⟨v', k1, k2⟩ := index_sound hv (he _ _ hvx) (he _ _ hvi) w
      exact ⟨v', w, μ, by simp only [Sem.run_bind, k1, Result.andThen_ok, Sem.run_pure], Mu.le_refl _, h, k2⟩
    · cases ho
  · rename_i t k hop
    rw [hop]
    split at ho
    · rename_i vs hvs
      simp only [Option.map_eq_some_iff] at ho
      obtain ⟨v, hv, rfl⟩ := ho
      have := he _ _ hvs
      dsimp only
      generalize ρ t = vt at this ⊢
      cases this with
      | tuple hl =>
        obtain ⟨v', k1, k2⟩ := hl.get k v hv
        refine ⟨v', w, μ, ?_, Mu.le_refl _, h, k2⟩
        simp [Instr.extract, k1]
    · cases ho
  · rename_i t r hop
    rw [hop]
    split at ho
    · simp only [Option.map_eq_some_iff] at ho
      obtain ⟨⟨v, s'⟩, hv, rfl⟩ := ho
      obtain ⟨v', w', μ', k1, k2, k3, k4⟩ := makeMap_sound (P := P) (t := t) h hv
      exact ⟨v', w', μ', by simp only [Option.map_none, Sem.run_bind, k1, Result.andThen_ok, Sem.run_pure], k2, k3, k4⟩
    · cases ho
  · rename_i t x i ok hop
    rw [hop]
    split at ho
    · rename_i vx vi hvx hvi
      simp only [Option.map_eq_some_iff] at ho
      obtain ⟨v, hv, rfl⟩ := ho
      obtain ⟨v', k1, k2⟩ := lookup_sound h hv (he _ _ hvx) (he _ _ hvi)
      exact ⟨v', w, μ, by simp only [Sem.run_bind, k1, Result.andThen_ok, Sem.run_pure], Mu.le_refl _, h, k2⟩
    · cases ho
  · rename_i t m k x hop
    rw [hop]
    split at ho
    · rename_i vm vk vx hvm hvk hvx
      simp only [Option.map_eq_some_iff] at ho
      obtain ⟨s', hv, rfl⟩ := ho
      obtain ⟨w', k1, k2⟩ := mapUpdate_sound h hv (he _ _ hvm) (he _ _ hvk) (he _ _ hvx)
      exact ⟨w', μ, by simp only [Sem.run_bind, k1, Result.andThen_ok, Sem.run_pure], Mu.le_refl _, k2⟩
    · cases ho
  · rename_i c hop
    rw [hop]
    split at ho
    · rename_i f args hc ha
      split at ho
      · rename_i vf hvf
        simp only [Option.map_eq_some_iff] at ho
        obtain ⟨⟨g, l⟩, hgl, rfl⟩ := ho
        have hvr := he _ _ hvf
        have har := evs_sound he _ _ ha
        unfold hCallee at hgl
        split at hgl
        · rename_i g0 first cap
          cases hb : hasBody P g0 with
          | false => rw [hb] at hgl; simp at hgl
          | true =>
            rw [hb] at hgl
            simp only [cond_true, Option.some.injEq, Prod.mk.injEq] at hgl
            obtain ⟨rfl, rfl⟩ := hgl
            generalize hρ : ρ f = vf' at hvr
            cases hvr with
            | func h1 h2 =>
              rename_i fl fl' cl cl'
              refine ⟨fl' ++ c.args.toList.map ρ ++ cl', ?_, h, (h1.append har).append h2⟩
              simp only [resolve, hc, hρ, Deferred.ofValue, Sem.run_bind, Sem.run_pure, Result.andThen_ok, invoke, run_callFunc hg hb]
              congr 2
              apply Array.ext'
              simp
        · cases hgl
      · cases ho
    · rename_i r name args hc ha
      split at ho
      · rename_i vr hvr
        split at ho
        · rename_i g x hm
          obtain ⟨hb, ho⟩ := bif_some ho
          cases ho
          have har := evs_sound he _ _ ha
          obtain ⟨x', k1, k2⟩ := method_sound (η := η) (μ := μ) hm (he _ _ hvr)
          refine ⟨x' :: c.args.toList.map ρ, ?_, h, .cons k1 har⟩
          have e1 : (#[ρ r] ++ c.args.map ρ)[0]? = some (ρ r) := by rw [Array.getElem?_append_left (by simp)]; rfl
          have e2 : (#[ρ r] ++ c.args.map ρ).extract 1 (#[ρ r] ++ c.args.map ρ).size = c.args.map ρ := by
            apply Array.ext'
            simp
            exact List.take_of_length_le (by simp)
          simp only [resolve, hc, Sem.run_bind, Sem.run_pure, Result.andThen_ok, invoke, e1, e2, k2, run_callFunc hg hb]
          congr 2
          apply Array.ext'
          simp
        · cases ho
      · cases ho
    · rename_i b args hc ha
      simp only [Option.map_eq_some_iff] at ho
      obtain ⟨⟨v, s'⟩, hv, rfl⟩ := ho
      have har := evs_sound he _ _ ha
      obtain ⟨v', w', μ', k1, k2, k3, k4⟩ := builtin_sound (cs := c.args.map fun | .const _ => true | _ => false) h hv har
      refine ⟨v', w', μ', ?_, k2, k3, k4⟩
      simp only [resolve, hc, Sem.run_bind, Sem.run_pure, Result.andThen_ok, invoke]
      have e1 : c.args.map ρ = ⟨c.args.toList.map ρ⟩ := by apply Array.ext'; simp
      rw [e1]
      exact k1
    · cases ho
  · rename_i c hop
    rw [hop]
    split at ho
    · rename_i f args hc ha
      split at ho
      · rename_i fn first cap hvf
        simp only [Option.some.injEq] at ho
        subst ho
        have hvr := he _ _ hvf
        have har := evs_sound he _ _ ha
        generalize hρ : ρ f = vf' at hvr
        cases hvr with
        | func h1 h2 =>
          rename_i fl fl' cl cl'
          refine ⟨cl', fl' ++ c.args.toList.map ρ, ?_, h, h2, h1.append har⟩
          simp only [resolve, hc, hρ, Deferred.ofValue, Sem.run_bind, Sem.run_pure, Result.andThen_ok]
          congr 3
          apply Array.ext'
          simp
      · cases ho
    · cases ho
  · cases ho

/-- The operations, those of the facts last. -/
def hop (P : Program) (fx : Facts) (s : St) (ev : Operand → Option Value) (o : Oper) : Option (HN × St) :=
  match hop0 P fx s ev o with
  | some r => some r
  | none => match fx.pu s ev o.op with
    | some v => some (.val v, s)
    | none => fx.st s ev o.op

/-- What is asked of facts. -/
structure FxOK (P : Program) (η : Env) (fx : Facts) : Prop where
  base : FactsOK η fx
  pu : ∀ (w0 : Base) (μ : Mu) (s : St) (w : World) (ev : Operand → Option Value) (ρ : Operand → Value) (o : Oper) (v : Value), R η w0 μ s w → (∀ x v, ev x = some v → VR η μ v (ρ x)) → fx.pu s ev o.op = some v →
    ∃ v', (∀ w', (execOp ρ o).run P w' = .ok (.value v') w') ∧ VR η μ v v'
  st : ∀ (w0 : Base) (μ : Mu) (s : St) (w : World) (ev : Operand → Option Value) (ρ : Operand → Value) (o : Oper) (r : HN × St), R η w0 μ s w → (∀ x v, ev x = some v → VR η μ v (ρ x)) → fx.st s ev o.op = some r →
    Sim η w0 μ w ((execOp ρ o).run P w) r

theorem hop_sound (hfx : FxOK P η fx) (hg : NoG P) (h : R η w0 μ s w) (he : ∀ x v, ev x = some v → VR η μ v (ρ x)) {o : Oper} {r : HN × St} (ho : hop P fx s ev o = some r) :
    Sim η w0 μ w ((execOp ρ o).run P w) r := by
  unfold hop at ho
  split at ho
  · rename_i r' hr
    cases ho
    exact hop0_sound hfx.base hg h he hr
  · split at ho
    · rename_i v hv
      cases ho
      obtain ⟨v', k1, k2⟩ := hfx.pu w0 μ s w ev ρ o v h he hv
      exact ⟨v', w, μ, k1 w, Mu.le_refl _, h, k2⟩
    · exact hfx.st w0 μ s w ev ρ o r h he ho

end
end Go.Hx
