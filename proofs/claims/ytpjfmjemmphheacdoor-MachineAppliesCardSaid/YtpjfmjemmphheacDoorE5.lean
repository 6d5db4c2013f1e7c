/- MachineApplies: the executor: regions. Conditions: none. -/
import Derived.Test.YtpjfmjemmphheacDoorE4
import Derived.LoopN
set_option linter.all false
set_option linter.unusedVariables false
set_option linter.unusedSimpArgs false
namespace Go.Hx
open Go Go.RowKit

section
variable {w0 : Base} {μ : Mu} {s : St} {w : World} {P : Program} {f : HF} {a : Act}

theorem AR.mono {ν : Mu} (hl : μ.le ν) (h : AR μ f a) : AR ν f a := ⟨h.size, fun d hd hv => (h.vals d hd hv).mono hl, h.ds.mono hl⟩

theorem undef_vr : VR μ undef undef := .tuple .nil

theorem ev_sound (h : R w0 μ s w) (ha : AR μ f a) : ∀ x v, f.ev s x = some v → VR μ v (a.eval x) := by
  intro x v hv
  cases x with
  | tmp d =>
    simp only [HF.ev] at hv
    obtain ⟨hd, hv⟩ := bif_some hv
    cases hv
    simp only [Bool.and_eq_true, Bool.not_eq_true'] at hd
    exact ha.vals d (blt_lt hd.1) hd.2
  | const u =>
    simp only [HF.ev] at hv
    obtain ⟨hd, hv⟩ := bif_some hv
    cases hv
    exact flat_self 4 _ hd
  | global g =>
    simp only [HF.ev] at hv
    obtain ⟨hd, hv⟩ := bif_some hv
    cases hv
    obtain ⟨p, hp, h1, h2⟩ := h.gl g (blt_lt hd)
    have := VR.ptr (o := 0) hp
    rw [h1, h2] at this
    exact this
  | func g =>
    simp only [HF.ev, Option.some.injEq] at hv
    subst hv
    exact .func .nil .nil

theorem put_sound (ha : AR μ f a) {d : Option Tmp} {v v' : Value} (hv : VR μ v v') {f' : HF} (hp : f.put d v = some f') : AR μ f' (a.put d v') := by
  cases d with
  | none => simp only [HF.put, Option.some.injEq] at hp; subst hp; exact ha
  | some d =>
    simp only [HF.put] at hp
    obtain ⟨hd, hp⟩ := bif_some hp
    simp only [Option.map_eq_some_iff] at hp
    obtain ⟨t, ht, rfl⟩ := hp
    have hd := blt_lt hd
    have hg := Tr.get_set 64 f.t t d v ht
    refine ⟨by simp [Act.put, ha.size], fun e hed => ?_, ha.ds⟩
    have hsz := ha.size
    simp only [HF.get, hg]
    by_cases hde : e = d
    · subst hde
      simp [Act.put, hsz, hd]
      exact fun _ => hv
    · rw [if_neg hde]
      have := ha.vals e hed
      have e1 : (a.put (some d) v').tmps.getD e undef = a.tmps.getD e undef := by
        have hne : d ≠ e := fun h => hde h.symm
        simp [Act.put, Array.getD_eq_getD_getElem?, hne]
      rw [e1]
      exact this

/-- Is the operation carried out? -/
def hWanted (f : HF) (ops : List Oper) (o : Oper) (s : St) : Option (Bool × St) :=
  match o.guard with
  | none => some (true, s)
  | some (j, b) => match ops[j]? with
    | none => some (false, s)
    | some x => match x.dst with
      | none => some (false, s)
      | some d => bif Nat.blt d f.n then (match f.get d with
          | .bool c => popB (c == b) s
          | .tuple _ => some (false, s)
          | _ => none) else none

theorem wanted_sound (ha : AR μ f a) {ops : Array Oper} {o : Oper} {b : Bool} {s' : St} (h : hWanted f ops.toList o s = some (b, s')) : s.like s' ∧ (SOK s' → Region.wanted o (yielded ops a.tmps) = b) := by
  unfold hWanted at h
  unfold Region.wanted
  split at h
  · rename_i hg
    rw [hg]
    cases h
    exact ⟨s.like_refl, fun _ => rfl⟩
  · rename_i j b' hg
    rw [hg]
    dsimp only
    unfold yielded
    rw [← Array.getElem?_toList]
    split at h
    · rename_i hj
      rw [hj]
      cases h
      exact ⟨s.like_refl, fun _ => rfl⟩
    · rename_i x hj
      rw [hj]
      split at h
      · rename_i hd
        simp only [Option.bind_some, hd, Option.bind_none]
        cases h
        exact ⟨s.like_refl, fun _ => rfl⟩
      · rename_i d hd
        obtain ⟨hdn, h⟩ := bif_some h
        have hdn := blt_lt hdn
        have hv := ha.vals d hdn
        have hsz : d < a.tmps.size := by rw [ha.size]; exact hdn
        simp only [Option.bind_some, hd, Array.getElem?_eq_getElem hsz]
        have hgd : a.tmps.getD d undef = a.tmps[d] := by simp [hsz]
        rw [hgd] at hv
        generalize a.tmps[d] = u at hv ⊢
        split at h
        · rename_i c hc
          rw [hc] at hv
          have hv := hv rfl
          cases hv
          obtain ⟨k1, k2⟩ := popB_like h
          refine ⟨k1, fun ok => ?_⟩
          have := k2 ok
          subst this
          cases c <;> cases b' <;> rfl
        · rename_i l hc
          rw [hc] at hv
          have hv := hv rfl
          cases hv
          cases h
          exact ⟨s.like_refl, fun _ => rfl⟩
        · cases h

/-! ### What is shown of a piece of code -/
inductive HX where
  | normal
  | exit (id : Nat)
  | ret

def HX.ex : HX → Exit
  | .normal => .normal
  | .exit id => .exit id
  | .ret => .ret

def Post (w0 : Base) (μ : Mu) (x : HX) (s : St) (f : HF) : Exit → Act → World → Prop :=
  fun e a w => e = x.ex ∧ ∃ μ', μ.le μ' ∧ R w0 μ' s w ∧ AR μ' f a

abbrev HCall := FuncId → List Value → St → Option (Value × St)

def CallOK (P : Program) (call : HCall) : Prop :=
  ∀ (s s' : St) (g : FuncId) (args : List Value) (v : Value), call g args s = some (v, s') → s.sub s' ∧ (SOK s' → ∀ (w0 : Base) (μ : Mu) (w : World) (args' : List Value), R w0 μ s w → VRs μ args args' →
    Calls P g ⟨args'⟩ w fun e w' => ∃ v' μ', e = .returned v' ∧ μ.le μ' ∧ R w0 μ' s' w' ∧ VR μ' v v')

/-! ### One operation -/
def hact (call : HCall) (o : Oper) (f : HF) : HN × St → Option (St × HF)
  | (.val v, s') => (f.put o.dst v).map fun f' => (s', f')
  | (.skip, s') => (f.put o.dst undef).map fun f' => (s', f')
  | (.enter g args, s') => match call g args s' with
    | some (v, s'') => (f.put o.dst v).map fun f' => (s'', f')
    | none => none
  | _ => none
def hstep (P : Program) (call : HCall) (ops : List Oper) (o : Oper) (s : St) (f : HF) : Option (St × HF) :=
  match hWanted f ops o s with
  | none => none
  | some (false, s1) => (f.put o.dst undef).map fun f' => (s1, f')
  | some (true, s1) => match hop P s1 (f.ev s1) o with
    | some r => hact call o f r
    | none => none

theorem hact_sound {call : HCall} (hc : CallOK P call) {o : Oper} {s' : St} {f' : HF} {r : HN × St} (ha : AR μ f a)
    (hs : hact call o f r = some (s', f')) : r.2.sub s' ∧ (SOK s' → Sim w0 μ w ((execOp a.eval o).run P w) r → ∀ {K : Act → World → Prop} {Q : Exit → Act → World → Prop},
    (∀ (v' : Value) (w' : World) (μ' : Mu), μ.le μ' → R w0 μ' s' w' → AR μ' f' (a.put o.dst v') → K (a.put o.dst v') w') → o.wp P a w K Q) := by
  unfold hact at hs
  split at hs
  · rename_i v s2
    simp only [Option.map_eq_some_iff, Prod.mk.injEq] at hs
    obtain ⟨f2, hf2, rfl, rfl⟩ := hs
    refine ⟨St.sub_refl _, fun _ hsim K Q hK => ?_⟩
    obtain ⟨v', w', μ', k1, k2, k3, k4⟩ := hsim
    unfold Oper.wp
    rw [k1, Oper.upon_value]
    exact hK _ _ _ k2 k3 (put_sound (ha.mono k2) k4 hf2)
  · rename_i s2
    simp only [Option.map_eq_some_iff, Prod.mk.injEq] at hs
    obtain ⟨f2, hf2, rfl, rfl⟩ := hs
    refine ⟨St.sub_refl _, fun _ hsim K Q hK => ?_⟩
    obtain ⟨w', μ', k1, k2, k3⟩ := hsim
    unfold Oper.wp
    rw [k1, Oper.upon_skip]
    exact hK _ _ _ k2 k3 (put_sound (ha.mono k2) undef_vr hf2)
  · rename_i g args s2
    split at hs
    · rename_i v s3 hcall
      simp only [Option.map_eq_some_iff, Prod.mk.injEq] at hs
      obtain ⟨f2, hf2, rfl, rfl⟩ := hs
      obtain ⟨c1, c2⟩ := hc _ _ _ _ _ hcall
      refine ⟨c1, fun ok hsim K Q hK => ?_⟩
      obtain ⟨args', k1, k2, k3⟩ := hsim
      unfold Oper.wp
      rw [k1, Oper.upon_enter]
      refine (c2 ok w0 μ w args' k2 k3).mono fun e w' ⟨v', μ', e1, e2, e3, e4⟩ => ?_
      subst e1
      exact hK _ _ _ e2 e3 (put_sound (ha.mono e2) e4 hf2)
    · cases hs
  · cases hs

theorem hact_sub {call : HCall} (hc : CallOK P call) {o : Oper} {s' : St} {f' : HF} {r : HN × St} (hs : hact call o f r = some (s', f')) : r.2.sub s' := by
  unfold hact at hs
  split at hs
  · simp only [Option.map_eq_some_iff, Prod.mk.injEq] at hs
    obtain ⟨f2, hf2, rfl, rfl⟩ := hs
    exact St.sub_refl _
  · simp only [Option.map_eq_some_iff, Prod.mk.injEq] at hs
    obtain ⟨f2, hf2, rfl, rfl⟩ := hs
    exact St.sub_refl _
  · split at hs
    · rename_i v s3 hcall
      simp only [Option.map_eq_some_iff, Prod.mk.injEq] at hs
      obtain ⟨f2, hf2, rfl, rfl⟩ := hs
      exact (hc _ _ _ _ _ hcall).1
    · cases hs
  · cases hs

theorem hstep_sound (hg : NoG P) {call : HCall} (hc : CallOK P call) {ops : Array Oper} {o : Oper} {s' : St} {f' : HF} (h : R w0 μ s w) (ha : AR μ f a)
    (hs : hstep P call ops.toList o s f = some (s', f')) : s.sub s' ∧ (SOK s' → ∀ {K : Act → World → Prop} {Q : Exit → Act → World → Prop},
    (∀ (v' : Value) (w' : World) (μ' : Mu), μ.le μ' → R w0 μ' s' w' → AR μ' f' (a.put o.dst v') → K (a.put o.dst v') w') →
    if Region.wanted o (yielded ops a.tmps) then o.wp P a w K Q else K (a.put o.dst undef) w) := by
  unfold hstep at hs
  split at hs
  · cases hs
  · rename_i s1 hw
    obtain ⟨q1, q2⟩ := wanted_sound ha hw
    simp only [Option.map_eq_some_iff, Prod.mk.injEq] at hs
    obtain ⟨f2, hf2, rfl, rfl⟩ := hs
    refine ⟨q1.sub, fun ok K Q hK => ?_⟩
    rw [q2 ok, if_neg (by simp)]
    exact hK _ _ _ (Mu.le_refl _) (h.like q1) (put_sound ha undef_vr hf2)
  · rename_i s1 hw
    obtain ⟨q1, q2⟩ := wanted_sound ha hw
    split at hs
    · rename_i r ho
      obtain ⟨p1, p2⟩ := hop_sound hg (h.like q1) (ev_sound (h.like q1) ha) ho
      obtain ⟨r1, r2⟩ := hact_sound (w0 := w0) (w := w) hc ha hs
      refine ⟨St.sub_trans q1.sub (St.sub_trans p1 r1), fun ok K Q hK => ?_⟩
      have ok1 := SOK.of_sub r1 ok
      rw [q2 (SOK.of_sub p1 ok1), if_pos rfl]
      exact r2 ok (p2 ok1) hK
    · cases hs

/-! ### A region in the order of the text -/
/-- A 'defer', or what it may be else. -/
def hstepD (P : Program) (call : HCall) (ops : List Oper) (o : Oper) (s : St) (f : HF) : Option (St × HF) :=
  match hWanted f ops o s with
  | none => none
  | some (false, s1) => (f.put o.dst undef).map fun f' => (s1, f')
  | some (true, s1) => match hop P s1 (f.ev s1) o with
    | some (.dfr d, s') => (({ f with ds := d :: f.ds } : HF).put o.dst undef).map fun f' => (s', f')
    | some r => hact call o f r
    | none => none

def hops (P : Program) (call : HCall) (ops : List Oper) : List Oper → St → HF → Option (St × HF)
  | [], s, f => some (s, f)
  | o :: rest, s, f => match hstepD P call ops o s f with
    | some (s', f') => hops P call ops rest s' f'
    | none => none

theorem hstepD_sound (hg : NoG P) {call : HCall} (hc : CallOK P call) {ops : Array Oper} {o : Oper} {s' : St} {f' : HF} (h : R w0 μ s w) (ha : AR μ f a)
    (hs : hstepD P call ops.toList o s f = some (s', f')) : s.sub s' ∧ (SOK s' → ∀ {K : Act → World → Prop} {Q : Exit → Act → World → Prop},
    (∀ (a' : Act) (w' : World) (μ' : Mu), μ.le μ' → R w0 μ' s' w' → AR μ' f' a' → K a' w') →
    if Region.wanted o (yielded ops a.tmps) then o.wp P a w K Q else K (a.put o.dst undef) w) := by
  unfold hstepD at hs
  split at hs
  · cases hs
  · rename_i s1 hw
    obtain ⟨q1, q2⟩ := wanted_sound ha hw
    simp only [Option.map_eq_some_iff, Prod.mk.injEq] at hs
    obtain ⟨f2, hf2, rfl, rfl⟩ := hs
    refine ⟨q1.sub, fun ok K Q hK => ?_⟩
    rw [q2 ok, if_neg (by simp)]
    exact hK _ _ _ (Mu.le_refl _) (h.like q1) (put_sound ha undef_vr hf2)
  · rename_i s1 hw
    obtain ⟨q1, q2⟩ := wanted_sound ha hw
    split at hs
    · rename_i d s2 ho
      obtain ⟨p1, p2⟩ := hop_sound hg (h.like q1) (ev_sound (h.like q1) ha) ho
      simp only [Option.map_eq_some_iff, Prod.mk.injEq] at hs
      obtain ⟨f2, hf2, rfl, rfl⟩ := hs
      refine ⟨St.sub_trans q1.sub p1, fun ok K Q hK => ?_⟩
      rw [q2 (SOK.of_sub p1 ok), if_pos rfl]
      obtain ⟨cap', args', k1, k2, k3, k4⟩ := p2 ok
      unfold Oper.wp
      rw [k1, Oper.upon_defer]
      have ha2 : AR μ { f with ds := d :: f.ds } { a with defers := { target := .fn d.fn ⟨cap'⟩, args := ⟨args'⟩ } :: a.defers } := ⟨ha.size, ha.vals, .cons k3 k4 ha.ds⟩
      exact hK _ _ _ (Mu.le_refl _) k2 (put_sound ha2 undef_vr hf2)
    · rename_i r _ ho
      obtain ⟨p1, p2⟩ := hop_sound hg (h.like q1) (ev_sound (h.like q1) ha) ho
      obtain ⟨r1, r2⟩ := hact_sound (w0 := w0) (w := w) hc ha hs
      refine ⟨St.sub_trans q1.sub (St.sub_trans p1 r1), fun ok K Q hK => ?_⟩
      have ok1 := SOK.of_sub r1 ok
      rw [q2 (SOK.of_sub p1 ok1), if_pos rfl]
      exact r2 ok (p2 ok1) fun v' w' μ' => hK _ w' μ'
    · cases hs

/-- What has been taken for granted stays so (whatever the world). -/
theorem hWanted_like {ops : List Oper} {o : Oper} {b : Bool} {s' : St} (h : hWanted f ops o s = some (b, s')) : s.like s' := by
  unfold hWanted at h
  split at h
  · cases h; exact s.like_refl
  · split at h
    · cases h; exact s.like_refl
    · split at h
      · cases h; exact s.like_refl
      · obtain ⟨_, h⟩ := bif_some h
        split at h
        · exact (popB_like h).1
        · cases h; exact s.like_refl
        · cases h

theorem mapf_sub {s s' : St} {x : Option HF} {f' : HF} (h : (x.map fun f => (s, f)) = some (s', f')) : s.sub s' := by
  simp only [Option.map_eq_some_iff, Prod.mk.injEq] at h
  obtain ⟨_, _, rfl, _⟩ := h
  exact s.sub_refl
theorem hstep_sub {call : HCall} (hc : CallOK P call) {ops : List Oper} {o : Oper} {s' : St} {f' : HF} (hs : hstep P call ops o s f = some (s', f')) : s.sub s' := by
  unfold hstep at hs
  split at hs
  · cases hs
  · rename_i s1 hw
    exact St.sub_trans (hWanted_like hw).sub (mapf_sub hs)
  · rename_i s1 hw
    split at hs
    · rename_i r ho
      obtain ⟨r1, r2⟩ := r
      exact St.sub_trans (hWanted_like hw).sub (St.sub_trans (hop_sub ho) (hact_sub hc hs))
    · cases hs
theorem hstepD_sub {call : HCall} (hc : CallOK P call) {ops : List Oper} {o : Oper} {s' : St} {f' : HF} (hs : hstepD P call ops o s f = some (s', f')) : s.sub s' := by
  unfold hstepD at hs
  split at hs
  · cases hs
  · rename_i s1 hw
    exact St.sub_trans (hWanted_like hw).sub (mapf_sub hs)
  · rename_i s1 hw
    split at hs
    · rename_i d s2 ho
      exact St.sub_trans (hWanted_like hw).sub (St.sub_trans (hop_sub ho) (mapf_sub hs))
    · rename_i r _ ho
      obtain ⟨r1, r2⟩ := r
      exact St.sub_trans (hWanted_like hw).sub (St.sub_trans (hop_sub ho) (hact_sub hc hs))
    · cases hs
theorem hops_sub {call : HCall} (hc : CallOK P call) {ops : List Oper} : ∀ (l : List Oper) (s s' : St) (f f' : HF), hops P call ops l s f = some (s', f') → s.sub s' := by
  intro l
  induction l with
  | nil => intro s s' f f' h; cases h; exact s.sub_refl
  | cons o rest ih =>
    intro s s' f f' h
    simp only [hops] at h
    split at h
    · rename_i s1 f1 h1; exact St.sub_trans (hstepD_sub hc h1) (ih _ _ _ _ h)
    · cases h

theorem hops_sound (hg : NoG P) {call : HCall} (hc : CallOK P call) {ops : Array Oper} {μ0 : Mu} : ∀ (l : List Oper) (μ : Mu) (s s' : St) (w : World) (f f' : HF) (a : Act),
    μ0.le μ → R w0 μ s w → AR μ f a → hops P call ops.toList l s f = some (s', f') → SOK s' → wpList P ops (Post w0 μ0 .normal s' f') l a w := by
  intro l
  induction l with
  | nil =>
    intro μ s s' w f f' a hμ h ha hr _
    simp only [hops, Option.some.injEq, Prod.mk.injEq] at hr
    obtain ⟨rfl, rfl⟩ := hr
    exact ⟨rfl, μ, hμ, h, ha⟩
  | cons o rest ih =>
    intro μ s s' w f f' a hμ h ha hr ok
    simp only [hops] at hr
    split at hr
    · rename_i s1 f1 hs1
      refine wpList_step fun K hK => ?_
      obtain ⟨q1, q2⟩ := hstepD_sound (w0 := w0) hg hc h ha hs1
      exact q2 (SOK.of_sub (hops_sub hc _ _ _ _ _ hr) ok) fun a' w' μ' k1 k2 k3 => hK _ _ (ih μ' _ s' w' _ f' _ (Mu.le_trans hμ k1) k2 k3 hr ok)
    · cases hr

/-! ### Locks around one operation -/
def lockAll (s : St) : List (Nat × Option Nat) → Option (St × List (Nat × HObj))
  | [] => some (s, [])
  | (_, none) :: l => lockAll s l
  | (_, some z) :: l => match s.h.get z with
    | some o => match lockO o with
      | some o' => match Tr.set 64 s.h z o' with
        | some t => match lockAll { s with h := t } l with
          | some (s', r) => some (s', (z, o) :: r)
          | none => none
        | none => none
      | none => match o with
        | .ro _ => lockAll s l
        | .lk _ _ => lockAll s l
        | .rm _ _ => lockAll s l
        | _ => none
    | none => none

def unlockAll (s : St) : List (Nat × HObj) → Option St
  | [] => some s
  | (z, o) :: l => match unlockAll s l with
    | some s' => match Tr.set 64 s'.h z o with
      | some t => some { s' with h := t }
      | none => none
    | none => none

theorem lockAll_pc : ∀ (l : List (Nat × Option Nat)) (s s1 : St) (r : List (Nat × HObj)), lockAll s l = some (s1, r) → s1.pc = s.pc := by
  intro l
  induction l with
  | nil => intro s s1 r h; cases h; rfl
  | cons x l ih =>
    obtain ⟨i, z⟩ := x
    intro s s1 r h
    cases z with
    | none => exact ih _ _ _ h
    | some z =>
      simp only [lockAll] at h
      split at h
      · split at h
        · split at h
          · split at h
            · rename_i hl
              cases h
              have := ih _ _ _ hl
              exact this
            · cases h
          · cases h
        · split at h
          · exact ih _ _ _ h
          · exact ih _ _ _ h
          · exact ih _ _ _ h
          · cases h
      · cases h
theorem unlockAll_pc : ∀ (r : List (Nat × HObj)) (s s1 : St), unlockAll s r = some s1 → s1.pc = s.pc := by
  intro r
  induction r with
  | nil => intro s s1 h; cases h; rfl
  | cons x r ih =>
    obtain ⟨z, o⟩ := x
    intro s s1 h
    simp only [unlockAll] at h
    split at h
    · rename_i s2 hl
      split at h
      · cases h; exact (ih s s2 hl)
      · cases h
    · cases h

theorem lockAll_sound : ∀ (l : List (Nat × Option Nat)) (w0 : Base) (s s1 : St) (r : List (Nat × HObj)), R w0 μ s w → lockAll s l = some (s1, r) →
    ∃ w1 : Base, R w1 μ s1 w ∧ (∀ w' : World, w1.ok w' → w0.ok w' ∧ ∀ x ∈ l, ∀ i p, x.2 = some i → μ i = some p → (w'.heap[p.blk]? = w.heap[p.blk]? ∨ ∃ O, μ.fz p.blk = some O)) ∧
      ∀ (μ' : Mu) (s2 s3 : St) (w' : World), μ.le μ' → R w1 μ' s2 w' → unlockAll s2 r = some s3 → R w0 μ' s3 w' := by
  intro l
  induction l with
  | nil =>
    intro w0 s s1 r h hr
    cases hr
    exact ⟨w0, h, fun w' hw => ⟨hw, fun x hx => by cases hx⟩, fun μ' s2 s3 w' _ h' hu => by cases hu; exact h'⟩
  | cons x l ih =>
    obtain ⟨i, z⟩ := x
    intro w0 s s1 r h hr
    cases z with
    | none =>
      simp only [lockAll] at hr
      obtain ⟨w1, k1, k2, k3⟩ := ih w0 s s1 r h hr
      refine ⟨w1, k1, fun w' hw => ?_, k3⟩
      obtain ⟨m1, m2⟩ := k2 w' hw
      refine ⟨m1, fun x hx j q hj hq => ?_⟩
      rcases List.mem_cons.1 hx with rfl | hx
      · cases hj
      · exact m2 x hx j q hj hq
    | some z =>
    simp only [lockAll] at hr
    split at hr
    · rename_i o ho
      split at hr
      · rename_i o' ho'
        split at hr
        · rename_i t ht
          split at hr
          · rename_i s' r' hl
            cases hr
            have hp : ∃ p, μ z = some p := by
              rcases lockO_cases ho' with ⟨op, c, e, rfl, rfl⟩ | ⟨es, k, rfl, rfl⟩
              · obtain ⟨p, _, h1, _⟩ := h.row z _ _ _ ho; exact ⟨p, h1⟩
              · obtain ⟨p, _, h1, _⟩ := h.map z _ _ ho; exact ⟨p, h1⟩
            obtain ⟨p, hp⟩ := hp
            have hb := h.blk_lt ho ho' hp
            have hL := h.lock ho ho' ht hp hb
            obtain ⟨w1, k1, k2, k3⟩ := ih _ _ _ _ hL hl
            refine ⟨w1, k1, fun w' hw => ?_, fun μ' s2 s3 w' hle h' hu => ?_⟩
            · obtain ⟨m1, m2⟩ := k2 w' hw
              refine ⟨m1.1, fun x hx j q hj hq => ?_⟩
              rcases List.mem_cons.1 hx with rfl | hx
              · cases hj
                rw [hp] at hq; cases hq
                exact .inl m1.2.2
              · exact m2 x hx j q hj hq
            · simp only [unlockAll] at hu
              split at hu
              · rename_i s4 hs4
                split at hu
                · rename_i t2 ht2
                  cases hu
                  exact h.unlock ho ho' hp hb (k3 μ' s2 s4 w' hle h' hs4) hle ht2
                · cases hu
              · cases hu
          · cases hr
        · cases hr
      · have skip : ∀ (hh : lockAll s l = some (s1, r)) (hs : ∀ w' : World, w0.ok w' → ∀ p, μ z = some p → (w'.heap[p.blk]? = w.heap[p.blk]? ∨ ∃ O, μ.fz p.blk = some O)), ∃ w1 : Base, R w1 μ s1 w ∧
            (∀ w' : World, w1.ok w' → w0.ok w' ∧ ∀ x ∈ (i, some z) :: l, ∀ i p, x.2 = some i → μ i = some p → (w'.heap[p.blk]? = w.heap[p.blk]? ∨ ∃ O, μ.fz p.blk = some O)) ∧
            ∀ (μ' : Mu) (s2 s3 : St) (w' : World), μ.le μ' → R w1 μ' s2 w' → unlockAll s2 r = some s3 → R w0 μ' s3 w' := by
          intro hh hs
          obtain ⟨w1, k1, k2, k3⟩ := ih _ _ _ _ h hh
          refine ⟨w1, k1, fun w' hw => ?_, k3⟩
          obtain ⟨m1, m2⟩ := k2 w' hw
          refine ⟨m1, fun x hx j q hj hq => ?_⟩
          rcases List.mem_cons.1 hx with rfl | hx
          · cases hj
            exact hs w' m1 q hq
          · exact m2 x hx j q hj hq
        split at hr
        · refine skip hr fun w' hw p hp => ?_
          obtain ⟨q, cur, e, fr, h1, h2, _⟩ := h.ro z _ ho
          rw [hp] at h1; cases h1
          exact .inr ⟨_, h2⟩
        · refine skip hr fun w' hw p hp => ?_
          obtain ⟨q, cur, e, h1, h2, _⟩ := h.lk z _ _ ho
          rw [hp] at h1; cases h1
          exact .inl (w0.lkok _ _ _ _ h.below hw h2)
        · refine skip hr fun w' hw p hp => ?_
          obtain ⟨q, _, h1, h2, _⟩ := h.rm z _ _ ho
          rw [hp] at h1; cases h1
          exact .inl (w0.lkok _ _ _ _ h.below hw h2)
        · cases hr
    · cases hr

/-! ### A slot beside -/
def putx : Option (Option Tmp × Value) → Act → Act
  | none, a => a
  | some (d, v), a => a.put d v

def apartx (ops : Array Oper) (o : Oper) : Option (Option Tmp × Value) → Prop
  | none => True
  | some (d, _) => (∀ e, d = some e → e ∉ o.looksAt ops) ∧ (∀ e, o.dst = some e → d ≠ some e)

theorem execOp_putx {ops : Array Oper} {o : Oper} (hs : ∀ cs b, o.op ≠ .select cs b) {x : Option (Option Tmp × Value)} (hx : apartx ops o x) (a : Act) : execOp (putx x a).eval o = execOp a.eval o := by
  cases x with
  | none => rfl
  | some x => exact execOp_put (ops := ops) o hs a x.1 x.2 hx.1

theorem wanted_putx {ops : Array Oper} {o : Oper} {x : Option (Option Tmp × Value)} (hx : apartx ops o x) (a : Act) : Region.wanted o (yielded ops (putx x a).tmps) = Region.wanted o (yielded ops a.tmps) := by
  cases x with
  | none => rfl
  | some x => exact wanted_put o a x.1 x.2 hx.1

theorem put_putx {ops : Array Oper} {o : Oper} {x : Option (Option Tmp × Value)} (hx : apartx ops o x) (a : Act) (v : Value) : (putx x a).put o.dst v = putx x (a.put o.dst v) := by
  cases x with
  | none => rfl
  | some x => exact (Act.put_comm a v x.2 hx.2).symm

theorem wp_putx {ops : Array Oper} {o : Oper} (hs : ∀ cs b, o.op ≠ .select cs b) {x : Option (Option Tmp × Value)} (hx : apartx ops o x) {K : Act → World → Prop} {Q : Exit → Act → World → Prop}
    (hd : ∀ d (a : Act), putx x { a with defers := d :: a.defers } = { putx x a with defers := d :: (putx x a).defers })
    (h : o.wp P a w (fun a' w' => K (putx x a') w') (fun e a' w' => Q e (putx x a') w')) : o.wp P (putx x a) w K Q := by
  unfold Oper.wp at *
  rw [execOp_putx hs hx]
  generalize (execOp a.eval o).run P w = r at *
  cases r with
  | ok n w' =>
    cases n <;> simp only [Oper.upon] at h ⊢
    case value u => rw [put_putx hx]; exact h
    case skip => rw [put_putx hx]; exact h
    case defer d =>
      rw [← hd, put_putx (a := { a with defers := d :: a.defers }) hx]
      exact h
    case enter f args =>
      refine Calls.mono h fun e w'' he => ?_
      cases e with
      | returned u => dsimp only at he ⊢; rw [put_putx hx]; exact he
      | panicked c => exact he
      | outgrown => exact let ⟨a, w, q⟩ := he; ⟨_, w, q⟩
    case row row args => exact Rows.mono h fun u w'' he => by rw [put_putx hx]; exact he
  | halt hh w' =>
    cases hh <;> simp only [Oper.upon] at h ⊢
    case panic v => exact h

theorem putx_defers (x : Option (Option Tmp × Value)) (d : Deferred) (a : Act) : putx x { a with defers := d :: a.defers } = { putx x a with defers := d :: (putx x a).defers } := by
  cases x with
  | none => rfl
  | some x =>
    obtain ⟨t, v⟩ := x
    cases t <;> rfl

end
end Go.Hx

namespace Go.Hx
open Go Go.RowKit

inductive PK where
  | pure
  | alloc
  | act

def opKind : Op → PK
  | .move _ => .pure
  | .assign _ => .pure
  | .pick _ _ _ => .pure
  | .nilCheck _ => .pure
  | .load _ _ => .pure
  | .lookup _ _ _ _ => .pure
  | .binOp _ _ _ _ _ => .pure
  | .unOp _ _ _ => .pure
  | .convert _ _ _ => .pure
  | .fieldAddr _ _ _ => .pure
  | .field _ _ _ => .pure
  | .indexAddr _ _ _ => .pure
  | .index _ _ _ => .pure
  | .extract _ _ => .pure
  | .makeInterface _ _ => .pure
  | .makeFunc _ _ _ => .pure
  | .slice _ _ _ _ _ => .pure
  | .call c => match c.callee with
    | .builtin .len => .pure
    | _ => .act
  | .alloc _ => .alloc
  | .makeMap _ none => .alloc
  | _ => .act

def isK (ops : Array Oper) (i : Nat) (k : PK → Bool) : Bool :=
  match ops[i]? with
  | some o => k (opKind o.op)
  | none => false

def stOf (ops : Array Oper) (i : Nat) : Bool := isK ops i fun | .act => true | _ => false
def pureOf (ops : Array Oper) (i : Nat) : Bool := isK ops i fun | .pure => true | _ => false
def allocOf (ops : Array Oper) (i : Nat) : Bool := isK ops i fun | .alloc => true | _ => false

inductive PS where
  | take (i : Nat)
  | st (c : Nat)
  | commit (k : Nat)

def plan (ops : Array Oper) : Nat → Array Bool → List PS
  | 0, _ => []
  | n + 1, L =>
    match (Region.ready .any ops L).find? (fun i => pureOf ops i && Region.free .any ops L i) with
    | some i => .take i :: plan ops n (L.setIfInBounds i true)
    | none =>
      match (Region.ready .any ops L).filter (allocOf ops), (Region.ready .any ops L).filter (fun i => !allocOf ops i) with
      | [], [c] => .st c :: plan ops n (L.setIfInBounds c true)
      | [_], [c] => .st c :: plan ops n (L.setIfInBounds c true)
      | [a], [] => .commit a :: plan ops n (L.setIfInBounds a true)
      | _, _ => []

def firstCommit : List PS → Option Nat
  | [] => none
  | .commit k :: _ => some k
  | _ :: l => firstCommit l

def oneOf (c : Nat) (ka : Option Nat) (j : Nat) : Bool := Nat.beq j c || (match ka with | some k => Nat.beq j k | none => false)

def okTake (ops : Array Oper) (ka : Option Nat) (L : Array Bool) (i : Nat) : Bool :=
  (Region.ready .any ops L).contains i && Region.free .any ops L i && !stOf ops i && ((List.range ops.size).all fun c => !(stOf ops c && L.getD c false && Region.waitsFor .any ops c i)) &&
  (match ka with | some k => !Nat.beq k i && !Region.waitsFor .any ops k i | none => true)

def okSt (ops : Array Oper) (ka : Option Nat) (L : Array Bool) (c : Nat) : Bool :=
  stOf ops c && (Region.ready .any ops L).contains c && (Region.ready .any ops L).all (oneOf c ka) &&
  (match ka with
   | some k => !Nat.beq k c && (Region.ready .any ops (L.setIfInBounds k true)).all (oneOf c none) && (match ops[c]?, ops[k]? with | some oc, some ok => oc.apart ops ok | _, _ => false)
   | none => true)

def heldB (s : St) (z : Nat) : Bool :=
  match s.h.get z with
  | some (.row _ _ _) => true
  | some (.ro _) => true
  | some (.lk _ _) => true
  | some (.map _ _) => true
  | some (.rm _ _) => true
  | some (.omap _) => true
  | some (.dmap _ _) => true
  | some (.kmap _ _) => true
  | _ => false
def heldO (s : St) : Option (Option Nat) → Bool
  | some (some z) => heldB s z
  | _ => true
def pendO (i : Nat) (pend : List (Nat × Option Nat)) : Option (Option Nat) → List (Nat × Option Nat)
  | some z => (i, z) :: pend
  | none => pend

def hphase (P : Program) (call : HCall) (ops : Array Oper) (ka : Option Nat) : List PS → Array Bool → List (Nat × Option Nat) → St → HF → Option (List PS × Array Bool × List (Nat × Option Nat) × St × HF)
  | .take i :: r, L, pend, s, f => match ops[i]? with
    | none => none
    | some o => bif okTake ops ka L i then
        match hWanted f ops.toList o s with
        | none => none
        | some (false, s1) => match f.put o.dst undef with
          | some f' => hphase P call ops ka r (L.setIfInBounds i true) pend s1 f'
          | none => none
        | some (true, s1) => match hstill P s1 (f.ev s1) o with
          | some (v, z, s2) => match f.put o.dst v with
            | some f' => bif heldO s2 z then hphase P call ops ka r (L.setIfInBounds i true) (pendO i pend z) s2 f' else none
            | none => none
          | none => none
      else none
  | .st c :: r, L, pend, s, f => match ops[c]? with
    | none => none
    | some o => bif okSt ops ka L c then
        match lockAll s (pend.filter fun x => !Region.waitsFor .any ops c x.1) with
        | some (s1, rs) => match hstep P call ops.toList o s1 f with
          | some (s2, f2) => match unlockAll s2 rs with
            | some s3 => hphase P call ops ka r (L.setIfInBounds c true) (pend.filter fun x => !Region.waitsFor .any ops c x.1) s3 f2
            | none => none
          | none => none
        | none => none
      else none
  | l, L, pend, s, f => some (l, L, pend, s, f)

section
variable {w0 : Base} {μ : Mu} {s : St} {w : World} {P : Program} {ops : Array Oper} {Q : Exit → Act → World → Prop}

/-- What a pending load is: its number, whose block, what the block holds. -/
def Sp (ops : Array Oper) (pc : List (Nat × Nat × Option Obj)) (l : Array Bool) (w : World) : Prop := ∀ y ∈ pc, conf .any ops (stOf ops) y.1 l ∨ w.heap[y.2.1]? = y.2.2

/-- A block is an object's, or a frozen one. -/
def BlkZ (μ : Mu) : Option Nat → Nat → Prop
  | some z, b => ∃ p, μ z = some p ∧ p.blk = b
  | none, b => ∃ O, μ.fz b = some O
theorem BlkZ.mono {ν : Mu} (hl : μ.le ν) {z : Option Nat} {b : Nat} (h : BlkZ μ z b) : BlkZ ν z b := by
  cases z with
  | none => obtain ⟨O, h⟩ := h; exact ⟨O, hl.fz _ _ h⟩
  | some z => obtain ⟨p, h1, h2⟩ := h; obtain ⟨q, k1, k2⟩ := hl.pl _ _ h1; exact ⟨q, k1, k2.blk.trans h2⟩

inductive PCR (μ : Mu) : List (Nat × Option Nat) → List (Nat × Nat × Option Obj) → Prop
  | nil : PCR μ [] []
  | cons {i : Nat} {z : Option Nat} {b : Nat} {O : Option Obj} {l : List (Nat × Option Nat)} {l' : List (Nat × Nat × Option Obj)} (h : BlkZ μ z b) (t : PCR μ l l') : PCR μ ((i, z) :: l) ((i, b, O) :: l')

theorem PCR.mono {ν : Mu} (hl : μ.le ν) {l : List (Nat × Option Nat)} {l' : List (Nat × Nat × Option Obj)} (h : PCR μ l l') : PCR ν l l' := by
  induction h with
  | nil => exact .nil
  | cons h _ ih => exact .cons (h.mono hl) ih

theorem PCR.filter (q : Nat → Bool) {l : List (Nat × Option Nat)} {l' : List (Nat × Nat × Option Obj)} (h : PCR μ l l') : PCR μ (l.filter fun x => q x.1) (l'.filter fun x => q x.1) := by
  induction h with
  | nil => exact .nil
  | @cons i z p O l l' h t ih =>
    simp only [List.filter_cons]
    split
    · exact .cons h ih
    · exact ih

theorem PCR.mem {l : List (Nat × Option Nat)} {l' : List (Nat × Nat × Option Obj)} (h : PCR μ l l') : ∀ y ∈ l', ∃ x ∈ l, x.1 = y.1 ∧ BlkZ μ x.2 y.2.1 := by
  induction h with
  | nil => intro y hy; cases hy
  | @cons i z p O l l' h t ih =>
    intro y hy
    rcases List.mem_cons.1 hy with rfl | hy
    · exact ⟨_, List.mem_cons_self .., rfl, h⟩
    · obtain ⟨x, h1, h2⟩ := ih y hy
      exact ⟨x, List.mem_cons_of_mem _ h1, h2⟩

/-- What is listed, with the alloc or without. -/
def Lx (kx : Option Nat) (L : Array Bool) : Array Bool := match kx with | some k => L.setIfInBounds k true | none => L

theorem Lx_set (kx : Option Nat) (L : Array Bool) (i : Nat) : Lx kx (L.setIfInBounds i true) = (Lx kx L).setIfInBounds i true := by
  cases kx with
  | none => rfl
  | some k =>
    simp only [Lx]
    by_cases h : i = k
    · subst h; rfl
    · rw [Array.setIfInBounds_comm _ _ h]

theorem Lx_size (kx : Option Nat) (L : Array Bool) : (Lx kx L).size = L.size := by
  cases kx <;> simp [Lx]

/-- All that is asked of a moment. -/
structure Mom (w0 : Base) (ops : Array Oper) (kx : Option Nat) (L : Array Bool) (pend : List (Nat × Option Nat)) (s : St) (f : HF) (pc : List (Nat × Nat × Option Obj)) (μ : Mu) (a : Act) (w : World) (fuel : Nat) : Prop where
  size : L.size = ops.size
  fuel : ops.size ≤ fuel + cnt (Lx kx L).toList
  pcr : PCR μ pend pc
  sp : Sp ops pc (Lx kx L) w
  r : R w0 μ s w
  ar : AR μ f a
  ex : ∀ y ∈ pc, y.2.2 ≠ none

theorem held_lt (h : R w0 μ s w) {z : Nat} (hz : heldB s z = true) {p : Place} (hp : μ z = some p) : p.blk < w.heap.size := by
  unfold heldB at hz
  split at hz
  · rename_i ho; exact h.blk_lt ho rfl hp
  · rename_i ho
    obtain ⟨q, cur, e, fr, h1, h2, h3, _⟩ := h.ro _ _ ho
    rw [hp] at h1; cases h1
    exact block_lt h3
  · rename_i ho
    obtain ⟨q, cur, e, h1, h2, h3, _⟩ := h.lk _ _ _ ho
    rw [hp] at h1; cases h1
    exact block_lt h3
  · rename_i ho; exact h.blk_lt ho rfl hp
  · rename_i ho
    obtain ⟨q, _, h1, h2, h3, _⟩ := h.rm _ _ _ ho
    rw [hp] at h1; cases h1
    exact block_lt h3
  · rename_i ho
    obtain ⟨q, _, _, h1, h2, _⟩ := h.omap _ _ ho
    rw [hp] at h1; cases h1
    exact block_lt h2
  · rename_i ho
    obtain ⟨q, _, _, h1, h2, _⟩ := h.dmap _ _ _ ho
    rw [hp] at h1; cases h1
    exact block_lt h2
  · rename_i ho
    obtain ⟨q, _, _, h1, _, h2, _⟩ := h.kmap _ _ _ ho
    rw [hp] at h1; cases h1
    exact block_lt h2
  · cases hz

theorem ready_lt {L : Array Bool} {i : Nat} (hs : L.size = ops.size) (hi : i ∈ Region.ready .any ops L) : L.toList[i]? = some false := by
  obtain ⟨h1, o, ho, _⟩ := mem_ready.1 hi
  have hlt : i < L.size := by rw [hs]; exact (Array.getElem?_eq_some_iff.1 ho).1
  simp [hlt] at h1
  simp [hlt, h1]

/-- The continuation after one more has been listed. -/
theorem fuel_step {L : Array Bool} {i fuel : Nat} (hs : L.size = ops.size) (hi : i ∈ Region.ready .any ops L) (hf : ops.size ≤ fuel + cnt L.toList) :
    ∃ f', fuel = f' + 1 ∧ ops.size ≤ f' + cnt (L.setIfInBounds i true).toList := by
  have h1 := ready_lt hs hi
  have h2 := cnt_lt _ _ h1
  have h3 : cnt (L.setIfInBounds i true).toList = cnt L.toList + 1 := by
    rw [Array.toList_setIfInBounds]
    exact cnt_set _ _ h1
  simp only [Array.length_toList] at h2
  exact ⟨fuel - 1, by omega, by rw [h3]; omega⟩

/-- How the alloc that has come up, if one has, stands to the frame. -/
def KX (ops : Array Oper) (kx : Option Nat) (x : Option (Option Tmp × Value)) (L : Array Bool) : Prop :=
  match kx, x with
  | none, none => True
  | some k, some (d, _) => ∃ ok, ops[k]? = some ok ∧ ok.dst = d ∧ L.getD k true = false ∧ stOf ops k = false
  | _, _ => False

theorem KX.set {kx : Option Nat} {x : Option (Option Tmp × Value)} {L : Array Bool} (h : KX ops kx x L) {i : Nat} (hi : ∀ k, kx = some k → k ≠ i) : KX ops kx x (L.setIfInBounds i true) := by
  cases kx with
  | none => cases x <;> simp_all [KX]
  | some k => cases x with
    | none => simp [KX] at h
    | some x =>
      obtain ⟨d, v⟩ := x
      obtain ⟨ok, h1, h2, h3, h4⟩ := h
      exact ⟨ok, h1, h2, by rw [getD_set_ne true (Ne.symm (hi k rfl))]; exact h3, h4⟩

theorem Sp_set {pc : List (Nat × Nat × Option Obj)} {i : Nat} (hi : stOf ops i = false) (l : Array Bool) (w : World) : Sp ops pc (l.setIfInBounds i true) w ↔ Sp ops pc l w :=
  ⟨fun h y hy => (h y hy).imp (conf_set hi l).1 id, fun h y hy => (h y hy).imp (conf_set hi l).2 id⟩

theorem apart_of_free {kx : Option Nat} {x : Option (Option Tmp × Value)} {L : Array Bool} (hk : KX ops kx x L) {i : Nat} {o : Oper} (ho : ops[i]? = some o) (hf : Region.free .any ops L i = true)
    (hi : ∀ k, kx = some k → k ≠ i ∧ Region.waitsFor .any ops k i = false) : apartx ops o x := by
  cases kx with
  | none => cases x <;> simp_all [KX, apartx]
  | some k => cases x with
    | none => simp [KX] at hk
    | some x =>
      obtain ⟨d, v⟩ := x
      obtain ⟨ok, h1, h2, h3, h4⟩ := hk
      obtain ⟨n1, n2⟩ := hi k rfl
      have hno : ∀ e ∈ ok.after, Region.binds .any e = true → e.on ≠ i := fun e he hb heq => by
        have : Region.waitsFor .any ops k i = true := by
          unfold Region.waitsFor
          rw [h1]
          exact Array.any_eq_true'.2 ⟨e, he, by simp [hb, heq]⟩
        rw [this] at n2; cases n2
      have hap := Region.free_spec ho hf k ok h1 n1 h3 hno
      obtain ⟨a1, a2, a3⟩ := Oper.apart_spec hap
      subst h2
      exact ⟨a3, a2⟩

/-- What okTake says. -/
theorem okTake_spec {ka : Option Nat} {L : Array Bool} {i : Nat} (h : okTake ops ka L i = true) :
    i ∈ Region.ready .any ops L ∧ Region.free .any ops L i = true ∧ stOf ops i = false ∧ ¬ conf .any ops (stOf ops) i L ∧ ∀ k, ka = some k → k ≠ i ∧ Region.waitsFor .any ops k i = false := by
  unfold okTake at h
  simp only [Bool.and_eq_true] at h
  obtain ⟨⟨⟨⟨h1, h2⟩, h3⟩, h4⟩, h5⟩ := h
  refine ⟨by simpa using h1, h2, by simpa using h3, ?_, fun k hk => ?_⟩
  · rintro ⟨c, k1, k2, k3⟩
    rw [List.all_eq_true] at h4
    have hc : c < ops.size := by
      unfold stOf isK at k1
      cases ho : ops[c]? with
      | none => rw [ho] at k1; cases k1
      | some o => exact (Array.getElem?_eq_some_iff.1 ho).1
    have := h4 c (List.mem_range.2 hc)
    rw [k1, k2, k3] at this
    cases this
  · subst hk
    simp only [Bool.and_eq_true, Bool.not_eq_true'] at h5
    refine ⟨fun e => ?_, h5.2⟩
    rw [(beq_iff _ _).2 e] at h5
    cases h5.1

theorem take_case {kx ka : Option Nat} {x : Option (Option Tmp × Value)} {L : Array Bool} {i : Nat} {o : Oper} {pend : List (Nat × Option Nat)} {f : HF} {pc : List (Nat × Nat × Option Obj)} {a : Act} {fuel : Nat}
    (hsel : Region.noSelect ops = true) (hQ : ∀ c a w, ¬ Q (.panic c) a w) (ho : ops[i]? = some o) (hok : okTake ops ka L i = true) (hk : KX ops kx x L) (hka : ∀ k, kx = some k → ka = some k)
    (hm : Mom w0 ops kx L pend s f pc μ a w fuel) {v : Value} {T : World → Prop} (hy : YieldsIf P ops T o v a) (hT : T w)
    {pc' : List (Nat × Nat × Option Obj)} {pend' : List (Nat × Option Nat)} {f' : HF} (hpc : PCR μ pend' pc') (hex : ∀ y ∈ pc', y.2.2 ≠ none) (hsp : ∀ l w', (Sp ops pc l w' ∧ (conf .any ops (stOf ops) i l ∨ T w')) ↔ Sp ops pc' l w') (har : AR μ f' (a.put o.dst v))
    (cont : ∀ fuel', Mom w0 ops kx (L.setIfInBounds i true) pend' s f' pc' μ (a.put o.dst v) w fuel' → wpAnyG P .any ops Q (Sp ops pc') fuel' (Lx kx (L.setIfInBounds i true)) (putx x (a.put o.dst v)) w) :
    wpAnyG P .any ops Q (Sp ops pc) fuel (Lx kx L) (putx x a) w := by
  obtain ⟨h1, h2, h3, h4, h5⟩ := okTake_spec hok
  have h5' : ∀ k, kx = some k → k ≠ i ∧ Region.waitsFor .any ops k i = false := fun k hk => h5 k (hka k hk)
  have hap := apart_of_free hk ho h2 h5'
  have hst : ∀ k, kx = some k → stOf ops k = false := fun k hkk => by
    subst hkk
    cases x with
    | none => simp [KX] at hk
    | some x => obtain ⟨ok, _, _, _, e⟩ := hk; exact e
  have hr : i ∈ Region.ready .any ops (Lx kx L) := by
    cases kx with
    | none => exact h1
    | some k => exact ready_mono h1 (Ne.symm (h5' k rfl).1)
  obtain ⟨f0, rfl, hf0⟩ := fuel_step (by rw [Lx_size]; exact hm.size) hr hm.fuel
  have hc : ¬ conf .any ops (stOf ops) i (Lx kx L) := by
    cases kx with
    | none => exact h4
    | some k => exact fun hh => h4 ((conf_set (hst k rfl) L).1 hh)
  have hy' : YieldsIf P ops T o v (putx x a) := hy.of_same (execOp_putx (ops := ops) (fun cs b => Region.noSelect_spec hsel i o cs b ho) hap a) (wanted_putx hap a)
  refine wpAnyG_first ho h3 (Region.noSelect_spec hsel) (fun c a w h => absurd h (hQ _ _ _)) (fun l w' => Sp_set h3 l w') f0 (Lx kx L) (putx x a) w ?_ hr hc hy' hT hm.sp ?_
  · intro j oj hj hji hun hno
    refine Region.free_spec ho h2 j oj hj hji ?_ hno
    cases kx with
    | none => exact hun
    | some k =>
      simp only [Lx] at hun
      by_cases hkj : k = j
      · subst hkj
        have hlt : k < L.size := by rw [hm.size]; exact (Array.getElem?_eq_some_iff.1 hj).1
        simp [hlt] at hun
      · rwa [getD_set_ne true hkj] at hun
  · have hset : (Lx kx L).setIfInBounds i true = Lx kx (L.setIfInBounds i true) := (Lx_set kx L i).symm
    rw [hset, put_putx hap]
    have hsp' : Sp ops pc' (Lx kx (L.setIfInBounds i true)) w := by
      rw [← hset]
      exact (hsp _ _).1 ⟨(Sp_set h3 _ _).2 hm.sp, .inr hT⟩
    have := cont f0 ⟨by simpa using hm.size, by rw [← hset]; exact hf0, hpc, hsp', hm.r, har, hex⟩
    exact wpAnyG_mono (fun l w' h => (hsp l w').2 h) _ _ _ _ this

theorem waits_false {pend : List (Nat × Option Nat)} {pc : List (Nat × Nat × Option Obj)} {c : Nat} (hpc : PCR μ pend pc) {y : Nat × Nat × Option Obj} (hy : y ∈ pc) (hw : Region.waitsFor .any ops c y.1 = false) :
    ∃ x ∈ pend.filter (fun x => !Region.waitsFor .any ops c x.1), BlkZ μ x.2 y.2.1 := by
  obtain ⟨x, h1, h2, h3⟩ := hpc.mem y hy
  exact ⟨x, List.mem_filter.2 ⟨h1, by rw [h2, hw]; rfl⟩, h3⟩

theorem st_branch (hg : NoG P) {call : HCall} (hc : CallOK P call) (hsel : Region.noSelect ops = true) {kx : Option Nat} {x : Option (Option Tmp × Value)} {L : Array Bool} {c : Nat} {o : Oper}
    {pend : List (Nat × Option Nat)} {f f2 : HF} {pc : List (Nat × Nat × Option Obj)} {a : Act} {fuel f0 : Nat} {s1 s2 s3 : St} {rs : List (Nat × HObj)} (ho : ops[c]? = some o) (hap : apartx ops o x) (hst : stOf ops c = true)
    (hm : Mom w0 ops kx L pend s f pc μ a w fuel) (hl : lockAll s (pend.filter fun x => !Region.waitsFor .any ops c x.1) = some (s1, rs)) (hs : hstep P call ops.toList o s1 f = some (s2, f2))
    (hu : unlockAll s2 rs = some s3) (ok : SOK s3) (hf0 : ops.size ≤ f0 + cnt (Lx kx (L.setIfInBounds c true)).toList)
    (cont : ∀ μ' a' w' pc', μ.le μ' → Mom w0 ops kx (L.setIfInBounds c true) (pend.filter fun x => !Region.waitsFor .any ops c x.1) s3 f2 pc' μ' a' w' f0 →
      wpAnyG P .any ops Q (Sp ops pc') f0 (Lx kx (L.setIfInBounds c true)) (putx x a') w') :
    wpOp P ops Q c (fun a' w' => Sp ops pc (Lx kx (L.setIfInBounds c true)) w' ∧ wpAnyG P .any ops Q (Sp ops pc) f0 (Lx kx (L.setIfInBounds c true)) a' w') (putx x a) w := by
  obtain ⟨w1, k1, k2, k3⟩ := lockAll_sound _ w0 s s1 rs hm.r hl
  have hclt : c < L.size := by rw [hm.size]; exact (Array.getElem?_eq_some_iff.1 ho).1
  have hcl : (Lx kx (L.setIfInBounds c true)).getD c false = true := by
    rw [Lx_set]
    have : c < (Lx kx L).size := by rw [Lx_size]; exact hclt
    simp [this]
  have hconf : ∀ l : Array Bool, l.getD c false = true → ∀ i, Region.waitsFor .any ops c i = true → conf .any ops (stOf ops) i l := fun l hl i hi => ⟨c, hst, hl, hi⟩
  have key : ∀ (v' : Value) (w' : World) (μ' : Mu), μ.le μ' → R w1 μ' s2 w' → AR μ' f2 (a.put o.dst v') →
      Sp ops pc (Lx kx (L.setIfInBounds c true)) w' ∧ wpAnyG P .any ops Q (Sp ops pc) f0 (Lx kx (L.setIfInBounds c true)) (putx x (a.put o.dst v')) w' := by
    intro v' w' μ' hle hR hA
    obtain ⟨m1, m2⟩ := k2 w' hR.below
    have hsp : Sp ops pc (Lx kx (L.setIfInBounds c true)) w' := by
      intro y hy
      cases hw : Region.waitsFor .any ops c y.1 with
      | true => exact .inl (hconf _ hcl _ hw)
      | false =>
        rcases hm.sp y hy with hcf | heq
        · rw [Lx_set]; exact .inl (conf_mono hcf)
        · obtain ⟨z, z1, z2⟩ := waits_false hm.pcr hy hw
          have fzc : ∀ O, μ.fz y.2.1 = some O → w'.heap[y.2.1]? = w.heap[y.2.1]? := fun O hO => (hR.fz _ _ (hle.fz _ _ hO)).trans (hm.r.fz _ _ hO).symm
          obtain ⟨zi, zz⟩ := z
          cases zz with
          | none => obtain ⟨O, hO⟩ := z2; exact .inr ((fzc O hO).trans heq)
          | some zz =>
            obtain ⟨p, z3, z4⟩ := z2
            have := m2 _ z1 zz p rfl z3
            rw [z4] at this
            rcases this with this | ⟨O, hO⟩
            · exact .inr (this.trans heq)
            · exact .inr ((fzc O hO).trans heq)
    refine ⟨hsp, ?_⟩
    have hsp' : Sp ops (pc.filter fun y => !Region.waitsFor .any ops c y.1) (Lx kx (L.setIfInBounds c true)) w' := fun y hy => hsp y (List.mem_filter.1 hy).1
    have := cont μ' (a.put o.dst v') w' (pc.filter fun y => !Region.waitsFor .any ops c y.1) hle ⟨by simpa using hm.size, hf0, (hm.pcr.mono hle).filter (fun j => !Region.waitsFor .any ops c j), hsp', k3 μ' s2 s3 w' hle hR hu, hA, fun y hy => hm.ex y (List.mem_filter.1 hy).1⟩
    refine wpAnyG_from (c := c) (fun l w'' hlc h y hy => ?_) f0 _ _ _ hcl this
    cases hw : Region.waitsFor .any ops c y.1 with
    | true => exact .inl (hconf _ hlc _ hw)
    | false => exact h y (List.mem_filter.2 ⟨hy, by rw [hw]; rfl⟩)
  have ok2 : SOK s2 := fun p hp => ok p (by rw [unlockAll_pc _ _ _ hu]; exact hp)
  have hstep := (hstep_sound (w0 := w1) hg hc k1 hm.ar hs).2 ok2 (Q := fun e a' w' => Q e (putx x a') w') (K := fun a' w' => Sp ops pc (Lx kx (L.setIfInBounds c true)) w' ∧ wpAnyG P .any ops Q (Sp ops pc) f0 (Lx kx (L.setIfInBounds c true)) (putx x a') w') key
  have hsel' : ∀ cs b, o.op ≠ .select cs b := fun cs b => Region.noSelect_spec hsel c o cs b ho
  unfold wpOp
  simp only [ho, wanted_putx hap a]
  split
  · rename_i hw
    rw [if_pos hw] at hstep
    exact .inl (wp_putx hsel' hap (putx_defers x) hstep)
  · rename_i hw
    rw [if_neg hw] at hstep
    rw [put_putx hap]
    exact hstep

theorem okSt_spec {ka : Option Nat} {L : Array Bool} {c : Nat} (h : okSt ops ka L c = true) :
    stOf ops c = true ∧ c ∈ Region.ready .any ops L ∧ (∀ j ∈ Region.ready .any ops L, j = c ∨ ka = some j) ∧
    ∀ k, ka = some k → k ≠ c ∧ (∀ j ∈ Region.ready .any ops (L.setIfInBounds k true), j = c) ∧ ∃ oc ok, ops[c]? = some oc ∧ ops[k]? = some ok ∧ oc.apart ops ok = true := by
  unfold okSt at h
  simp only [Bool.and_eq_true] at h
  obtain ⟨⟨⟨h1, h2⟩, h3⟩, h4⟩ := h
  rw [List.all_eq_true] at h3
  refine ⟨h1, by simpa using h2, fun j hj => ?_, fun k hk => ?_⟩
  · have := h3 j hj
    unfold oneOf at this
    rw [Bool.or_eq_true] at this
    rcases this with h | h
    · exact .inl ((beq_iff _ _).1 h)
    · cases ka with
      | none => cases h
      | some k => exact .inr (by rw [(beq_iff _ _).1 h])
  · subst hk
    simp only [Bool.and_eq_true, Bool.not_eq_true'] at h4
    obtain ⟨⟨m1, m2⟩, m3⟩ := h4
    rw [List.all_eq_true] at m2
    refine ⟨fun e => ?_, fun j hj => ?_, ?_⟩
    · rw [(beq_iff _ _).2 e] at m1; cases m1
    · have := m2 j hj
      simpa [oneOf, beq_iff] using this
    · cases hoc : ops[c]? with
      | none => rw [hoc] at m3; cases m3
      | some oc =>
        cases hok : ops[k]? with
        | none => rw [hoc, hok] at m3; cases m3
        | some ok => rw [hoc, hok] at m3; exact ⟨oc, ok, rfl, rfl, m3⟩

theorem apart_of_st {ka kx : Option Nat} {x : Option (Option Tmp × Value)} {L : Array Bool} {c : Nat} {o : Oper} (hok : okSt ops ka L c = true) (hk : KX ops kx x L) (hka : ∀ k, kx = some k → ka = some k) (ho : ops[c]? = some o) : apartx ops o x := by
  obtain ⟨_, _, _, h4⟩ := okSt_spec hok
  cases kx with
  | none => cases x <;> simp_all [KX, apartx]
  | some k => cases x with
    | none => simp [KX] at hk
    | some x =>
      obtain ⟨d, v⟩ := x
      obtain ⟨ok, h1, h2, _, _⟩ := hk
      obtain ⟨_, _, oc, ok', m1, m2, m3⟩ := h4 k (hka k rfl)
      rw [ho] at m1; cases m1
      rw [h1] at m2; cases m2
      obtain ⟨a1, a2, a3⟩ := Oper.apart_spec m3
      subst h2
      exact ⟨a3, a2⟩

theorem hphase_sub {call : HCall} (hc : CallOK P call) {ka : Option Nat} : ∀ (l : List PS) (L : Array Bool) (pend : List (Nat × Option Nat)) (s : St) (f : HF) (r : List PS × Array Bool × List (Nat × Option Nat) × St × HF), hphase P call ops ka l L pend s f = some r → s.sub r.2.2.2.1 := by
  intro l
  induction l with
  | nil => intro L pend s f r h; cases h; exact s.sub_refl
  | cons st l ih =>
    intro L pend s f r h
    cases st with
    | commit k => cases h; exact s.sub_refl
    | take i =>
      simp only [hphase] at h
      split at h
      · cases h
      · obtain ⟨_, h⟩ := bif_some h
        split at h
        · cases h
        · rename_i hw
          split at h
          · exact St.sub_trans (hWanted_like hw).sub (ih _ _ _ _ _ h)
          · cases h
        · rename_i s1 hw
          split at h
          · rename_i v z s2 hv
            split at h
            · obtain ⟨_, h⟩ := bif_some h
              have : s1.sub s2 := by
                unfold hstill at hv
                split at hv
                · rename_i hp; cases hv; exact (hpure_like hp).sub
                · split at hv
                  · split at hv
                    · simp only [Option.map_eq_some_iff, Prod.mk.injEq] at hv
                      obtain ⟨⟨r, s3⟩, hl, _, _, rfl⟩ := hv
                      exact (hLoad_like hl).sub
                    · cases hv
                  · split at hv
                    · simp only [Option.map_eq_some_iff, Prod.mk.injEq] at hv
                      obtain ⟨⟨r, s3⟩, hl, _, _, rfl⟩ := hv
                      exact (hLookup_like hl).sub
                    · simp only [Option.map_eq_some_iff, Prod.mk.injEq] at hv
                      obtain ⟨⟨r, s3⟩, hl, _, _, rfl⟩ := hv
                      exact (hLookup_like hl).sub
                    · cases hv
                  · cases hv
              exact St.sub_trans (hWanted_like hw).sub (St.sub_trans this (ih _ _ _ _ _ h))
            · cases h
          · cases h
    | st c =>
      simp only [hphase] at h
      split at h
      · cases h
      · obtain ⟨_, h⟩ := bif_some h
        split at h
        · rename_i s1 rs hl
          split at h
          · rename_i s2 f2 hs
            split at h
            · rename_i s3 hu
              exact St.sub_trans (St.sub_of (lockAll_pc _ _ _ _ hl)) (St.sub_trans (hstep_sub hc hs) (St.sub_trans (St.sub_of (unlockAll_pc _ _ _ hu)) (ih _ _ _ _ _ h)))
            · cases h
          · cases h
        · cases h

/-- What is shown at the end of a phase is shown at its beginning (no alloc is under way, or it has come up already). -/
theorem phaseA (hg : NoG P) {call : HCall} (hc : CallOK P call) (hsel : Region.noSelect ops = true) (hQ : ∀ c a w, ¬ Q (.panic c) a w) {kx ka : Option Nat} {x : Option (Option Tmp × Value)} (hkk : kx = ka)
    {w0 : Base} {l' : List PS} {L' : Array Bool} {pend' : List (Nat × Option Nat)} {s' : St} {f' : HF} {μ0 : Mu}
    (fin : ∀ μ' a' w' pc' fuel', μ0.le μ' → KX ops kx x L' → Mom w0 ops kx L' pend' s' f' pc' μ' a' w' fuel' → wpAnyG P .any ops Q (Sp ops pc') fuel' (Lx kx L') (putx x a') w')
    (ok : SOK s') : ∀ (l : List PS) (L : Array Bool) (pend : List (Nat × Option Nat)) (s : St) (f : HF) (μ : Mu) (a : Act) (w : World) (pc : List (Nat × Nat × Option Obj)) (fuel : Nat), μ0.le μ → KX ops kx x L →
      Mom w0 ops kx L pend s f pc μ a w fuel → hphase P call ops ka l L pend s f = some (l', L', pend', s', f') → wpAnyG P .any ops Q (Sp ops pc) fuel (Lx kx L) (putx x a) w := by
  subst hkk
  intro l
  induction l with
  | nil =>
    intro L pend s f μ a w pc fuel hμ hk hm hr
    cases hr
    exact fin _ _ _ _ _ hμ hk hm
  | cons st r ih =>
    intro L pend s f μ a w pc fuel hμ hk hm hr
    cases st with
    | commit k =>
      cases hr
      exact fin _ _ _ _ _ hμ hk hm
    | take i =>
      simp only [hphase] at hr
      split at hr
      · cases hr
      · rename_i o ho
        obtain ⟨hok, hr⟩ := bif_some hr
        have hk' : KX ops kx x (L.setIfInBounds i true) := hk.set fun k hkk => ((okTake_spec hok).2.2.2.2 k hkk).1
        split at hr
        · cases hr
        · rename_i s1 hw
          obtain ⟨e1, e2⟩ := wanted_sound hm.ar hw
          split at hr
          · rename_i f1 hf1
            have ok1 := SOK.of_sub (hphase_sub hc _ _ _ _ _ _ hr) ok
            have hm1 : Mom w0 ops kx L pend s1 f pc μ a w fuel := ⟨hm.size, hm.fuel, hm.pcr, hm.sp, hm.r.like e1, hm.ar, hm.ex⟩
            refine take_case (v := undef) (T := fun _ => True) (pc' := pc) hsel hQ ho hok hk (fun k h => h) hm1 (.inr ⟨e2 ok1, rfl⟩) trivial hm.pcr hm.ex (fun l w' => ⟨fun h => h.1, fun h => ⟨h, .inr trivial⟩⟩) (put_sound hm.ar undef_vr hf1) ?_
            exact fun fuel' hm' => ih _ _ _ _ _ _ _ _ _ hμ hk' hm' hr
          · cases hr
        · rename_i s1 hw
          obtain ⟨e1, e2⟩ := wanted_sound hm.ar hw
          split at hr
          · rename_i v z s2 hv
            split at hr
            · rename_i f1 hf1
              obtain ⟨hheld, hr⟩ := bif_some hr
              have hr1 := hm.r.like e1
              have he := ev_sound hr1 hm.ar
              obtain ⟨g1, g2⟩ := hstill_sound hr1 he hv
              have ok2 := SOK.of_sub (hphase_sub hc _ _ _ _ _ _ hr) ok
              obtain ⟨v', b, k1, k2, k3⟩ := g2 ok2
              have hy : YieldsIf P ops (fun w' => BlkOK μ w w' z b) o v' a := .inl ⟨e2 (SOK.of_sub g1.sub ok2), fun w' hw' => k1 w' hw'⟩
              have hm1 : Mom w0 ops kx L pend s2 f pc μ a w fuel := ⟨hm.size, hm.fuel, hm.pcr, hm.sp, hr1.like g1, hm.ar, hm.ex⟩
              cases z with
              | none =>
                refine take_case (pc' := pc) hsel hQ ho hok hk (fun k h => h) hm1 hy trivial hm.pcr hm.ex (fun l w' => ⟨fun h => h.1, fun h => ⟨h, .inr trivial⟩⟩) (put_sound hm.ar k2 hf1) ?_
                exact fun fuel' hm' => ih _ _ _ _ _ _ _ _ _ hμ hk' hm' hr
              | some z =>
                have hbz : BlkZ μ z b := by
                  cases z with
                  | none => exact k3.1
                  | some z => exact k3.1
                have hne : w.heap[b]? ≠ none := by
                  cases z with
                  | none => obtain ⟨O, hO⟩ := hbz; rw [hm.r.fz _ _ hO]; simp
                  | some z =>
                    obtain ⟨p, hp, rfl⟩ := hbz
                    have := held_lt hm1.r hheld hp
                    simp [this]
                have hT : ∀ w', BlkOK μ w w' (some z) b ↔ w'.heap[b]? = w.heap[b]? := fun w' => by
                  cases z with
                  | none => exact ⟨fun h => h.2, fun h => ⟨hbz, h⟩⟩
                  | some z => exact ⟨fun h => h.2, fun h => ⟨hbz, h⟩⟩
                refine take_case (pc' := (i, b, w.heap[b]?) :: pc) hsel hQ ho hok hk (fun k h => h) hm1 hy k3 (.cons hbz hm.pcr) (fun y hy => (List.mem_cons.1 hy).elim (fun e => by subst e; exact hne) (hm.ex y)) (fun l w' => ⟨fun h y hy => ?_, fun h => ⟨fun y hy => h y (List.mem_cons_of_mem _ hy), ?_⟩⟩) (put_sound hm.ar k2 hf1) ?_
                · rcases List.mem_cons.1 hy with rfl | hy
                  · exact h.2.imp id fun hh => (hT w').1 hh
                  · exact h.1 y hy
                · exact (h _ (List.mem_cons_self ..)).imp id fun hh => (hT w').2 hh
                · exact fun fuel' hm' => ih _ _ _ _ _ _ _ _ _ hμ hk' hm' hr
            · cases hr
          · cases hr
    | st c =>
      simp only [hphase] at hr
      split at hr
      · cases hr
      · rename_i o ho
        obtain ⟨hok, hr⟩ := bif_some hr
        obtain ⟨q1, q2, q3, q4⟩ := okSt_spec hok
        have hk' : KX ops kx x (L.setIfInBounds c true) := hk.set fun k hkk => (q4 k hkk).1
        split at hr
        · rename_i s1 rs hl
          split at hr
          · rename_i s2 f2 hs
            split at hr
            · rename_i s3 hu
              have hready : c ∈ Region.ready .any ops (Lx kx L) ∧ ∀ j ∈ Region.ready .any ops (Lx kx L), j = c := by
                cases kx with
                | none => exact ⟨q2, fun j hj => (q3 j hj).elim id fun h => by cases h⟩
                | some k => exact ⟨ready_mono q2 (Ne.symm (q4 k rfl).1), (q4 k rfl).2.1⟩
              obtain ⟨f0, rfl, hf0⟩ := fuel_step (by rw [Lx_size]; exact hm.size) hready.1 hm.fuel
              refine ⟨fun h0 => (by have := hready.1; rw [h0] at this; cases this), fun j hj => ?_⟩
              have := hready.2 j hj
              subst this
              rw [← Lx_set] at hf0 ⊢
              exact st_branch hg hc hsel ho (apart_of_st hok hk (fun k h => h) ho) q1 hm hl hs hu (SOK.of_sub (hphase_sub hc _ _ _ _ _ _ hr) ok) hf0 fun μ' a' w' pc' hle hm' => ih _ _ _ _ _ _ _ _ _ (Mu.le_trans hμ hle) hk' hm' hr
            · cases hr
          · cases hr
        · cases hr

end
end Go.Hx
