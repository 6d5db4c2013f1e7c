/- The executor's frames, one operation, locks around it, the alloc that may come at any time. -/
import Derived.Test.YtpjfmjemmphheadGreatDoorHx9a
import Derived.LoopN
namespace Go.Hx
open Go Go.RowKit

section
variable {η : Env} {w0 : Base} {μ : Mu} {s : St} {w : World} {P : Program} {fx : Facts} {f : HF} {a : Act}

theorem AR.mono {ν : Mu} (hl : μ.le ν) (h : AR η μ f a) : AR η ν f a := ⟨h.size, fun d hd hv => (h.vals d hd hv).mono hl, h.ds.mono hl⟩

theorem undef_vr : VR η μ undef undef := .tuple .nil

theorem ev_sound (h : R η w0 μ s w) (ha : AR η μ f a) : ∀ x v, f.ev s x = some v → VR η μ v (a.eval x) := by
  intro x v hv
  cases x with
  | tmp d =>
    simp only [HF.ev] at hv
    obtain ⟨hd, hv⟩ := bif_some hv
    cases hv
    simp only [Bool.and_eq_true, Bool.not_eq_true'] at hd
    exact ha.vals d (blt_lt hd.1) hd.2
  | const u =>
    simp only [HF.ev] at hv
    obtain ⟨hd, hv⟩ := bif_some hv
    cases hv
    exact flat_self 4 _ hd
  | global g =>
    simp only [HF.ev] at hv
    obtain ⟨hd, hv⟩ := bif_some hv
    cases hv
    obtain ⟨p, hp, h1, h2⟩ := h.gl g (blt_lt hd)
    have := VR.ptr (η := η) (o := 0) hp
    rw [h1, h2] at this
    exact this
  | func g =>
    simp only [HF.ev, Option.some.injEq] at hv
    subst hv
    exact .func .nil .nil

theorem put_sound (ha : AR η μ f a) {d : Option Tmp} {v v' : Value} (hv : VR η μ v v') {f' : HF} (hp : f.put d v = some f') : AR η μ f' (a.put d v') := by
  cases d with
  | none => simp only [HF.put, Option.some.injEq] at hp; subst hp; exact ha
  | some d =>
    simp only [HF.put] at hp
    obtain ⟨hd, hp⟩ := bif_some hp
    simp only [Option.map_eq_some_iff] at hp
    obtain ⟨t, ht, rfl⟩ := hp
    have hd := blt_lt hd
    have hg := Tr.get_set 64 f.t t d v ht
    refine ⟨by simp [Act.put, ha.size], fun e hed => ?_, ha.ds⟩
    have hsz := ha.size
    simp only [HF.get, hg]
    by_cases hde : e = d
    · subst hde
      simp [Act.put, hsz, hd]
      exact fun _ => hv
    · rw [if_neg hde]
      have := ha.vals e hed
      have e1 : (a.put (some d) v').tmps.getD e undef = a.tmps.getD e undef := by
        have hne : d ≠ e := fun h => hde h.symm
        simp [Act.put, Array.getD_eq_getD_getElem?, hne]
      rw [e1]
      exact this

/-- Is the operation carried out? -/
def hWanted (f : HF) (ops : List Oper) (o : Oper) : Option Bool :=
  match o.guard with
  | none => some true
  | some (j, b) => match ops[j]? with
    | none => some false
    | some x => match x.dst with
      | none => some false
      | some d => bif Nat.blt d f.n then (match f.get d with
          | .bool c => some (c == b)
          | .tuple _ => some false
          | _ => none) else none

theorem wanted_sound (ha : AR η μ f a) {ops : Array Oper} {o : Oper} {b : Bool} (h : hWanted f ops.toList o = some b) : Region.wanted o (yielded ops a.tmps) = b := by
  unfold hWanted at h
  unfold Region.wanted
  split at h
  · rename_i hg
    rw [hg]
    cases h
    rfl
  · rename_i j b' hg
    rw [hg]
    dsimp only
    unfold yielded
    rw [← Array.getElem?_toList]
    split at h
    · rename_i hj
      rw [hj]
      cases h
      rfl
    · rename_i x hj
      rw [hj]
      split at h
      · rename_i hd
        simp only [Option.bind_some, hd, Option.bind_none]
        cases h
        rfl
      · rename_i d hd
        obtain ⟨hdn, h⟩ := bif_some h
        have hdn := blt_lt hdn
        have hv := ha.vals d hdn
        have hsz : d < a.tmps.size := by rw [ha.size]; exact hdn
        simp only [Option.bind_some, hd, Array.getElem?_eq_getElem hsz]
        have hgd : a.tmps.getD d undef = a.tmps[d] := by simp [hsz]
        rw [hgd] at hv
        generalize a.tmps[d] = u at hv ⊢
        split at h
        · rename_i c hc
          rw [hc] at hv
          have hv := hv rfl
          cases hv
          cases h
          cases c <;> cases b' <;> rfl
        · rename_i l hc
          rw [hc] at hv
          have hv := hv rfl
          cases hv
          cases h
          rfl
        · cases h

/-! ### What is shown of a piece of code -/
inductive HX where
  | normal
  | exit (id : Nat)
  | ret

def HX.ex : HX → Exit
  | .normal => .normal
  | .exit id => .exit id
  | .ret => .ret

def Post (η : Env) (w0 : Base) (μ : Mu) (x : HX) (s : St) (f : HF) : Exit → Act → World → Prop :=
  fun e a w => e = x.ex ∧ ∃ μ', μ.le μ' ∧ R η w0 μ' s w ∧ AR η μ' f a

abbrev HCall := FuncId → List Value → St → Option (Value × St)

def CallOK (P : Program) (η : Env) (call : HCall) : Prop :=
  ∀ (w0 : Base) (μ : Mu) (s s' : St) (w : World) (g : FuncId) (args args' : List Value) (v : Value), R η w0 μ s w → VRs η μ args args' → call g args s = some (v, s') →
    Calls P g ⟨args'⟩ w fun e w' => ∃ v' μ', e = .returned v' ∧ μ.le μ' ∧ R η w0 μ' s' w' ∧ VR η μ' v v'

/-! ### One operation -/
def hstep (P : Program) (fx : Facts) (call : HCall) (ops : List Oper) (o : Oper) (s : St) (f : HF) : Option (St × HF) :=
  match hWanted f ops o with
  | none => none
  | some false => match f.put o.dst undef with
    | some f' => some (s, f')
    | none => none
  | some true => match hop P fx s (f.ev s) o with
    | some (.val v, s') => match f.put o.dst v with
      | some f' => some (s', f')
      | none => none
    | some (.skip, s') => match f.put o.dst undef with
      | some f' => some (s', f')
      | none => none
    | some (.enter g args, s') => match call g args s' with
      | some (v, s'') => match f.put o.dst v with
        | some f' => some (s'', f')
        | none => none
      | none => none
    | _ => none

theorem hstep_sound (hfx : FxOK P η fx) (hg : NoG P) {call : HCall} (hc : CallOK P η call) {ops : Array Oper} {o : Oper} {s' : St} {f' : HF} (h : R η w0 μ s w) (ha : AR η μ f a)
    (hs : hstep P fx call ops.toList o s f = some (s', f')) {K : Act → World → Prop} {Q : Exit → Act → World → Prop}
    (hK : ∀ (v' : Value) (w' : World) (μ' : Mu), μ.le μ' → R η w0 μ' s' w' → AR η μ' f' (a.put o.dst v') → K (a.put o.dst v') w') :
    if Region.wanted o (yielded ops a.tmps) then o.wp P a w K Q else K (a.put o.dst undef) w := by
  unfold hstep at hs
  split at hs
  · cases hs
  · rename_i hw
    rw [wanted_sound ha hw, if_neg (by simp)]
    split at hs
    · rename_i f2 hf2
      cases hs
      exact hK _ _ _ (Mu.le_refl _) h (put_sound ha undef_vr hf2)
    · cases hs
  · rename_i hw
    rw [wanted_sound ha hw, if_pos rfl]
    have he := ev_sound h ha
    unfold Oper.wp
    split at hs
    · rename_i v s2 ho
      split at hs
      · rename_i f2 hf2
        cases hs
        obtain ⟨v', w', μ', k1, k2, k3, k4⟩ := hop_sound hfx hg h he ho
        rw [k1, Oper.upon_value]
        exact hK _ _ _ k2 k3 (put_sound (ha.mono k2) k4 hf2)
      · cases hs
    · rename_i s2 ho
      split at hs
      · rename_i f2 hf2
        cases hs
        obtain ⟨w', μ', k1, k2, k3⟩ := hop_sound hfx hg h he ho
        rw [k1, Oper.upon_skip]
        exact hK _ _ _ k2 k3 (put_sound (ha.mono k2) undef_vr hf2)
      · cases hs
    · rename_i g args s2 ho
      split at hs
      · rename_i v s3 hcall
        split at hs
        · rename_i f2 hf2
          cases hs
          obtain ⟨args', k1, k2, k3⟩ := hop_sound hfx hg h he ho
          rw [k1, Oper.upon_enter]
          refine (hc w0 μ _ _ w g args args' v k2 k3 hcall).mono fun e w' ⟨v', μ', e1, e2, e3, e4⟩ => ?_
          subst e1
          exact hK _ _ _ e2 e3 (put_sound (ha.mono e2) e4 hf2)
        · cases hs
      · cases hs
    · cases hs

/-! ### A region in the order of the text -/
/-- A 'defer', or what it may be else. -/
def hstepD (P : Program) (fx : Facts) (call : HCall) (ops : List Oper) (o : Oper) (s : St) (f : HF) : Option (St × HF) :=
  match hWanted f ops o, hop P fx s (f.ev s) o with
  | some true, some (.dfr d, s') => match ({ f with ds := d :: f.ds } : HF).put o.dst undef with
    | some f' => some (s', f')
    | none => none
  | _, _ => hstep P fx call ops o s f

def hops (P : Program) (fx : Facts) (call : HCall) (ops : List Oper) : List Oper → St → HF → Option (St × HF)
  | [], s, f => some (s, f)
  | o :: rest, s, f => match hstepD P fx call ops o s f with
    | some (s', f') => hops P fx call ops rest s' f'
    | none => none

theorem hops_sound (hfx : FxOK P η fx) (hg : NoG P) {call : HCall} (hc : CallOK P η call) {ops : Array Oper} {μ0 : Mu} : ∀ (l : List Oper) (μ : Mu) (s s' : St) (w : World) (f f' : HF) (a : Act),
    μ0.le μ → R η w0 μ s w → AR η μ f a → hops P fx call ops.toList l s f = some (s', f') → wpList P ops (Post η w0 μ0 .normal s' f') l a w := by
  intro l
  induction l with
  | nil =>
    intro μ s s' w f f' a hμ h ha hr
    simp only [hops, Option.some.injEq, Prod.mk.injEq] at hr
    obtain ⟨rfl, rfl⟩ := hr
    exact ⟨rfl, μ, hμ, h, ha⟩
  | cons o rest ih =>
    intro μ s s' w f f' a hμ h ha hr
    simp only [hops] at hr
    split at hr
    · rename_i s1 f1 hs1
      refine wpList_step fun K hK => ?_
      unfold hstepD at hs1
      split at hs1
      · rename_i d s2 hw ho
        split at hs1
        · rename_i f2 hf2
          cases hs1
          obtain ⟨cap', args', k1, k2, k3, k4⟩ := hop_sound hfx hg h (ev_sound h ha) ho
          rw [wanted_sound ha hw, if_pos rfl]
          unfold Oper.wp
          rw [k1, Oper.upon_defer]
          have ha2 : AR η μ { f with ds := d :: f.ds } { a with defers := { target := .fn d.fn ⟨cap'⟩, args := ⟨args'⟩ } :: a.defers } := ⟨ha.size, ha.vals, .cons k3 k4 ha.ds⟩
          exact hK _ _ (ih μ _ s' w _ f' _ hμ k2 (put_sound ha2 undef_vr hf2) hr)
        · cases hs1
      · exact hstep_sound hfx hg hc h ha hs1 fun v' w' μ' k1 k2 k3 => hK _ _ (ih μ' _ s' w' _ f' _ (Mu.le_trans hμ k1) k2 k3 hr)
    · cases hr

/-! ### Locks around one operation -/
def lockAll (s : St) : List (Nat × Nat) → Option (St × List (Nat × HObj))
  | [] => some (s, [])
  | (_, z) :: l => match s.h.get z with
    | some o => match lockO o with
      | some o' => match Tr.set 64 s.h z o' with
        | some t => match lockAll { s with h := t } l with
          | some (s', r) => some (s', (z, o) :: r)
          | none => none
        | none => none
      | none => match o with
        | .ro _ => lockAll s l
        | .lk _ => lockAll s l
        | .rm _ _ => lockAll s l
        | _ => none
    | none => none

def unlockAll (s : St) : List (Nat × HObj) → Option St
  | [] => some s
  | (z, o) :: l => match unlockAll s l with
    | some s' => match Tr.set 64 s'.h z o with
      | some t => some { s' with h := t }
      | none => none
    | none => none

theorem lockAll_sound : ∀ (l : List (Nat × Nat)) (w0 : Base) (s s1 : St) (r : List (Nat × HObj)), R η w0 μ s w → lockAll s l = some (s1, r) →
    ∃ w1 : Base, R η w1 μ s1 w ∧ (∀ w' : World, w1.ok w' → w0.ok w' ∧ ∀ x ∈ l, ∀ p, μ x.2 = some p → w'.heap[p.blk]? = w.heap[p.blk]?) ∧
      ∀ (μ' : Mu) (s2 s3 : St) (w' : World), μ.le μ' → R η w1 μ' s2 w' → unlockAll s2 r = some s3 → R η w0 μ' s3 w' := by
  intro l
  induction l with
  | nil =>
    intro w0 s s1 r h hr
    cases hr
    exact ⟨w0, h, fun w' hw => ⟨hw, fun x hx => by cases hx⟩, fun μ' s2 s3 w' _ h' hu => by cases hu; exact h'⟩
  | cons x l ih =>
    obtain ⟨i, z⟩ := x
    intro w0 s s1 r h hr
    simp only [lockAll] at hr
    split at hr
    · rename_i o ho
      split at hr
      · rename_i o' ho'
        split at hr
        · rename_i t ht
          split at hr
          · rename_i s' r' hl
            cases hr
            have hp : ∃ p, μ z = some p := by
              rcases lockO_cases ho' with ⟨c, e, rfl, rfl⟩ | ⟨es, k, rfl, rfl⟩ | ⟨c, e, rfl, rfl⟩
              · obtain ⟨p, _, h1, _⟩ := h.row z _ _ ho; exact ⟨p, h1⟩
              · obtain ⟨p, _, h1, _⟩ := h.map z _ _ ho; exact ⟨p, h1⟩
              · obtain ⟨p, _, h1, _⟩ := h.winc z _ _ ho; exact ⟨p, h1⟩
            obtain ⟨p, hp⟩ := hp
            have hb := h.blk_lt ho ho' hp
            have hL := h.lock ho ho' ht hp hb
            obtain ⟨w1, k1, k2, k3⟩ := ih _ _ _ _ hL hl
            refine ⟨w1, k1, fun w' hw => ?_, fun μ' s2 s3 w' hle h' hu => ?_⟩
            · obtain ⟨m1, m2⟩ := k2 w' hw
              refine ⟨m1.1, fun x hx q hq => ?_⟩
              rcases List.mem_cons.1 hx with rfl | hx
              · rw [hp] at hq; cases hq
                exact m1.2.2
              · exact m2 x hx q hq
            · simp only [unlockAll] at hu
              split at hu
              · rename_i s4 hs4
                split at hu
                · rename_i t2 ht2
                  cases hu
                  exact h.unlock ho ho' hp hb (k3 μ' s2 s4 w' hle h' hs4) hle ht2
                · cases hu
              · cases hu
          · cases hr
        · cases hr
      · have skip : ∀ (hh : lockAll s l = some (s1, r)) (hs : ∀ w' : World, w0.ok w' → ∀ p, μ z = some p → w'.heap[p.blk]? = w.heap[p.blk]?), ∃ w1 : Base, R η w1 μ s1 w ∧
            (∀ w' : World, w1.ok w' → w0.ok w' ∧ ∀ x ∈ (i, z) :: l, ∀ p, μ x.2 = some p → w'.heap[p.blk]? = w.heap[p.blk]?) ∧
            ∀ (μ' : Mu) (s2 s3 : St) (w' : World), μ.le μ' → R η w1 μ' s2 w' → unlockAll s2 r = some s3 → R η w0 μ' s3 w' := by
          intro hh hs
          obtain ⟨w1, k1, k2, k3⟩ := ih _ _ _ _ h hh
          refine ⟨w1, k1, fun w' hw => ?_, k3⟩
          obtain ⟨m1, m2⟩ := k2 w' hw
          refine ⟨m1, fun x hx q hq => ?_⟩
          rcases List.mem_cons.1 hx with rfl | hx
          · exact hs w' m1 q hq
          · exact m2 x hx q hq
        split at hr
        · refine skip hr fun w' hw p hp => ?_
          obtain ⟨q, h1, h2, _⟩ := h.ro z _ ho
          rw [hp] at h1; cases h1
          exact w0.rdok _ _ _ h.below hw h2
        · refine skip hr fun w' hw p hp => ?_
          obtain ⟨q, h1, h2, _⟩ := h.lk z _ ho
          rw [hp] at h1; cases h1
          exact w0.lkok _ _ _ _ h.below hw h2
        · refine skip hr fun w' hw p hp => ?_
          obtain ⟨q, _, h1, h2, _⟩ := h.rm z _ _ ho
          rw [hp] at h1; cases h1
          exact w0.lkok _ _ _ _ h.below hw h2
        · cases hr
    · cases hr

/-! ### A slot beside -/
def putx : Option (Option Tmp × Value) → Act → Act
  | none, a => a
  | some (d, v), a => a.put d v

def apartx (ops : Array Oper) (o : Oper) : Option (Option Tmp × Value) → Prop
  | none => True
  | some (d, _) => (∀ e, d = some e → e ∉ o.looksAt ops) ∧ (∀ e, o.dst = some e → d ≠ some e)

theorem execOp_putx {ops : Array Oper} {o : Oper} (hs : ∀ cs b, o.op ≠ .select cs b) {x : Option (Option Tmp × Value)} (hx : apartx ops o x) (a : Act) : execOp (putx x a).eval o = execOp a.eval o := by
  cases x with
  | none => rfl
  | some x => exact execOp_put (ops := ops) o hs a x.1 x.2 hx.1

theorem wanted_putx {ops : Array Oper} {o : Oper} {x : Option (Option Tmp × Value)} (hx : apartx ops o x) (a : Act) : Region.wanted o (yielded ops (putx x a).tmps) = Region.wanted o (yielded ops a.tmps) := by
  cases x with
  | none => rfl
  | some x => exact wanted_put o a x.1 x.2 hx.1

theorem put_putx {ops : Array Oper} {o : Oper} {x : Option (Option Tmp × Value)} (hx : apartx ops o x) (a : Act) (v : Value) : (putx x a).put o.dst v = putx x (a.put o.dst v) := by
  cases x with
  | none => rfl
  | some x => exact (Act.put_comm a v x.2 hx.2).symm

theorem wp_putx {ops : Array Oper} {o : Oper} (hs : ∀ cs b, o.op ≠ .select cs b) {x : Option (Option Tmp × Value)} (hx : apartx ops o x) {K : Act → World → Prop} {Q : Exit → Act → World → Prop}
    (hd : ∀ d (a : Act), putx x { a with defers := d :: a.defers } = { putx x a with defers := d :: (putx x a).defers })
    (h : o.wp P a w (fun a' w' => K (putx x a') w') (fun e a' w' => Q e (putx x a') w')) : o.wp P (putx x a) w K Q := by
  unfold Oper.wp at *
  rw [execOp_putx hs hx]
  generalize (execOp a.eval o).run P w = r at *
  cases r with
  | ok n w' =>
    cases n <;> simp only [Oper.upon] at h ⊢
    case value u => rw [put_putx hx]; exact h
    case skip => rw [put_putx hx]; exact h
    case defer d =>
      rw [← hd, put_putx (a := { a with defers := d :: a.defers }) hx]
      exact h
    case enter f args =>
      refine Calls.mono h fun e w'' he => ?_
      cases e with
      | returned u => dsimp only at he ⊢; rw [put_putx hx]; exact he
      | panicked c => exact he
      | outgrown => exact let ⟨a, w, q⟩ := he; ⟨_, w, q⟩
    case row row args => exact Rows.mono h fun u w'' he => by rw [put_putx hx]; exact he
  | halt hh w' =>
    cases hh <;> simp only [Oper.upon] at h ⊢
    case panic v => exact h

theorem putx_defers (x : Option (Option Tmp × Value)) (d : Deferred) (a : Act) : putx x { a with defers := d :: a.defers } = { putx x a with defers := d :: (putx x a).defers } := by
  cases x with
  | none => rfl
  | some x =>
    obtain ⟨t, v⟩ := x
    cases t <;> rfl

end
end Go.Hx
