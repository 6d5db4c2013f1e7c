/- Tables of facts about integers that are not known. -/
import Derived.Test.YtpjfmjemmphheadGreatDoorHx11
namespace Go.Hx
open Go Go.RowKit

structure FE where
  op : BinOp
  k : IntKind
  x : Int
  y : Int
  r : Value

def FE.ok (η : Env) (e : FE) : Prop :=
  ∃ v', (∀ P t w, (binOp e.op t (.int e.k (dn η e.x)) (.int e.k (dn η e.y))).run P w = .ok v' w) ∧ ∀ μ, VR η μ e.r v'

def lookFE (op : BinOp) (k : IntKind) (x y : Int) : List FE → Option Value
  | [] => none
  | e :: l => bif decide (e.op = op) && decide (e.k = k) && decide (e.x = x) && decide (e.y = y) then some e.r else lookFE op k x y l

def factsOf (l : List FE) (c : IntKind → Int → Option Int) : Facts := ⟨fun op k x y => lookFE op k x y l, c, fun _ _ => none, fun _ _ => none, fun _ _ _ => none, fun _ _ _ => none⟩

theorem lookFE_mem {op : BinOp} {k : IntKind} {x y : Int} {v : Value} : ∀ {l : List FE}, lookFE op k x y l = some v → ∃ e ∈ l, e.op = op ∧ e.k = k ∧ e.x = x ∧ e.y = y ∧ e.r = v := by
  intro l
  induction l with
  | nil => intro h; cases h
  | cons e l ih =>
    intro h
    simp only [lookFE] at h
    cases hc : (decide (e.op = op) && decide (e.k = k) && decide (e.x = x) && decide (e.y = y)) with
    | true =>
      rw [hc] at h
      simp only [Bool.and_eq_true, decide_eq_true_eq] at hc
      cases h
      exact ⟨e, List.mem_cons_self .., hc.1.1.1, hc.1.1.2, hc.1.2, hc.2, rfl⟩
    | false =>
      rw [hc] at h
      obtain ⟨e', h1, h2⟩ := ih h
      exact ⟨e', List.mem_cons_of_mem _ h1, h2⟩

theorem factsOf_ok {η : Env} {l : List FE} (h : ∀ e ∈ l, e.ok η) {c : IntKind → Int → Option Int} (hc : ∀ k n m, c k n = some m → k.wrap (dn η n) = dn η m) : FactsOK η (factsOf l c) where
  bin := fun op k x y v hv => by
    obtain ⟨e, h1, rfl, rfl, rfl, rfl, rfl⟩ := lookFE_mem hv
    exact h e h1
  conv := hc
  eqi := fun _ _ _ h => by cases h
  eqb := fun _ _ _ h => by cases h

def noConv : IntKind → Int → Option Int := fun _ _ => none
theorem noConv_ok {η : Env} : ∀ k n m, noConv k n = some m → k.wrap (dn η n) = dn η m := fun _ _ _ h => by cases h

section
variable {η : Env} {k : IntKind} {x y : Int} {b : Bool}
theorem fe_lss (h : decide (dn η x < dn η y) = b) : FE.ok η ⟨.lss, k, x, y, .bool b⟩ := ⟨.bool b, fun P t w => by simp [binOp, Op.intCmp, h], fun _ => .bool b⟩
theorem fe_leq (h : decide (dn η x ≤ dn η y) = b) : FE.ok η ⟨.leq, k, x, y, .bool b⟩ := ⟨.bool b, fun P t w => by simp [binOp, Op.intCmp, h], fun _ => .bool b⟩
theorem fe_gtr (h : decide (dn η x > dn η y) = b) : FE.ok η ⟨.gtr, k, x, y, .bool b⟩ := ⟨.bool b, fun P t w => by simp only [gt_iff_lt] at h; simp [binOp, Op.intCmp, h], fun _ => .bool b⟩
theorem fe_geq (h : decide (dn η x ≥ dn η y) = b) : FE.ok η ⟨.geq, k, x, y, .bool b⟩ := ⟨.bool b, fun P t w => by simp only [ge_iff_le] at h; simp [binOp, Op.intCmp, h], fun _ => .bool b⟩
theorem fe_eql (h : (dn η x == dn η y) = b) : FE.ok η ⟨.eql, k, x, y, .bool b⟩ := ⟨.bool b, fun P t w => by simp only [binOp, Op.intCmp]; simp [h], fun _ => .bool b⟩
theorem fe_neq (h : (dn η x != dn η y) = b) : FE.ok η ⟨.neq, k, x, y, .bool b⟩ := ⟨.bool b, fun P t w => by simp only [binOp, Op.intCmp]; simp [h], fun _ => .bool b⟩
theorem fe_mul {z : Int} (h : k.wrap (dn η x * dn η y) = dn η z) : FE.ok η ⟨.mul, k, x, y, .int k z⟩ := ⟨.int k (dn η z), fun P t w => by simp [binOp, Op.intArith, h], fun _ => .int k z⟩
theorem fe_add {z : Int} (h : k.wrap (dn η x + dn η y) = dn η z) : FE.ok η ⟨.add, k, x, y, .int k z⟩ := ⟨.int k (dn η z), fun P t w => by simp [binOp, Op.intArith, h], fun _ => .int k z⟩
theorem fe_sub {z : Int} (h : k.wrap (dn η x - dn η y) = dn η z) : FE.ok η ⟨.sub, k, x, y, .int k z⟩ := ⟨.int k (dn η z), fun P t w => by simp [binOp, Op.intArith, h], fun _ => .int k z⟩
theorem fe_rem {z : Int} (h0 : dn η y ≠ 0) (h : (dn η x).tmod (dn η y) = dn η z) : FE.ok η ⟨.rem, k, x, y, .int k z⟩ := ⟨.int k (dn η z), fun P t w => by simp [binOp, Op.intDiv, h0, h], fun _ => .int k z⟩
theorem fe_quo {z : Int} (h0 : dn η y ≠ 0) (h : k.wrap ((dn η x).tdiv (dn η y)) = dn η z) : FE.ok η ⟨.quo, k, x, y, .int k z⟩ := ⟨.int k (dn η z), fun P t w => by simp [binOp, Op.intDiv, h0, h], fun _ => .int k z⟩
end

/-- No function with a body bears the name that the model looks for, as a Bool. -/
def noG (P : Program) : Bool := P.funcs.toList.all fun fn => !fn.body.isSome || !(fn.name == "runtime.NumGoroutine")
theorem noG_ok {P : Program} (h : noG P = true) : NoG P := by
  intro g fn hg hb
  unfold noG at h
  rw [List.all_eq_true] at h
  have hm : fn ∈ P.funcs.toList := by
    rw [← Array.getElem?_toList] at hg
    exact List.mem_of_getElem? hg
  have := h fn hm
  simpa [hb] using this

theorem fxOf_ok {P : Program} {η : Env} {l : List FE} (h : ∀ e ∈ l, e.ok η) {c : IntKind → Int → Option Int} (hc : ∀ k n m, c k n = some m → k.wrap (dn η n) = dn η m) : FxOK P η (factsOf l c) where
  base := factsOf_ok h hc
  pu := fun _ _ _ _ _ _ _ _ _ _ h => by cases h
  st := fun _ _ _ _ _ _ _ _ _ _ h => by cases h

/-- The empty state. -/
def St0 : St := ⟨.lf, 0, 0⟩
theorem St0_R (η : Env) (w : World) (hm : ∀ i, η.m i = none) (ho : ∀ g, η.old g → g < w.heap.size) : R η (Base.of w) (fun _ => none) St0 w where
  below := Below.refl _ _
  fresh := fun _ _ => rfl
  obj := fun i o h => by cases h
  dis := fun i j o o' p q _ h => by cases h
  bdis := fun i j o o' p q h => by cases h
  mle := fun i p h => by rw [hm] at h; cases h
  eold := ho
  gl := fun g h => absurd h (Nat.not_lt_zero _)

/-- Names for integers, from a list. -/
def tok (l : List Int) (n : Int) : Int := l.getD (n - TOK).toNat 0

/-- A run that hands back a flat value: from any moment. -/
theorem run_flat {P : Program} {fx : Facts} {η : Env} (hg : NoG P) (hfx : FxOK P η fx) (lf n : Nat) {hk : HCall} (hhk : CallOK P η hk) {dk : DCall} (hdk : DOK P η dk) {g : FuncId} {args args' : List Value} {v : Value} {s s' : St} {w : World} {μ : Mu}
    (h : R η (Base.of w) μ s w) (ha : VRs η μ args args') (hr : hcall P fx lf hk dk n g args s = some (v, s')) (hf : flatN 4 v = true) :
    Calls P g ⟨args'⟩ w fun e w' => e = .returned v ∧ Below w.heap.size w w' :=
  (hcall_sound hfx hg lf hhk hdk n (Base.of w) μ s s' w g args args' v h ha hr).mono fun e w' ⟨v', μ', h1, _, h3, h4⟩ => by
    rw [← flat_eq 4 _ _ hf h4] at h1
    exact ⟨h1, h3.below⟩

end Go.Hx
