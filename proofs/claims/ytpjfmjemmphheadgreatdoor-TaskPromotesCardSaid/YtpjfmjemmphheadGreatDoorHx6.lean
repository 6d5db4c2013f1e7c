/- The executor's steps: cutting slices, make, append, len. -/
import Derived.Test.YtpjfmjemmphheadGreatDoorHx5
namespace Go.Hx
open Go Go.RowKit

section
variable {η : Env} {w0 : Base} {μ : Mu} {s : St} {w : World} {P : Program}

/-- A bound that is not given, or a number. -/
def litO : Option Value → Option (Option Nat)
  | none => some none
  | some (.int _ n) => bif decide (0 ≤ n) && decide (n < TOK) then some (some n.toNat) else none
  | _ => none

inductive VRo (η : Env) (μ : Mu) : Option Value → Option Value → Prop
  | none : VRo η μ none none
  | some {v v' : Value} (h : VR η μ v v') : VRo η μ (some v) (some v')

theorem litO_none {v v' : Option Value} (h : litO v = some none) (hv : VRo η μ v v') : v' = none := by
  cases hv with
  | none => rfl
  | some hv =>
    cases hv <;> simp only [litO, reduceCtorEq] at h
    rename_i k n
    cases hb : (decide (0 ≤ n) && decide (n < TOK)) <;> rw [hb] at h <;> simp at h

theorem litO_some {v v' : Option Value} {k : Nat} (h : litO v = some (some k)) (hv : VRo η μ v v') : ∃ kd, v' = some (.int kd (k : Int)) := by
  cases hv with
  | none => simp [litO] at h
  | some hv =>
    cases hv <;> simp only [litO, reduceCtorEq] at h
    rename_i kd n
    cases hb : (decide (0 ≤ n) && decide (n < TOK)) with
    | false => rw [hb] at h; simp at h
    | true =>
      rw [hb] at h
      simp only [cond_true, Option.some.injEq] at h
      simp only [Bool.and_eq_true, decide_eq_true_eq] at hb
      refine ⟨kd, ?_⟩
      rw [dn_lt hb.2]
      congr 2
      omega

def bnds (len cap : Nat) (lo hi mx : Option Nat) : Option (Nat × Nat × Nat) :=
  match hi, mx with
  | none, some _ => none
  | none, none => bif Nat.ble (lo.getD 0) len then some (lo.getD 0, len, cap) else none
  | some h, none => bif Nat.ble h cap && Nat.ble (lo.getD 0) h then some (lo.getD 0, h, cap) else none
  | some h, some m => bif Nat.ble m cap && Nat.ble h m && Nat.ble (lo.getD 0) h then some (lo.getD 0, h, m) else none

theorem bnds_le {len cap : Nat} {lo hi mx : Option Nat} {l h m : Nat} (hlc : len ≤ cap) (hb : bnds len cap lo hi mx = some (l, h, m)) : l ≤ h ∧ h ≤ m ∧ m ≤ cap := by
  unfold bnds at hb
  split at hb
  · cases hb
  · cases hc : Nat.ble (lo.getD 0) len with
    | false => rw [hc] at hb; simp at hb
    | true => rw [hc] at hb; simp only [cond_true, Option.some.injEq, Prod.mk.injEq] at hb; have := ble_le hc; omega
  · rename_i h'
    cases hc : (Nat.ble h' cap && Nat.ble (lo.getD 0) h') with
    | false => rw [hc] at hb; simp at hb
    | true =>
      rw [hc] at hb
      simp only [cond_true, Option.some.injEq, Prod.mk.injEq] at hb
      simp only [Bool.and_eq_true] at hc
      have := ble_le hc.1
      have := ble_le hc.2
      omega
  · rename_i h' m'
    cases hc : (Nat.ble m' cap && Nat.ble h' m' && Nat.ble (lo.getD 0) h') with
    | false => rw [hc] at hb; simp at hb
    | true =>
      rw [hc] at hb
      simp only [cond_true, Option.some.injEq, Prod.mk.injEq] at hb
      simp only [Bool.and_eq_true] at hc
      have := ble_le hc.1.1
      have := ble_le hc.1.2
      have := ble_le hc.2
      omega

def litV : Option Nat → Option Value → Prop
  | none, v' => v' = none
  | some k, v' => ∃ kd, v' = some (.int kd (k : Int))

theorem run_bnds {isSlice : Bool} {len cap : Nat} {lo hi mx : Option Nat} {lo' hi' mx' : Option Value} {l h m : Nat} (hb : bnds len cap lo hi mx = some (l, h, m))
    (h1 : litV lo lo') (h2 : litV hi hi') (h3 : litV mx mx') (w : World) : (Instr.sliceBounds isSlice len cap lo' hi' mx').run P w = .ok (l, h, m) w := by
  have sb : ∀ (kd : IntKind) (k y : Nat) (code : BoundsCode), k ≤ y → (Instr.sliceBound (.int kd (k : Int)) y code).run P w = .ok k w := by
    intro kd k y code hk
    have := run_sliceBound (P := P) (w := w) kd (k : Int) y code (by omega) (by omega)
    simpa using this
  unfold bnds at hb
  split at hb
  · cases hb
  · simp only [litV] at h2 h3
    subst h2; subst h3
    cases hc : Nat.ble (lo.getD 0) len with
    | false => rw [hc] at hb; simp at hb
    | true =>
      rw [hc] at hb
      simp only [cond_true, Option.some.injEq, Prod.mk.injEq] at hb
      obtain ⟨rfl, rfl, rfl⟩ := hb
      have hc := ble_le hc
      cases lo with
      | none => simp only [litV] at h1; subst h1; simp [Instr.sliceBounds]
      | some k => simp only [litV] at h1; obtain ⟨kd, rfl⟩ := h1; simp only [Option.getD_some] at hc; simp [Instr.sliceBounds, sb _ _ _ _ hc]
  · rename_i h'
    simp only [litV] at h2 h3
    obtain ⟨kh, rfl⟩ := h2
    subst h3
    cases hc : (Nat.ble h' cap && Nat.ble (lo.getD 0) h') with
    | false => rw [hc] at hb; simp at hb
    | true =>
      rw [hc] at hb
      simp only [cond_true, Option.some.injEq, Prod.mk.injEq] at hb
      obtain ⟨rfl, rfl, rfl⟩ := hb
      simp only [Bool.and_eq_true] at hc
      have hc1 := ble_le hc.1
      have hc2 := ble_le hc.2
      cases lo with
      | none => simp only [litV] at h1; subst h1; simp [Instr.sliceBounds, sb _ _ _ _ hc1]
      | some k => simp only [litV] at h1; obtain ⟨kd, rfl⟩ := h1; simp only [Option.getD_some] at hc2; simp [Instr.sliceBounds, sb _ _ _ _ hc1, sb _ _ _ _ hc2]
  · rename_i h' m'
    simp only [litV] at h2 h3
    obtain ⟨kh, rfl⟩ := h2
    obtain ⟨km, rfl⟩ := h3
    cases hc : (Nat.ble m' cap && Nat.ble h' m' && Nat.ble (lo.getD 0) h') with
    | false => rw [hc] at hb; simp at hb
    | true =>
      rw [hc] at hb
      simp only [cond_true, Option.some.injEq, Prod.mk.injEq] at hb
      obtain ⟨rfl, rfl, rfl⟩ := hb
      simp only [Bool.and_eq_true] at hc
      have hc0 := ble_le hc.1.1
      have hc1 := ble_le hc.1.2
      have hc2 := ble_le hc.2
      cases lo with
      | none => simp only [litV] at h1; subst h1; simp [Instr.sliceBounds, sb _ _ _ _ hc0, sb _ _ _ _ hc1]
      | some k => simp only [litV] at h1; obtain ⟨kd, rfl⟩ := h1; simp only [Option.getD_some] at hc2; simp [Instr.sliceBounds, sb _ _ _ _ hc0, sb _ _ _ _ hc1, sb _ _ _ _ hc2]

theorem litO_match {v v' : Option Value} {r : Option Nat} (h : litO v = some r) (hv : VRo η μ v v') : litV r v' := by
  cases r with
  | none => exact litO_none h hv
  | some k => exact litO_some h hv

def hSlice (P : Program) (t : TypeId) (x : Value) (lo hi mx : Option Value) : Option Value :=
  match litO lo, litO hi, litO mx, P.underlying t, x with
  | some l, some h, some m, some (.slice e), .slice none n c =>
    bif Nat.beq n 0 && Nat.beq c 0 then
      match bnds 0 0 l h m with
      | some _ => match P.info? e with
        | some _ => some (.slice none 0 0)
        | none => none
      | none => none
    else none
  | some l, some h, some m, some (.slice e), .slice (some ⟨i, o, none⟩) n c =>
    match P.info? e with
    | none => none
    | some f => bif Nat.blt c UNK then
        bif Nat.ble n c then
          match bnds n c l h m with
          | some (l, h, m) => some (.slice (some (if m = l then ⟨i, o, none⟩ else ⟨i, o + l * f.size, none⟩)) (h - l) (m - l))
          | none => none
        else none
      else bif Nat.beq (UNK + f.size) c then
        match bnds n n l h m, m with
        | some (l, h, _), none => some (.slice (some ⟨i, o + l * f.size, none⟩) (h - l) c)
        | some (l, h, m), some _ => bif Nat.beq m l then some (.slice (some ⟨i, o, none⟩) (h - l) c) else some (.slice (some ⟨i, o + l * f.size, none⟩) (h - l) (m - l))
        | _, _ => none
      else none
  | some _, some _, some _, some .string, .string b => bif flatN 1 (.string b) then hFlat P (Instr.sliceAt t x lo hi mx) else none
  | some l, some h, some m, some (.array n e), .pointer (some ⟨i, o, none⟩) =>
    match P.info? e, bnds n n l h m with
    | some f, some (l, h, m) => bif Nat.blt n UNK then some (.slice (some (if m = l then ⟨i, o, none⟩ else ⟨i, o + l * f.size, none⟩)) (h - l) (m - l)) else none
    | _, _ => none
  | _, _, _, _, _ => none

theorem flat_opt {v v' : Option Value} {r : Option Nat} (h : litO v = some r) (hv : VRo η μ v v') : v' = v := by
  cases hv with
  | none => rfl
  | some hv =>
    cases hv <;> simp only [litO, reduceCtorEq] at h
    rename_i kd n
    cases hb : (decide (0 ≤ n) && decide (n < TOK)) with
    | false => rw [hb] at h; simp at h
    | true =>
      simp only [Bool.and_eq_true, decide_eq_true_eq] at hb
      rw [dn_lt hb.2]

/-- Bounds that fit the length fit every capacity. -/
theorem bnds_any {n c : Nat} {lo hi mx : Option Nat} {l h m : Nat} (hnc : n ≤ c) (hb : bnds n n lo hi mx = some (l, h, m)) : bnds n c lo hi mx = some (l, h, if mx.isSome then m else c) := by
  unfold bnds at hb ⊢
  split at hb
  · cases hb
  · cases hc : Nat.ble (lo.getD 0) n with
    | false => rw [hc] at hb; simp at hb
    | true => rw [hc] at hb; simp at hb; obtain ⟨rfl, rfl, rfl⟩ := hb; simp
  · rename_i h'
    cases hc : (Nat.ble h' n && Nat.ble (lo.getD 0) h') with
    | false => rw [hc] at hb; simp at hb
    | true =>
      rw [hc] at hb
      simp at hb
      obtain ⟨rfl, rfl, rfl⟩ := hb
      simp only [Bool.and_eq_true] at hc
      have := ble_le hc.1
      have hb1 : Nat.ble h' c = true := Nat.ble_eq_true_of_le (by omega)
      simp [hb1, hc.2]
  · rename_i h' m'
    cases hc : (Nat.ble m' n && Nat.ble h' m' && Nat.ble (lo.getD 0) h') with
    | false => rw [hc] at hb; simp at hb
    | true =>
      rw [hc] at hb
      simp at hb
      obtain ⟨rfl, rfl, rfl⟩ := hb
      simp only [Bool.and_eq_true] at hc
      have := ble_le hc.1.1
      have hb1 : Nat.ble m' c = true := Nat.ble_eq_true_of_le (by omega)
      simp [hb1, hc.2, hc.1.2]

theorem VR.slice_inv {a : Addr} {n c : Nat} {v' : Value} (h : VR η μ (.slice (some a) n c) v') :
    (∃ i o p, a = ⟨i, o, none⟩ ∧ μ i = some p ∧ c < UNK ∧ v' = .slice (some ⟨p.blk, p.base + o, none⟩) n c) ∨
    (∃ i o p z c', a = ⟨i, o, none⟩ ∧ c = UNK + z ∧ μ i = some p ∧ n ≤ c' ∧ c' ≤ maxLen ∧ o + c' * z ≤ p.room ∧ v' = .slice (some ⟨p.blk, p.base + o, none⟩) n c') ∨
    (∃ z a', c = UNK + z ∧ n = 0 ∧ v' = .slice (some a') 0 0) := by
  cases h with
  | sliceK hp hc => exact .inl ⟨_, _, _, rfl, hp, hc, rfl⟩
  | sliceU hp h1 h2 h3 => exact .inr (.inl ⟨_, _, _, _, _, rfl, rfl, hp, h1, h2, h3, rfl⟩)
  | sliceE => exact .inr (.inr ⟨_, _, rfl, rfl, rfl⟩)

theorem slice_sound {t : TypeId} {x x' v : Value} {lo hi mx lo' hi' mx' : Option Value} (hs : hSlice P t x lo hi mx = some v) (hx : VR η μ x x') (h1 : VRo η μ lo lo') (h2 : VRo η μ hi hi') (h3 : VRo η μ mx mx') (w : World) :
    ∃ v', (Instr.sliceAt t x' lo' hi' mx').run P w = .ok v' w ∧ VR η μ v v' := by
  unfold hSlice at hs
  split at hs
  · rename_i l h m e n c hl hh hm hu
    cases hc : (Nat.beq n 0 && Nat.beq c 0) with
    | false => rw [hc] at hs; simp at hs
    | true =>
      rw [hc] at hs
      simp only [cond_true] at hs
      split at hs
      · rename_i r hr
        obtain ⟨l2, h2', m2⟩ := r
        split at hs
        · rename_i f hf
          simp only [Option.some.injEq] at hs
          subst hs
          cases hx
          have hle := bnds_le (Nat.le_refl 0) hr
          have hrun := run_bnds (P := P) (isSlice := true) hr (litO_match hl h1) (litO_match hh h2) (litO_match hm h3) w
          refine ⟨.slice none 0 0, ?_, .snil⟩
          have e1 : l2 = 0 := by omega
          have e2 : h2' = 0 := by omega
          have e3 : m2 = 0 := by omega
          subst e1; subst e2; subst e3
          simp [Instr.sliceAt, run_underlying hu, Instr.slice, hrun, sizeOf, typeInfo, hf]
        · cases hs
      · cases hs
  · rename_i l h m e i o n c hl hh hm hu
    cases hf : P.info? e with
    | none => simp only [hf] at hs; cases hs
    | some f =>
      simp only [hf] at hs
      cases hck : Nat.blt c UNK with
      | true =>
        rw [hck] at hs
        simp only [cond_true] at hs
        cases hnc : Nat.ble n c with
        | false => rw [hnc] at hs; simp at hs
        | true =>
          rw [hnc] at hs
          simp only [cond_true] at hs
          split at hs
          · rename_i l2 h2' m2 hr
            simp only [Option.some.injEq] at hs
            subst hs
            have hck := blt_lt hck
            have hle := bnds_le (ble_le hnc) hr
            rcases hx.slice_inv with ⟨i, o, p, he, hp, _, rfl⟩ | ⟨_, _, _, z, _, _, hcz, _⟩ | ⟨z, _, hcz, _⟩
            · obtain ⟨rfl, rfl, _⟩ := Addr.mk.inj he
              have hrun := run_bnds (P := P) (isSlice := true) hr (litO_match hl h1) (litO_match hh h2) (litO_match hm h3) w
              refine ⟨.slice (some (if m2 = l2 then ⟨p.blk, p.base + o, none⟩ else (⟨p.blk, p.base + o, none⟩ : Addr).add (l2 * f.size))) (h2' - l2) (m2 - l2), ?_, ?_⟩
              · simp [Instr.sliceAt, run_underlying hu, Instr.slice, hrun, sizeOf, typeInfo, hf]
                split <;> rfl
              · by_cases hml : m2 = l2
                · rw [if_pos hml, if_pos hml]; exact .sliceK hp (by omega)
                · rw [if_neg hml, if_neg hml, add_plain', Nat.add_assoc]; exact .sliceK hp (by omega)
            · exfalso; omega
            · exfalso; omega
          · cases hs
      | false =>
        rw [hck] at hs
        simp only [cond_false] at hs
        cases hcz : Nat.beq (UNK + f.size) c with
        | false => rw [hcz] at hs; simp at hs
        | true =>
          rw [hcz] at hs
          simp only [cond_true] at hs
          have hcz := (beq_iff _ _).1 hcz
          split at hs
          · rename_i l2 h2' m2 hr
            simp only [Option.some.injEq] at hs
            subst hs
            have hle := bnds_le (Nat.le_refl n) hr
            have key : ∀ (a' : Addr) (c' : Nat), n ≤ c' → (Instr.sliceAt t (.slice (some a') n c') lo' hi' mx').run P w = .ok (.slice (some (if c' = l2 then a' else a'.add (l2 * f.size))) (h2' - l2) (c' - l2)) w := by
              intro a' c' hnc
              have hrun := run_bnds (P := P) (isSlice := true) (bnds_any hnc hr) (litO_match hl h1) (litO_match hh h2) (litO_match hm h3) w
              simp only [Option.isSome_none, Bool.false_eq_true, if_false] at hrun
              simp [Instr.sliceAt, run_underlying hu, Instr.slice, hrun, sizeOf, typeInfo, hf]
              split <;> rfl
            rcases hx.slice_inv with ⟨_, _, _, _, _, hcc, _⟩ | ⟨i, o, p, z, c', he, hcz', hp, hn, hm', hr', rfl⟩ | ⟨z, a', hcz', rfl, rfl⟩
            · exfalso; omega
            · obtain ⟨rfl, rfl, _⟩ := Addr.mk.inj he
              obtain rfl : z = f.size := by omega
              rw [hcz']
              refine ⟨_, key _ c' hn, ?_⟩
              by_cases hcl : c' = l2
              · rw [if_pos hcl]
                have e1 : h2' - l2 = 0 := by omega
                have e2 : c' - l2 = 0 := by omega
                rw [e1, e2]
                exact .sliceE
              · rw [if_neg hcl, add_plain', Nat.add_assoc]
                refine .sliceU hp (by omega) (by omega) ?_
                have : (c' - l2) * f.size + l2 * f.size ≤ c' * f.size := by rw [← Nat.add_mul]; exact Nat.mul_le_mul_right _ (by omega)
                omega
            · refine ⟨_, key _ 0 (Nat.le_refl _), ?_⟩
              have e2 : h2' - l2 = 0 := by omega
              rw [e2, hcz']
              simp only [Nat.zero_sub]
              exact .sliceE
          · rename_i l2 h2' m2 k hr
            have hle := bnds_le (Nat.le_refl n) hr
            have key : ∀ (a' : Addr) (c' : Nat), n ≤ c' → (Instr.sliceAt t (.slice (some a') n c') lo' hi' mx').run P w = .ok (.slice (some (if m2 = l2 then a' else a'.add (l2 * f.size))) (h2' - l2) (m2 - l2)) w := by
              intro a' c' hnc
              have hrun := run_bnds (P := P) (isSlice := true) (bnds_any hnc hr) (litO_match hl h1) (litO_match hh h2) (litO_match hm h3) w
              simp only [Option.isSome_some, if_true] at hrun
              simp [Instr.sliceAt, run_underlying hu, Instr.slice, hrun, sizeOf, typeInfo, hf]
              split <;> rfl
            cases hml : Nat.beq m2 l2 with
            | true =>
              rw [hml] at hs
              simp only [cond_true, Option.some.injEq] at hs
              subst hs
              have hml := (beq_iff _ _).1 hml
              have e1 : h2' - l2 = 0 := by omega
              have e2 : m2 - l2 = 0 := by omega
              rcases hx.slice_inv with ⟨_, _, _, _, _, hcc, _⟩ | ⟨i, o, p, z, c', he, hcz', hp, hn, hm', hr', rfl⟩ | ⟨z, a', hcz', rfl, rfl⟩
              · exfalso; omega
              · refine ⟨_, key _ _ hn, ?_⟩
                rw [if_pos hml, e1, e2, hcz']
                exact .sliceE
              · refine ⟨_, key _ 0 (Nat.le_refl _), ?_⟩
                rw [if_pos hml, e1, e2, hcz']
                exact .sliceE
            | false =>
              rw [hml] at hs
              simp only [cond_false, Option.some.injEq] at hs
              subst hs
              have hml' : ¬ m2 = l2 := fun e => by rw [(beq_iff _ _).2 e] at hml; cases hml
              rcases hx.slice_inv with ⟨_, _, _, _, _, hcc, _⟩ | ⟨i, o, p, z, c', he, hcz', hp, hn, hm', hr', rfl⟩ | ⟨z, a', hcz', rfl, rfl⟩
              · exfalso; omega
              · obtain ⟨rfl, rfl, _⟩ := Addr.mk.inj he
                refine ⟨_, key _ _ hn, ?_⟩
                rw [if_neg hml', add_plain', Nat.add_assoc]
                refine .sliceK hp ?_
                simp only [maxLen] at hm'
                simp only [UNK]
                omega
              · exfalso; omega
          · cases hs
  · rename_i l h m b hl hh hm hu
    cases hx
    obtain rfl := flat_opt hl h1
    obtain rfl := flat_opt hh h2
    obtain rfl := flat_opt hm h3
    simp only [flatN, cond_true] at hs
    exact ⟨v, hFlat_sound hs w⟩
  · rename_i l h m n e i o hl hh hm hu
    split at hs
    · rename_i f l2 h2' m2 hf hr
      cases hnu : Nat.blt n UNK with
      | false => rw [hnu] at hs; simp at hs
      | true =>
        rw [hnu] at hs
        simp only [cond_true, Option.some.injEq] at hs
        subst hs
        have hnu := blt_lt hnu
        have hle := bnds_le (Nat.le_refl n) hr
        cases hx with
        | ptr hp =>
          rename_i p
          have hrun := run_bnds (P := P) (isSlice := false) hr (litO_match hl h1) (litO_match hh h2) (litO_match hm h3) w
          refine ⟨.slice (some (if m2 = l2 then ⟨p.blk, p.base + o, none⟩ else (⟨p.blk, p.base + o, none⟩ : Addr).add (l2 * f.size))) (h2' - l2) (m2 - l2), ?_, ?_⟩
          · simp [Instr.sliceAt, run_underlying hu, Instr.sureAddr, hrun, sizeOf, typeInfo, hf]
          · by_cases hml : m2 = l2
            · rw [if_pos hml, if_pos hml]; exact .sliceK hp (by omega)
            · rw [if_neg hml, if_neg hml, add_plain', Nat.add_assoc]; exact .sliceK hp (by omega)
    · cases hs
  · cases hs

/-! ### make -/
def hMakeSlice (P : Program) (s : St) (t : TypeId) (l c : Value) : Option (Value × St) :=
  match litO (some l), litO (some c), P.underlying t with
  | some (some n), some (some k), some (.slice e) => match P.info? e, zeroC P e with
    | some f, some z => bif Nat.ble n k && Nat.ble (f.bytes * k) 281474976710656 && Nat.ble k 1000000000 && Nat.beq z.length f.size then
        (hNew s (rep k z) e).map fun (i, s') => (.slice (some ⟨i, 0, none⟩) n k, s')
      else none
    | _, _ => none
  | _, _, _ => none

theorem makeSlice_sound (h : R η w0 μ s w) {t : TypeId} {l c l' c' v : Value} {s' : St} (hm : hMakeSlice P s t l c = some (v, s')) (hl : VR η μ l l') (hc : VR η μ c c') :
    ∃ v' w' μ', (Instr.makeSlice t l' c').run P w = .ok v' w' ∧ μ.le μ' ∧ R η w0 μ' s' w' ∧ VR η μ' v v' := by
  unfold hMakeSlice at hm
  split at hm
  · rename_i n k e h1 h2 hu
    split at hm
    · rename_i f z hf hz
      cases hb : (Nat.ble n k && Nat.ble (f.bytes * k) 281474976710656 && Nat.ble k 1000000000 && Nat.beq z.length f.size) with
      | false => rw [hb] at hm; simp at hm
      | true =>
        rw [hb] at hm
        simp only [cond_true, Option.map_eq_some_iff, Prod.mk.injEq] at hm
        obtain ⟨⟨i, s1⟩, hn, rfl, rfl⟩ := hm
        simp only [Bool.and_eq_true] at hb
        obtain ⟨⟨⟨b1, b2⟩, b3⟩, b4⟩ := hb
        have b1 := ble_le b1
        have b2 := ble_le b2
        have b3 := ble_le b3
        have b4 := (beq_iff _ _).1 b4
        obtain ⟨kl, e1⟩ := litO_some h1 (.some hl)
        obtain ⟨kc, e2⟩ := litO_some h2 (.some hc)
        simp only [Option.some.injEq] at e1 e2
        subst e1; subst e2
        obtain ⟨f', z', k1, k2, rfl, k3⟩ := zeroC_some hz
        rw [hf] at k1; cases k1
        obtain ⟨μ', m1, m2, _, m4⟩ := new_ptr h hn (rep_vr (zero_flat k3) k)
        have hsz : z'.cells.size = f.size := by simpa using b4
        have hrun := run_make (P := P) (w := w) t e f z' hu hf k2 kl kc n k (by omega) (by omega) (by
          have h : ((f.bytes * k : Nat) : Int) ≤ 281474976710656 := by omega
          rwa [Int.natCast_mul] at h) (by omega)
        simp only [Int.toNat_natCast] at hrun
        refine ⟨_, _, μ', hrun, m1, ?_, ?_⟩
        · have : madeCells z'.cells (k * f.size) = ⟨rep k z'.cells.toList⟩ := by
            apply Array.ext'
            rw [← rep_eq k z'.cells f.size hsz.symm]
            rfl
          rw [this]
          exact m2
        · have := VR.sliceK (η := η) (o := 0) (n := n) m4 (show k < UNK by simp only [UNK]; omega)
          simpa using this
    · cases hm
  · cases hm

end
end Go.Hx
