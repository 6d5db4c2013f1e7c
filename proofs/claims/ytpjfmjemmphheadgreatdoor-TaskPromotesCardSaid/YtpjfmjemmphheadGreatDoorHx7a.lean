/- The executor's steps: maps with integer keys, methods behind interface values. -/
import Derived.Test.YtpjfmjemmphheadGreatDoorHx7
namespace Go.Hx
open Go Go.RowKit

/-- Where an integer stands among the keys: none: a key is not known. -/
def lookE (k : IntKind) (n : Int) : List MapEntry → Nat → Option (Option (Nat × Value))
  | [], _ => some none
  | e :: es, i => match e.key with
    | .int k' m => bif decide (k = k') && decide (m < TOK) then
        bif decide (n = m) then some (some (i, e.val)) else lookE k n es (i + 1)
      else none
    | _ => none

section
variable {η : Env} {w0 : Base} {μ : Mu} {s : St} {w : World} {P : Program}

theorem EsR.tail {e e' : MapEntry} {es es' : List MapEntry} (h : EsR η μ (e :: es) (e' :: es')) : EsR η μ es es' :=
  ⟨by simpa using h.1, fun j x hj => h.2 (j + 1) x (by simpa using hj)⟩

theorem lookE_sound {k : IntKind} {n : Int} {d : IntKind} : ∀ (es es' : List MapEntry) (i : Nat) (r : Option (Nat × Value)), EsR η μ es es' → lookE k n es i = some r →
    ∃ r', Instr.findNow (.int d) (.int k n) es' i = some r' ∧ (match r, r' with
      | none, none => True
      | some (j, v), some (j', v') => j' = j ∧ VR η μ v v'
      | _, _ => False) := by
  intro es
  induction es with
  | nil =>
    intro es' i r h hl
    have : es' = [] := by have := h.1; simp at this; exact List.eq_nil_of_length_eq_zero this.symm
    subst this
    cases hl
    exact ⟨none, rfl, trivial⟩
  | cons e es ih =>
    intro es' i r h hl
    cases es' with
    | nil => have := h.1; simp at this
    | cons e' es' =>
      obtain ⟨e2, k1, k2, k3, k4⟩ := h.2 0 e rfl
      simp at k1
      subst k1
      simp only [lookE] at hl
      split at hl
      · rename_i k' m hk
        cases hc : (decide (k = k') && decide (m < TOK)) with
        | false => rw [hc] at hl; simp at hl
        | true =>
          rw [hc] at hl
          simp only [cond_true] at hl
          simp only [Bool.and_eq_true, decide_eq_true_eq] at hc
          rw [hk] at k2
          generalize hkey : e'.key = key' at k2
          cases k2 with
          | int _ _ =>
            rw [dn_lt hc.2] at hkey
            have hs : Instr.sameNow (.int d) (.int k n) e'.key = some (n == m) := by
              rw [hkey]; simp [Instr.sameNow, hc.1]
            cases hn : decide (n = m) with
            | true =>
              rw [hn] at hl
              cases hl
              refine ⟨some (i, e'.val), ?_, rfl, k3⟩
              have : (n == m) = true := by simpa using hn
              simp only [Instr.findNow, hs, this]
            | false =>
              rw [hn] at hl
              simp only [cond_false] at hl
              obtain ⟨r', h1, h2⟩ := ih es' (i + 1) r h.tail hl
              refine ⟨r', ?_, h2⟩
              have : (n == m) = false := by simpa using hn
              simp only [Instr.findNow, hs, this]
              exact h1
      · cases hl

def hEntries (s : St) : Value → Option (List MapEntry)
  | .map none => some []
  | .map (some i) => match s.h.get i with
    | some (.map es _) => some es
    | some (.rm es _) => some es
    | _ => none
  | _ => none

def hLookup (P : Program) (s : St) (t : TypeId) (x k : Value) (ok : Bool) : Option Value :=
  match P.underlying t, k, hEntries s x with
  | some (.map key elem), .int kk n, some es => bif decide (n < TOK) then
      match P.underlying key, lookE kk n es 0 with
      | some (.int _), some (some (_, v)) => some (bif ok then .tuple ⟨[v, .bool true]⟩ else v)
      | some (.int _), some none => match hFlat P (zeroValue elem) with
        | some z => some (bif ok then .tuple ⟨[z, .bool false]⟩ else z)
        | none => none
      | _, _ => none
    else none
  | _, _, _ => none

theorem run_checkKey_int {key : TypeId} {d kk : IntKind} {n : Int} (hk : P.underlying key = some (.int d)) (b : Bool) (w : World) : (Instr.checkKey b 10000 key (.int kk n)).run P w = .ok () w := by
  have key' : ∀ m, (Instr.checkKey b (m + 1) key (.int kk n)).run P w = .ok () w := fun m => by simp [Instr.checkKey, run_underlying hk]
  exact key' 9999

theorem lookup_still (h : R η w0 μ s w) {t : TypeId} {x k x' k' v : Value} {ok : Bool} (hl : hLookup P s t x k ok = some v) (hx : VR η μ x x') (hk : VR η μ k k') :
    ∃ v', (∀ w1 : World, (∀ r, x' = .map (some r) → w1.heap[r]? = w.heap[r]?) → (Instr.lookup t x' k' ok).run P w1 = .ok v' w1) ∧ VR η μ v v' := by
  unfold hLookup at hl
  split at hl
  · rename_i key elem kk n es hu hes
    cases hn : decide (n < TOK) with
    | false => rw [hn] at hl; simp at hl
    | true =>
      rw [hn] at hl
      simp only [cond_true] at hl
      have hn' : n < TOK := by simpa using hn
      cases hk with
      | int _ _ =>
        rw [dn_lt hn']
        have hent : ∃ es', EsR η μ es es' ∧ ((∃ a, x' = .map none ∧ es' = a ∧ a = []) ∨ ∃ r a c, x' = .map (some r) ∧ w.heap[r]? = some (.map a c) ∧ a.toList = es') := by
          unfold hEntries at hes
          split at hes
          · cases hes
            cases hx
            exact ⟨[], ⟨rfl, fun j e hj => by simp at hj⟩, .inl ⟨[], rfl, rfl, rfl⟩⟩
          · rename_i i
            split at hes
            · rename_i es0 c hg
              cases hes
              cases hx with
              | map hp =>
                obtain ⟨p, es', h1, h2, h3, h4⟩ := h.map _ _ _ hg
                rw [hp] at h1; cases h1
                exact ⟨es'.toList, h4, .inr ⟨_, es', c, rfl, h2, rfl⟩⟩
            · rename_i es0 c hg
              cases hes
              cases hx with
              | map hp =>
                obtain ⟨p, es', h1, h2, h3, h4⟩ := h.rm _ _ _ hg
                rw [hp] at h1; cases h1
                exact ⟨es'.toList, h4, .inr ⟨_, es', c, rfl, h3, rfl⟩⟩
            · cases hes
          · cases hes
        obtain ⟨es', hE, hcase⟩ := hent
        have hrun : ∀ (w1 : World), (∀ r, x' = .map (some r) → w1.heap[r]? = w.heap[r]?) → ∀ (d : IntKind) (r' : Option (Nat × Value)), P.underlying key = some (.int d) → Instr.findNow (.int d) (.int kk n) es' 0 = some r' →
            (Instr.lookup t x' (.int kk n) ok).run P w1 = ((do
              let (v, b) ← match r' with
                | some (_, v) => pure (v, true)
                | none => pure (← zeroValue elem, false)
              pure (if ok then .tuple #[v, .bool b] else v) : Sem Value).run P w1) := by
          intro w1 hw1 d r' hkey hf
          rcases hcase with ⟨a, rfl, rfl, rfl⟩ | ⟨r, a, c, rfl, hb, rfl⟩
          · have hf' : Instr.findNow (.int d) (.int kk n) [] 0 = some r' := hf
            simp only [Instr.lookup, Sem.run_bind, run_underlying hu, Result.andThen_ok, Sem.run_pure, run_checkKey_int hkey, Instr.findKey, run_underlying hkey, hf']
            cases r' <;> rfl
          · have hb1 := (hw1 r rfl).trans hb
            simp only [Instr.lookup, Sem.run_bind, run_underlying hu, Result.andThen_ok, Sem.run_pure, getObj, Sem.run, hb1, run_checkKey_int hkey, Instr.findKey, run_underlying hkey, hf]
            cases r' <;> rfl
        split at hl
        · rename_i d i v0 hkey hlk
          obtain ⟨r', h1, h2⟩ := lookE_sound (d := d) es es' 0 _ hE hlk
          cases r' with
          | none => exact h2.elim
          | some r' =>
            obtain ⟨j, v'⟩ := r'
            cases hl
            cases ok with
            | true => exact ⟨.tuple #[v', .bool true], fun w1 hw1 => by rw [hrun w1 hw1 d _ hkey h1]; rfl, .tuple (.cons h2.2 (.cons (.bool _) .nil))⟩
            | false => exact ⟨v', fun w1 hw1 => by rw [hrun w1 hw1 d _ hkey h1]; rfl, h2.2⟩
        · rename_i d hkey hlk
          obtain ⟨r', h1, h2⟩ := lookE_sound (d := d) es es' 0 _ hE hlk
          split at hl
          · rename_i z hz
            cases r' with
            | some r' => exact h2.elim
            | none =>
              cases hl
              have k2 := (hFlat_sound (η := η) (μ := μ) hz w).2
              cases ok with
              | true => exact ⟨.tuple #[z, .bool false], fun w1 hw1 => by rw [hrun w1 hw1 d _ hkey h1]; simp only [Sem.run_bind, (hFlat_sound (η := η) (μ := μ) hz w1).1, Result.andThen_ok, Sem.run_pure, if_true], .tuple (.cons k2 (.cons (.bool _) .nil))⟩
              | false => exact ⟨z, fun w1 hw1 => by rw [hrun w1 hw1 d _ hkey h1]; simp only [Sem.run_bind, (hFlat_sound (η := η) (μ := μ) hz w1).1, Result.andThen_ok, Sem.run_pure, Bool.false_eq_true, if_false], k2⟩
          · cases hl
        · cases hl
  · cases hl

theorem lookup_sound (h : R η w0 μ s w) {t : TypeId} {x k x' k' v : Value} {ok : Bool} (hl : hLookup P s t x k ok = some v) (hx : VR η μ x x') (hk : VR η μ k k') :
    ∃ v', (Instr.lookup t x' k' ok).run P w = .ok v' w ∧ VR η μ v v' :=
  let ⟨v', h1, h2⟩ := lookup_still h hl hx hk
  ⟨v', h1 w (fun _ _ => rfl), h2⟩

def hMakeMap (s : St) : Option (Value × St) :=
  (Tr.set 64 s.h s.next (.map [] 0)).map fun h => (.map (some s.next), { s with h := h, next := s.next + 1 })

theorem makeMap_sound (h : R η w0 μ s w) {t : TypeId} {v : Value} {s' : St} (hm : hMakeMap s = some (v, s')) :
    ∃ v' w' μ', (Instr.makeMap t none).run P w = .ok v' w' ∧ μ.le μ' ∧ R η w0 μ' s' w' ∧ VR η μ' v v' := by
  unfold hMakeMap at hm
  simp only [Option.map_eq_some_iff, Prod.mk.injEq] at hm
  obtain ⟨u, hu, rfl, rfl⟩ := hm
  refine ⟨_, _, _, rfl, Mu.put_le (h.fresh _ (Nat.le_refl _)), h.allocMap hu, ?_⟩
  exact .map (p := ⟨w.heap.size, 0, 0, undef⟩) (Mu.put_same _ _ _)

def hMapUpdate (P : Program) (s : St) (t : TypeId) (m k v : Value) : Option St :=
  match P.underlying t, m, k with
  | some (.map key _), .map (some i), .int kk n => bif decide (n < TOK) then
      match P.underlying key, s.h.get i with
      | some (.int _), some (.map es c) => match lookE kk n es 0 with
        | some none => (Tr.set 64 s.h i (.map (es ++ [{ key := .int kk n, val := v, born := c }]) (c + 1))).map fun h => { s with h := h }
        | _ => none
      | _, _ => none
    else none
  | _, _, _ => none

theorem mapUpdate_sound (h : R η w0 μ s w) {t : TypeId} {m k v m' k' v' : Value} {s' : St} (hu : hMapUpdate P s t m k v = some s') (hm : VR η μ m m') (hk : VR η μ k k') (hv : VR η μ v v') :
    ∃ w', (Instr.mapUpdate t m' k' v').run P w = .ok () w' ∧ R η w0 μ s' w' := by
  unfold hMapUpdate at hu
  split at hu
  · rename_i key elem i kk n hut
    cases hb : decide (n < TOK) with
    | false => rw [hb] at hu; simp at hu
    | true =>
      rw [hb] at hu
      simp only [cond_true] at hu
      simp only [decide_eq_true_eq] at hb
      cases hk with
      | int _ _ =>
        rw [dn_lt hb]
        split at hu
        · rename_i d es c hkey hg
          split at hu
          · rename_i hlk
            simp only [Option.map_eq_some_iff] at hu
            obtain ⟨tr, htr, rfl⟩ := hu
            cases hm with
            | map hp =>
              rename_i p
              obtain ⟨q, es', h1, h2, h3, h4⟩ := h.map _ _ _ hg
              rw [hp] at h1; cases h1
              obtain ⟨r', k1, k2⟩ := lookE_sound (d := d) es es'.toList 0 _ h4 hlk
              cases r' with
              | some r' => exact k2.elim
              | none =>
                have hlt := block_lt h2
                refine ⟨{ w with heap := w.heap.setIfInBounds p.blk (.map (es'.push { key := .int kk n, val := v', born := c }) (c + 1)) }, ?_, ?_⟩
                · simp only [Instr.mapUpdate, Sem.run_bind, run_underlying hut, Result.andThen_ok, getObj, Sem.run, h2, Sem.run_pure, run_checkKey_int hkey, Instr.findKey, run_underlying hkey, k1, setObj]
                · refine h.updAny (O' := .map (es'.push { key := .int kk n, val := v', born := c }) (c + 1)) hg htr hp h2 (.inr ⟨_, _, _, _, _, _, rfl, rfl, rfl, rfl, ?_⟩) ?_ ?_ ?_ ?_
                  · refine ⟨by have := h4.1; simp; simpa using this, fun j e hj => ?_⟩
                    rw [Array.toList_push]
                    rcases Nat.lt_or_ge j es.length with hjl | hjl
                    · rw [List.getElem?_append_left hjl] at hj
                      obtain ⟨e', m1, m2⟩ := h4.2 j e hj
                      have hjl' : j < es'.toList.length := by rw [← h4.1]; exact hjl
                      exact ⟨e', by rw [List.getElem?_append_left hjl']; exact m1, m2⟩
                    · rw [List.getElem?_append_right hjl] at hj
                      have hj0 : j - es.length = 0 := by
                        rcases Nat.eq_zero_or_pos (j - es.length) with h0 | h0
                        · exact h0
                        · rw [List.getElem?_eq_none (by simp; omega)] at hj; cases hj
                      rw [hj0] at hj
                      simp at hj
                      subst hj
                      have hjl' : es'.toList.length ≤ j := by rw [← h4.1]; exact hjl
                      refine ⟨{ key := .int kk n, val := v', born := c }, ?_, ?_, hv, rfl⟩
                      · rw [List.getElem?_append_right hjl', ← h4.1, hj0]; rfl
                      · have := VR.int (η := η) (μ := μ) kk n; rw [dn_lt hb] at this; exact this
                  · refine w0.upd w _ p.blk h.below h3 ⟨rfl, rfl, rfl, by simp, fun g hg' => ?_⟩
                    simp [Ne.symm hg']
                  · simp
                  · simp [hlt]
                  · intro g hg'
                    simp [Ne.symm hg']
          · cases hu
        · cases hu
  · cases hu

/-- The function behind a method of an interface value, and its receiver. -/
def hMethod (P : Program) (name : String) : Value → Option (FuncId × Value)
  | .iface t v => match P.info? t, P.underlying t with
    | some inf, some d => match inf.methods.find? (·.name == name) with
      | some m => match m.path.toList, m.func, d with
        | [], some (f, true), .pointer _ => some (f, v)
        | _, _, _ => none
      | none => none
    | _, _ => none
  | _ => none

theorem method_sound {name : String} {v v' r : Value} {f : FuncId} (hm : hMethod P name v = some (f, r)) (hv : VR η μ v v') :
    ∃ r', VR η μ r r' ∧ ∀ (args : Array Value) (w : World), (callMethod v' name args).run P w = (callFunc f (#[r'] ++ args)).run P w := by
  unfold hMethod at hm
  split at hm
  · rename_i t u
    split at hm
    · rename_i inf d hinf hd
      split at hm
      · rename_i m hfind
        split at hm
        · rename_i f0 e hp hf
          simp only [Option.some.injEq, Prod.mk.injEq] at hm
          obtain ⟨rfl, rfl⟩ := hm
          cases hv with
          | iface hv =>
            rename_i u'
            refine ⟨u', hv, fun args w => ?_⟩
            have hN : ∃ N, P.types.size + Made.depth = N + 1 := by
              have h0 : 0 < Made.depth := by decide
              exact ⟨P.types.size + Made.depth - 1, by omega⟩
            obtain ⟨N, hN⟩ := hN
            have hme : (method (P.types.size + Made.depth) t u' name).run P w = .ok (f0, u') w := by
              rw [hN]
              simp only [method, Sem.run_bind, typeInfo, run_program, Result.andThen_ok, hinf, Sem.run_pure, hfind, hp, follow, hf, receiverAt, run_underlying hd, Place.get]
            simp only [callMethod, Sem.run_bind, run_program, Result.andThen_ok, hme]
        · cases hm
      · cases hm
    · cases hm
  · cases hm

end
end Go.Hx
