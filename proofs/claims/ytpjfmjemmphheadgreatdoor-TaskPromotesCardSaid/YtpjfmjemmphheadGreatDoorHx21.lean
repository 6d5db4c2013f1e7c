/- What an argument that reads as data is: truth values, integers, slices of such, slices of objects. -/
import Derived.Test.YtpjfmjemmphheadGreatDoorHx20
import GoSem.ClaimJoined
namespace Go.Hx
open Go Go.RowKit

inductive Kd where
  | b
  | i
  | s (t : TypeId)

def kdFs (P : Program) (rc : TypeId → Option (List Kd)) : Nat → List Field → Option (List Kd)
  | _, [] => some []
  | o, f :: fs => bif Nat.beq f.offset o then match rc f.type with
      | some l => bif Nat.beq (P.cellsOf f.type) l.length then (kdFs P rc (o + l.length) fs).map (l ++ ·) else none
      | none => none
    else none

def kdOf (P : Program) : Nat → TypeId → Option (List Kd)
  | 0, _ => none
  | d + 1, t => match P.underlying t with
    | some .bool => some [.b]
    | some (.int .i64) => some [.i]
    | some (.slice _) => some [.s t]
    | some (.struct fs) => match kdFs P (kdOf P d) 0 fs.toList with
      | some l => bif Nat.beq (P.cellsOf t) l.length then some l else none
      | none => none
    | some (.array n e) => match kdOf P d e with
      | some l => bif Nat.beq (P.cellsOf e) l.length && Nat.beq (P.cellsOf t) (n * l.length) && Nat.blt 0 l.length then some (List.replicate n l).flatten else none
      | none => none
    | _ => none

section
variable {H : Type} {enc : TypeId × Value → H} {P : Program} {W : World} {base : Nat} {sp : Nat → Bool} {held : Bool}

/-- Not more than can be reached. -/
def small (P : Program) (t : TypeId) (d : DataW H) : Prop := ∀ n ∈ d.weights P t, n ≤ reachBytes

def KdAt (enc : TypeId × Value → H) (P : Program) (W : World) (base : Nat) (sp : Nat → Bool) (held : Bool) (k : Kd) (u : Value) : Prop :=
  match k with
  | .b => ∃ c, u = .bool c
  | .i => ∃ n, u = .int .i64 n
  | .s t => ∃ fuel d ps, DataW.trod enc P W base sp held fuel t [u] = some (d, ps) ∧ small P t d

theorem mapM_get {α β : Type} {f : α → Option β} : ∀ {l : List α} {r : List β}, l.mapM f = some r → r.length = l.length ∧ ∀ (i : Nat) (x : α), l[i]? = some x → ∃ y, r[i]? = some y ∧ f x = some y := by
  intro l
  induction l with
  | nil => intro r h; simp at h; subst h; exact ⟨rfl, fun i x hi => by simp at hi⟩
  | cons a l ih =>
    intro r h
    simp only [List.mapM_cons, Option.bind_eq_bind, Option.bind_eq_some_iff] at h
    obtain ⟨y, hy, r', hr', h⟩ := h
    cases h
    obtain ⟨h1, h2⟩ := ih hr'
    refine ⟨by simp [h1], fun i x hi => ?_⟩
    cases i with
    | zero => simp at hi; subst hi; exact ⟨y, rfl, hy⟩
    | succ i => simpa using h2 i x (by simpa using hi)

def KdOK (enc : TypeId × Value → H) (P : Program) (W : World) (base : Nat) (sp : Nat → Bool) (held : Bool) (kd : List Kd) (cs : List Value) : Prop :=
  cs.length = kd.length ∧ ∀ (j : Nat) (k : Kd) (u : Value), kd[j]? = some k → cs[j]? = some u → KdAt enc P W base sp held k u

theorem KdOK.append {a b : List Kd} {x y : List Value} (h1 : KdOK enc P W base sp held a x) (h2 : KdOK enc P W base sp held b y) : KdOK enc P W base sp held (a ++ b) (x ++ y) := by
  refine ⟨by simp [h1.1, h2.1], fun j k u hk hu => ?_⟩
  have := h1.1
  by_cases hj : j < a.length
  · rw [List.getElem?_append_left hj] at hk
    rw [List.getElem?_append_left (by omega)] at hu
    exact h1.2 j k u hk hu
  · rw [List.getElem?_append_right (by omega)] at hk
    rw [List.getElem?_append_right (by omega), this] at hu
    exact h2.2 _ k u hk hu

theorem mem_each {ts : List TypeId} {ds : List (DataW H)} {j : Nat} {t : TypeId} {d : DataW H} (ht : ts[j]? = some t) (hd : ds[j]? = some d) {n : Nat} (hn : n ∈ d.weights P t) : n ∈ DataW.weightsEach P ts ds := by
  induction ts generalizing ds j with
  | nil => simp at ht
  | cons t0 ts ih =>
    cases ds with
    | nil => simp at hd
    | cons d0 ds =>
      simp only [DataW.weightsEach, List.mem_append]
      cases j with
      | zero => simp at ht hd; subst ht; subst hd; exact .inl hn
      | succ j => exact .inr (ih (by simpa using ht) (by simpa using hd))

theorem mem_all {e : TypeId} {ds : List (DataW H)} {j : Nat} {d : DataW H} (hd : ds[j]? = some d) {n : Nat} (hn : n ∈ d.weights P e) : n ∈ DataW.weightsAll P e ds := by
  induction ds generalizing j with
  | nil => simp at hd
  | cons d0 ds ih =>
    simp only [DataW.weightsAll, List.mem_append]
    cases j with
    | zero => simp at hd; subst hd; exact .inl hn
    | succ j => exact .inr (ih (by simpa using hd))

theorem kdFs_ok {D fuel : Nat} {cs : List Value} (ih : ∀ (t : TypeId) (cs : List Value) (x : DataW H × List MemPlace) (kd : List Kd), kdOf P D t = some kd → DataW.trod enc P W base sp held fuel t cs = some x → small P t x.1 → KdOK enc P W base sp held kd cs) :
    ∀ (fs : List Field) (o : Nat) (l : List Kd) (r : List (DataW H × List MemPlace)), kdFs P (kdOf P D) o fs = some l →
      fs.mapM (fun f => DataW.trod enc P W base sp held fuel f.type ((cs.drop f.offset).take (P.cellsOf f.type))) = some r → (∀ (i : Nat) (f : Field) (y : DataW H × List MemPlace), fs[i]? = some f → r[i]? = some y → small P f.type y.1) →
      KdOK enc P W base sp held l ((cs.drop o).take l.length) := by
  intro fs
  induction fs with
  | nil => intro o l r h _ _; cases h; exact ⟨by simp, fun j k u hk => by simp at hk⟩
  | cons f fs ihf =>
    intro o l r h hr hs
    simp only [kdFs] at h
    have h2 := bif_some h
    clear h
    obtain ⟨ho, h⟩ := h2
    rw [beq_iff] at ho
    subst ho
    split at h
    · rename_i lf hlf
      have h2 := bif_some h
      clear h
      obtain ⟨hc, h⟩ := h2
      rw [beq_iff] at hc
      simp only [Option.map_eq_some_iff] at h
      obtain ⟨l', hl', rfl⟩ := h
      simp only [List.mapM_cons, Option.bind_eq_bind, Option.bind_eq_some_iff] at hr
      obtain ⟨y, hy, r', hr', h⟩ := hr
      cases h
      have k1 := ih f.type _ y lf hlf hy (hs 0 f y rfl rfl)
      have k2 := ihf _ l' r' hl' hr' (fun i g z hg hz => hs (i + 1) g z (by simpa using hg) (by simpa using hz))
      rw [hc] at k1
      have e1 : (cs.drop f.offset).take (lf ++ l').length = (cs.drop f.offset).take lf.length ++ (cs.drop (f.offset + lf.length)).take l'.length := by
        rw [List.length_append, List.take_add, List.drop_drop]
      rw [e1]
      exact k1.append k2
    · cases h

theorem rep_ok {z : Nat} {kd : List Kd} (hz : kd.length = z) {cs : List Value} : ∀ (m o : Nat), (∀ i, i < m → KdOK enc P W base sp held kd ((cs.drop (o + i * z)).take z)) → KdOK enc P W base sp held (List.replicate m kd).flatten ((cs.drop o).take (m * z)) := by
  intro m
  induction m with
  | zero => intro o _; simp; exact ⟨rfl, fun j k u hk => by simp at hk⟩
  | succ m ih =>
    intro o h
    have k1 := h 0 (by omega)
    rw [Nat.zero_mul, Nat.add_zero] at k1
    have k2 := ih (o + z) (fun i hi => by
      have := h (i + 1) (by omega)
      rwa [show o + (i + 1) * z = o + z + i * z by rw [Nat.add_mul]; omega] at this)
    have e1 : (cs.drop o).take ((m + 1) * z) = (cs.drop o).take z ++ (cs.drop (o + z)).take (m * z) := by
      rw [show (m + 1) * z = z + m * z by rw [Nat.add_mul]; omega, List.take_add, List.drop_drop]
    rw [e1, List.replicate_succ, List.flatten_cons]
    exact k1.append k2

theorem trod_kd : ∀ (D fuel : Nat) (t : TypeId) (cs : List Value) (x : DataW H × List MemPlace) (kd : List Kd), kdOf P D t = some kd → DataW.trod enc P W base sp held fuel t cs = some x → small P t x.1 → KdOK enc P W base sp held kd cs := by
  intro D
  induction D with
  | zero => intro fuel t cs x kd h; cases h
  | succ D ih =>
    intro fuel t cs x kd hk ht hs
    cases fuel with
    | zero => simp [DataW.trod] at ht
    | succ fuel =>
    have ht0 := ht
    simp only [kdOf] at hk
    unfold DataW.trod at ht
    split at hk
    · rename_i hu
      cases hk
      simp only [hu] at ht
      split at ht <;> simp_all
      exact ⟨rfl, fun j k u hk hu => by
        cases j with
        | zero => simp at hk hu; subst hk; subst hu; exact ⟨_, rfl⟩
        | succ j => simp at hk⟩
    · rename_i hu
      cases hk
      simp only [hu] at ht
      split at ht <;> simp_all
      obtain ⟨⟨e1, _⟩, _⟩ := ht
      subst_vars
      exact ⟨rfl, fun j k u hk hu => by
        cases j with
        | zero => simp at hk hu; subst hk; subst hu; exact ⟨_, rfl⟩
        | succ j => simp at hk⟩
    · rename_i e hu
      cases hk
      have hlen : ∃ u, cs = [u] := by
        simp only [hu] at ht
        split at ht <;> simp_all
      obtain ⟨u, rfl⟩ := hlen
      exact ⟨rfl, fun j k u' hk hu' => by
        cases j with
        | zero => simp at hk hu'; subst hk; subst hu'; exact ⟨_, _, _, ht0, hs⟩
        | succ j => simp at hk⟩
    · rename_i fs hu
      split at hk
      · rename_i l hl
        have hk2 := bif_some hk
        clear hk
        obtain ⟨hc, hk⟩ := hk2
        rw [beq_iff] at hc
        cases hk
        simp only [hu] at ht
        split at ht
        · rename_i hlen
          simp only [Option.map_eq_some_iff] at ht
          obtain ⟨r, hr, rfl⟩ := ht
          obtain ⟨hrl, hrg⟩ := mapM_get hr
          have := kdFs_ok (ih fuel) fs.toList 0 kd r hl hr (fun i f y hf hy n hn => hs n (by
            simp only [DataW.weights, hu]
            exact mem_each (j := i) (t := f.type) (d := y.1) (by simp [hf]) (by simp [hy]) hn))
          rw [List.drop_zero, List.take_of_length_le (by omega)] at this
          exact this
        · cases ht
      · cases hk
    · rename_i n e hu
      split at hk
      · rename_i l hl
        have hk2 := bif_some hk
        clear hk
        obtain ⟨hc, hk⟩ := hk2
        simp only [Bool.and_eq_true, beq_iff] at hc
        obtain ⟨⟨hc1, hc2⟩, hc3⟩ := hc
        cases hk
        simp only [hu] at ht
        split at ht
        · rename_i hlen
          simp only [Option.map_eq_some_iff] at ht
          obtain ⟨r, hr, rfl⟩ := ht
          obtain ⟨hrl, hrg⟩ := mapM_get hr
          rw [hc1] at hrg
          have := rep_ok (enc := enc) (P := P) (W := W) (base := base) (sp := sp) (held := held) (z := l.length) (kd := l) rfl (cs := cs) n 0 (fun i hi => by
            obtain ⟨y, hy1, hy2⟩ := hrg i i (by simp [hi])
            rw [Nat.zero_add]
            exact ih fuel e _ y l hl hy2 (fun m hm => hs m (by
              simp only [DataW.weights, hu]
              exact mem_all (j := i) (d := y.1) (by simp [hy1]) hm)))
          rw [List.drop_zero, List.take_of_length_le (by omega)] at this
          exact this
        · cases ht
      · cases hk
    · cases hk

theorem add_add (a : Addr) (m k : Nat) : (a.add m).add k = a.add (m + k) := by
  unfold Addr.add
  by_cases hk : k = 0
  · subst hk; simp
  · by_cases hm : m = 0
    · subst hm; simp [hk]
    · simp [hk, hm, Nat.add_assoc]

theorem cell_plain {W : World} {a : Addr} {u : Value} (h : W.cell? a = some u) : a = ⟨a.block, a.off, none⟩ ∧ a.block < W.heap.size := by
  unfold World.cell? at h
  split at h
  · rename_i c e fr hb
    split at h
    · cases h
    · rename_i hs
      obtain ⟨b, o, sp⟩ := a
      simp at hs
      subst hs
      exact ⟨rfl, block_lt hb⟩
  · cases h

/-- A slice whose elements are such. -/
theorem trod_sl {D fuel : Nat} {t e : TypeId} {v : Value} {x : DataW H × List MemPlace} {kd : List Kd} (hu : P.underlying t = some (.slice e)) (hk : kdOf P D e = some kd) (hz : P.cellsOf e = kd.length) (hpos : 0 < kd.length) (ht : DataW.trod enc P W base sp held fuel t [v] = some x) (hs : small P t x.1) :
    ∃ n l, SlF (fun g => g < W.heap.size) W kd.length n l v ∧ n * P.bytesOf e ≤ reachBytes ∧ n ≤ maxLen ∧ ∀ (j : Nat) (u : Value) (k : Kd), l[j]? = some u → kd[j % kd.length]? = some k → KdAt enc P W base sp held k u := by
  cases fuel with
  | zero => simp [DataW.trod] at ht
  | succ fuel =>
  unfold DataW.trod at ht
  simp only [hu] at ht
  split at ht
  all_goals try (exfalso; simp_all; done)
  · rename_i h1 h2
    refine ⟨0, [], ⟨by simp, ?_⟩, by simp, Nat.zero_le _, fun j u k hj => by simp at hj⟩
    simp at h2
    subst h2
    exact ⟨none, 0, rfl, fun _ => ⟨rfl, rfl⟩, fun j u hj => by simp at hj⟩
  · rename_i e' a len cap he' h2
    obtain rfl : e = e' := by simpa using he'
    simp only [List.cons.injEq, and_true] at h2
    subst h2
    split at ht
    · rename_i hc
      obtain ⟨hc1, hc2, hc3⟩ := hc
      simp only [Option.bind_eq_some_iff, Option.map_eq_some_iff] at ht
      obtain ⟨r, hr, rest, hrest, rfl⟩ := ht
      obtain ⟨hrl, hrg⟩ := mapM_get hr
      simp only [List.length_range] at hrl
      have hw0 : (r.length + rest.length) * P.bytesOf e ≤ reachBytes := hs _ (by simp [DataW.weights, hu])
      have hel : ∀ i, i < len → ∃ cs y, W.cells? base (a.add (i * kd.length)) kd.length = some cs ∧ KdOK enc P W base sp held kd cs ∧ r[i]? = some y := fun i hi => by
        obtain ⟨y, hy1, hy2⟩ := hrg i i (by simp [hi])
        simp only [Option.bind_eq_some_iff] at hy2
        obtain ⟨cs, hcs, hy3⟩ := hy2
        rw [hz] at hcs
        refine ⟨cs, y, hcs, trod_kd D fuel e cs y kd hk hy3 (fun n hn => hs n ?_), hy1⟩
        simp only [DataW.weights, hu, List.mem_cons, List.mem_append]
        exact .inr (.inl (mem_all (j := i) (d := y.1) (by simp [hy1]) hn))
      have hcell : ∀ i, i < len → ∀ k, k < kd.length → ∃ u, W.cell? (a.add (i * kd.length + k)) = some u ∧ ∀ kk, kd[k]? = some kk → KdAt enc P W base sp held kk u := fun i hi k hkk => by
        obtain ⟨cs, y, h1, h2, _⟩ := hel i hi
        unfold World.cells? at h1
        split at h1
        · obtain ⟨hl, hg⟩ := mapM_get h1
          obtain ⟨u, hu1, hu2⟩ := hg k k (by simp [hkk])
          rw [add_add] at hu2
          exact ⟨u, hu2, fun kk hq => h2.2 k kk u hq hu1⟩
        · cases h1
      by_cases h0 : len = 0
      · subst h0
        exact ⟨0, [], ⟨by simp, some a, cap, rfl, fun h => (by cases h), fun j u hj => by simp at hj⟩, by simp, Nat.zero_le _, fun j u k hj => by simp at hj⟩
      · obtain ⟨u0, hu0, _⟩ := hcell 0 (by omega) 0 hpos
        have ha0 : a.add (0 * kd.length + 0) = a := by simp [Addr.add]
        rw [ha0] at hu0
        obtain ⟨hap, hab⟩ := cell_plain hu0
        have hadd : ∀ j, a.add j = ⟨a.block, a.off + j, none⟩ := fun j => by rw [hap, add_plain']
        have hall : ∀ j, j < len * kd.length → ∃ u, W.cell? ⟨a.block, a.off + j, none⟩ = some u ∧ ∀ kk, kd[j % kd.length]? = some kk → KdAt enc P W base sp held kk u := fun j hj => by
          have h1 := hcell (j / kd.length) ((Nat.div_lt_iff_lt_mul hpos).2 hj) (j % kd.length) (Nat.mod_lt _ hpos)
          rw [Nat.mul_comm, Nat.div_add_mod, hadd] at h1
          exact h1
        refine ⟨len, (List.range (len * kd.length)).map fun j => (W.cell? ⟨a.block, a.off + j, none⟩).getD undef, ⟨by simp, some a, cap, rfl, fun h => (by cases h), fun j u hj => ?_⟩, ?_, by omega, fun j u k hj hk' => ?_⟩
        · simp only [List.getElem?_map, Option.map_eq_some_iff] at hj
          obtain ⟨j', hj', rfl⟩ := hj
          have hlt := (List.getElem?_eq_some_iff.1 hj').1
          simp only [List.length_range] at hlt
          rw [List.getElem?_range hlt] at hj'
          cases hj'
          obtain ⟨u, hu1, _⟩ := hall j hlt
          exact ⟨a.block, a.off, by rw [hap], hab, by rw [hu1]; rfl⟩
        · rw [hrl] at hw0
          exact Nat.le_trans (Nat.mul_le_mul_right _ (by omega)) hw0
        · simp only [List.getElem?_map, Option.map_eq_some_iff] at hj
          obtain ⟨j', hj', rfl⟩ := hj
          have hlt := (List.getElem?_eq_some_iff.1 hj').1
          simp only [List.length_range] at hlt
          rw [List.getElem?_range hlt] at hj'
          cases hj'
          obtain ⟨u, hu1, hu2⟩ := hall j hlt
          rw [hu1]
          exact hu2 k hk'
    · cases ht

/-- A pattern of plain cells. -/
def flatK (kd : List Kd) : Option (List Bool) := kd.mapM fun | .b => some true | .i => some false | .s _ => none
theorem flatK_spec {kd : List Kd} {pt : List Bool} (h : flatK kd = some pt) : pt.length = kd.length ∧ ∀ (j : Nat) (k : Kd), kd[j]? = some k → (k = .b ∧ pt[j]? = some true) ∨ (k = .i ∧ pt[j]? = some false) := by
  obtain ⟨h1, h2⟩ := mapM_get h
  refine ⟨h1, fun j k hk => ?_⟩
  obtain ⟨y, hy1, hy2⟩ := h2 j k hk
  cases k <;> simp at hy2
  · subst hy2; exact .inl ⟨rfl, hy1⟩
  · subst hy2; exact .inr ⟨rfl, hy1⟩

/-- A slice of plain elements. -/
theorem trod_flat {D fuel : Nat} {t e : TypeId} {v : Value} {x : DataW H × List MemPlace} {kd : List Kd} {pt : List Bool} (hu : P.underlying t = some (.slice e)) (hk : kdOf P D e = some kd) (hf : flatK kd = some pt) (hz : P.cellsOf e = kd.length) (hpos : 0 < kd.length) (ht : DataW.trod enc P W base sp held fuel t [v] = some x) (hs : small P t x.1) :
    ∃ n l, SlF (fun g => g < W.heap.size) W pt.length n l v ∧ tyL pt l ∧ n * P.bytesOf e ≤ reachBytes ∧ n ≤ maxLen := by
  obtain ⟨hl, hg⟩ := flatK_spec hf
  obtain ⟨n, l, h1, h2, h3, h4⟩ := trod_sl hu hk hz hpos ht hs
  rw [← hl] at h1
  refine ⟨n, l, h1, fun j u hj => ?_, h2, h3⟩
  have hlt : j % kd.length < kd.length := Nat.mod_lt _ hpos
  have hkj : kd[j % kd.length]? = some kd[j % kd.length] := List.getElem?_eq_getElem hlt
  have := h4 j u _ hj hkj
  rw [hl]
  rcases hg _ _ hkj with ⟨he, hp⟩ | ⟨he, hp⟩
  · rw [he] at this
    simp only [List.getD_eq_getElem?_getD, hp, Option.getD_some, cellB, if_true]
    exact this
  · rw [he] at this
    simp only [List.getD_eq_getElem?_getD, hp, Option.getD_some, cellB, Bool.false_eq_true, if_false]
    exact this

/-- A slice of objects. -/
theorem trod_obs {D fuel : Nat} {t e tv ev : TypeId} {v : Value} {x : DataW H × List MemPlace} (hu : P.underlying t = some (.slice e)) (hk : kdOf P D e = some [.i, .s tv]) (hz : P.cellsOf e = 2) (hu' : P.underlying tv = some (.slice ev)) (hk' : kdOf P D ev = some [.b, .i]) (hz' : P.cellsOf ev = 2)
    (ht : DataW.trod enc P W base sp held fuel t [v] = some x) (hs : small P t x.1) :
    ∃ L : List Ob, ObsF (fun g => g < W.heap.size) W L v ∧ obTy L ∧ L.length * P.bytesOf e ≤ reachBytes ∧ L.length ≤ maxLen ∧ ∀ (k : Nat) (o : Ob), L[k]? = some o → o.2.1 * P.bytesOf ev ≤ reachBytes ∧ o.2.1 ≤ maxLen := by
  obtain ⟨n, l, h1, h2, h3, h4⟩ := trod_sl hu hk hz (Nat.succ_pos _) ht hs
  have h1 : SlF (fun g => g < W.heap.size) W 2 n l v := h1
  have hex : ∀ i, i < n → ∃ o : Ob, l[2 * i]? = some (.int .i64 o.1) ∧ (∃ fv, l[2 * i + 1]? = some fv ∧ SlF (fun g => g < W.heap.size) W 2 o.2.1 o.2.2 fv) ∧ tyL [true, false] o.2.2 ∧ o.2.1 * P.bytesOf ev ≤ reachBytes ∧ o.2.1 ≤ maxLen := fun i hi => by
    have hll := h1.1
    have g0 : l[2 * i]? = some l[2 * i] := List.getElem?_eq_getElem (by omega)
    have g1 : l[2 * i + 1]? = some l[2 * i + 1] := List.getElem?_eq_getElem (by omega)
    obtain ⟨id, hid⟩ := h4 _ _ .i g0 (by rw [show 2 * i % [Kd.i, Kd.s tv].length = 0 by simp]; rfl)
    obtain ⟨fuel', d', ps', htr, hsm⟩ := h4 _ _ (.s tv) g1 (by rw [show (2 * i + 1) % [Kd.i, Kd.s tv].length = 1 by simp]; rfl)
    obtain ⟨m, fs, k1, k2, k3, k4⟩ := trod_flat (pt := [true, false]) hu' hk' rfl hz' (by decide) htr hsm
    exact ⟨(id, m, fs), by rw [g0, hid], ⟨_, g1, k1⟩, k2, k3, k4⟩
  have hch : ∃ F : Nat → Ob, ∀ i, i < n → l[2 * i]? = some (.int .i64 (F i).1) ∧ (∃ fv, l[2 * i + 1]? = some fv ∧ SlF (fun g => g < W.heap.size) W 2 (F i).2.1 (F i).2.2 fv) ∧ tyL [true, false] (F i).2.2 ∧ (F i).2.1 * P.bytesOf ev ≤ reachBytes ∧ (F i).2.1 ≤ maxLen :=
    ⟨fun i => if h : i < n then Classical.choose (hex i h) else (0, 0, []), fun i hi => by simp only [hi, dif_pos]; exact Classical.choose_spec (hex i hi)⟩
  obtain ⟨F, hF⟩ := hch
  have hget : ∀ (i : Nat) (o : Ob), ((List.range n).map F)[i]? = some o → i < n ∧ o = F i := fun i o ho => by
    simp only [List.getElem?_map, Option.map_eq_some_iff] at ho
    obtain ⟨j, hj, rfl⟩ := ho
    have hlt := (List.getElem?_eq_some_iff.1 hj).1
    simp only [List.length_range] at hlt
    rw [List.getElem?_range hlt] at hj
    cases hj
    exact ⟨hlt, rfl⟩
  refine ⟨(List.range n).map F, ⟨l, by simpa using h1, fun i o ho => ?_⟩, fun i o ho => ?_, by simpa using h2, by simpa using h3, fun i o ho => ?_⟩
  · obtain ⟨hi, rfl⟩ := hget i o ho
    obtain ⟨a1, a2, _⟩ := hF i hi
    exact ⟨a1, a2⟩
  · obtain ⟨hi, rfl⟩ := hget i o ho
    obtain ⟨_, _, a3, _, a5⟩ := hF i hi
    exact ⟨a3, a5⟩
  · obtain ⟨hi, rfl⟩ := hget i o ho
    obtain ⟨_, _, _, a4, a5⟩ := hF i hi
    exact ⟨a4, a5⟩

end
end Go.Hx
