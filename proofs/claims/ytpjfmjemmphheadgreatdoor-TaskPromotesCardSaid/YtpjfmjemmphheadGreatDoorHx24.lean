/- TaskPromotes: of any task that reads as data it returns true. (The law over any program that meets a list of closed facts.) -/
import Derived.Test.YtpjfmjemmphheadGreatDoorHx23
namespace Go.Hx
open Go Go.RowKit

def absA (kd : List Kd) : List Value := kd.zipIdx.map fun p => match p.1 with
  | .b => .float .f64 p.2
  | .i => .int .i64 (tk p.2)
  | .s _ => .chan (some (100 + p.2))

theorem absA_get {kd : List Kd} {j : Nat} {v : Value} (h : (absA kd)[j]? = some v) : ∃ k, kd[j]? = some k ∧ v = (match k with | .b => .float .f64 j | .i => .int .i64 (tk j) | .s _ => .chan (some (100 + j))) := by
  unfold absA at h
  simp only [List.getElem?_map, Option.map_eq_some_iff] at h
  obtain ⟨⟨k, i⟩, h1, h2⟩ := h
  rw [List.getElem?_zipIdx] at h1
  simp only [Option.map_eq_some_iff, Prod.mk.injEq, Nat.zero_add] at h1
  obtain ⟨k', h3, rfl, rfl⟩ := h1
  exact ⟨k', h3, h2.symm⟩

section
variable {H : Type} {enc : TypeId × Value → H} {P : Program} {W : World} {base : Nat} {sp : Nat → Bool} {held : Bool}

theorem absA_vr {kd : List Kd} {cs : List Value} (h : KdOK enc P W base sp held kd cs) {l : List Int} {m : Mu} {old : Nat → Prop} {D : Nat → Bool × Dat} {μ : Mu} (hl : (kd.length : Int) < TOK) (hn : ∀ (j : Nat) (u : Value), cs[j]? = some u → l.getD j 0 = encV u)
    (hs : ∀ (j : Nat) (t : TypeId) (u : Value), kd[j]? = some (.s t) → cs[j]? = some u → μ (100 + j) = some (valPl u) ∧ u.oneCell' = true) : VRs (envD l m old D) μ (absA kd) cs := by
  refine VRs.of_get (by simp [absA, h.1]) fun j v v' hv hv' => ?_
  obtain ⟨k, hk, rfl⟩ := absA_get hv
  have hlt := (List.getElem?_eq_some_iff.1 hk).1
  have hj : (j : Int) < TOK := by omega
  have := h.2 j k v' hk hv'
  cases k with
  | b => exact absC1_vr (b := true) (j := j) (by simpa [cellB, KdAt] using this) hj (hn j v' hv')
  | i => exact absC1_vr (b := false) (j := j) (by simpa [cellB, KdAt] using this) hj (hn j v' hv')
  | s t =>
    obtain ⟨h1, h2⟩ := hs j t v' hk hv'
    exact VR.vtok (p := valPl v') h1 h2

end

def tpTab (b : Bool) : Tab :=
  ⟨[⟨.add, .i64, tk 48, tk 49, .int .i64 (tk 54)⟩, ⟨.add, .i64, tk 54, tk 50, .int .i64 (tk 55)⟩, ⟨.add, .i64, tk 55, tk 51, .int .i64 (tk 56)⟩, ⟨.add, .i64, tk 56, tk 52, .int .i64 (tk 57)⟩, ⟨.add, .i64, tk 57, tk 53, .int .i64 (tk 58)⟩,
    ⟨.gtr, .i64, tk 58, 100, .bool b⟩] ++ (List.range' 0 48 1).map (fun k => ⟨.eql, .i64, tk k, tk k, .bool true⟩), [],
    (List.range' 0 48 1).map (fun k => (tk k, tk k, true)), (List.range' 0 48 1).map (fun k => (k, k, true)), [(137, tk 48), (138, tk 49), (139, tk 50), (136, tk 51), (141, tk 52), (140, tk 53)], [], [], [(29, 40, 40)]⟩

def tpCons : List Con := [.clone 12 36 36, .clone 12 37 37, .clone 12 38 38, .clone 13 39 39, .clone 14 41 41, .clone 30 36 36, .clone 30 37 37, .clone 30 38 38, .clone 31 39 39, .clone 32 40 40, .clone 33 41 41,
  .eq 16 36 36 true, .eq 16 37 37 true, .eq 16 38 38 true, .eqw 17 39 39 true, .eq 18 40 40 true, .eq 19 41 41 true]

def tpRows (tb : List Value) : List (Nat × HObj) := [(0, .ro tb), (136, .tok 36), (137, .tok 37), (138, .tok 38), (139, .tok 39), (140, .tok 40), (141, .tok 41)]
def tpS (tb : List Value) : St := stR (tpRows tb) 200 3

def tpKd : List Kd := [.i, .i, .b, .i, .b, .i, .b, .i, .b, .i, .b, .i, .b, .i, .b, .i, .b, .i, .b, .i, .b, .i, .b, .i, .b, .i, .b, .i, .b, .i, .b, .i, .b, .i, .b, .i, .s 27, .s 27, .s 27, .s 28, .s 29, .s 30, .i, .i, .b, .b, .i, .i]

def tpRun (P : Program) (tb : List Value) (b : Bool) : Bool :=
  match hcall P ((tpTab b).fx P) 300 (conK tpCons) (recDk P ((tpTab b).fx P) noK 20) 40 3 [.agg ⟨absA tpKd⟩] (tpS tb) with
  | some (.bool c, _) => c
  | _ => false

def isS : Kd → Bool
  | .s _ => true
  | _ => false
theorem tpKd_s {j : Nat} {t : TypeId} (h : tpKd[j]? = some (.s t)) : 36 ≤ j ∧ j < 42 := by
  have h1 : (Kd.s t, j) ∈ tpKd.zipIdx := by
    rw [List.mem_zipIdx_iff_getElem?]
    exact h
  have h2 : (tpKd.zipIdx.all fun p => !isS p.1 || (Nat.ble 36 p.2 && Nat.blt p.2 42)) = true := by decide
  have := List.all_eq_true.1 h2 _ h1
  have h3 : 36 ≤ j ∧ j ≤ 41 := by simpa [isS, Nat.blt] using this
  omega

def flatB (P : Program) (t e : TypeId) (kd : List Kd) (bytes : Nat) : Prop := elTy P t e kd.length bytes = true ∧ kdOf P 4 e = some kd ∧ P.cellsOf e = kd.length ∧ P.bytesOf e = bytes
def clB (P : Program) (g t : TypeId) : Prop := cloneB P g t true = true ∧ cloneB P g t false = true
def ob31 : ObP := ⟨31, [.clone 48 0 1], 49, 28, 71, 3, 8, 9, 10⟩
def ob13 : ObP := ⟨13, [], 29, 28, 71, 3, 7, 8, 9⟩

/-- The closed facts. -/
structure TpP (P : Program) (tb : List Value) : Prop where
  hg : NoG P
  t27 : flatB P 27 60 [.i, .i, .b, .i] 32
  t28 : flatB P 28 71 [.i, .s 69] 32
  t69 : flatB P 69 23 [.b, .i] 16
  t29 : flatB P 29 64 [.i, .i, .i, .b, .i] 40
  t30 : flatB P 30 67 [.b, .i, .i] 24
  c12 : clB P 12 27
  c14 : clB P 14 30
  c30 : clB P 30 27
  c32 : clB P 32 29
  c33 : clB P 33 30
  c48 : clB P 48 28
  c49 : clB P 49 69
  c29 : clB P 29 69
  o31 : obChk P ob31 = true
  o13 : obChk P ob13 = true
  e16 : eqChk P 16 27 [false, false, true, false] = true
  e18 : eqChk P 18 29 [false, false, false, true, false] = true
  e19 : eqChk P 19 30 [true, false, false] = true
  e36 : eqChk P 36 69 [true, false] = true
  f34 : efChk P 34 35 36 28 = true
  s17 : sameB P 17 34 35 true = true
  run1 : tpRun P tb true = true
  run0 : tpRun P tb false = true

def tpM (cs : List Value) : Mu := fun i => if i < 3 then some ⟨i, 0, 0, undef⟩ else if 136 ≤ i ∧ i < 142 then some (valPl (cs.getD (i - 100) undef)) else none
def tpD (d36 d37 d38 d39 d40 d41 : Dat) : Nat → Bool × Dat
  | 36 => (false, d36) | 37 => (false, d37) | 38 => (false, d38) | 39 => (false, d39) | 40 => (false, d40) | 41 => (false, d41) | _ => (false, .flat 0 0 [])

theorem tp_clone {P : Program} {l : List Int} {m : Mu} {old : Nat → Prop} {D : Nat → Bool × Dat} {k z n : Nat} {c : List Value} (hD : D k = (false, .flat z n c)) {g : FuncId} {e : TypeId} {bytes : Nat} (h : CloneC P g e z bytes) (hb : n * bytes ≤ 140737488355328) (hn : n ≤ maxLen) :
    (Con.clone g k k).ok P (envD l m old D) :=
  con_clone h hb hn (fun x y w v h => ⟨_, by simp only [envD, hD] at h; exact h⟩) fun x y w v h => by
    simp only [envD, hD]
    exact h.1.mono fun g hg => .inr hg

theorem tp_eq {P : Program} {l : List Int} {m : Mu} {old : Nat → Prop} {D : Nat → Bool × Dat} {k n : Nat} {c : List Value} {pt : List Bool} (hD : D k = (false, .flat pt.length n c)) (hg : NoG P) {g : FuncId} {t e : TypeId} {kd : List Kd} {bytes : Nat} (ht : flatB P t e kd bytes) (hlen : kd.length = pt.length) (hpt : 0 < pt.length) (hpl : pt.length < 100)
    (hchk : eqChk P g t pt = true) (y : tyL pt c) (hn : n ≤ maxLen) : (Con.eq g k k true).ok P (envD l m old D) :=
  con_eq hg hpt hpl (by rw [← hlen]; exact elTy_slTy ht.1) hchk (fun x y w v h => ⟨_, by simp only [envD, hD] at h; exact h⟩) (fun x y w v h => ⟨_, by simp only [envD, hD] at h; exact h⟩) y y hn (by simp)

theorem clB.c {P : Program} (hg : NoG P) {g t e : TypeId} {kd : List Kd} {bytes : Nat} (h : clB P g t) (ht : flatB P t e kd bytes) : CloneC P g e kd.length bytes := cloneC hg ht.1 h.1 h.2

section
variable {H : Type} {enc : TypeId × Value → H} {P : Program} {W : World} {base : Nat} {sp : Nat → Bool} {held : Bool}

theorem flatB.un {t e : TypeId} {kd : List Kd} {bytes : Nat} (h : flatB P t e kd bytes) : P.underlying t = some (.slice e) := by
  obtain ⟨f, z0, k1, _⟩ := elTy_spec h.1
  exact k1

theorem reach_le {n : Nat} (h : n ≤ reachBytes) : n ≤ 140737488355328 := Nat.le_trans h (by decide)

theorem kd_flat {t e : TypeId} {kd : List Kd} {bytes : Nat} {pt : List Bool} {u : Value} (h : flatB P t e kd bytes) (hf : flatK kd = some pt) (hpos : 0 < kd.length) (hk : KdAt enc P W base sp held (.s t) u) :
    ∃ n l, SlF (fun g => g < W.heap.size) W pt.length n l u ∧ tyL pt l ∧ n * bytes ≤ 140737488355328 ∧ n ≤ maxLen := by
  obtain ⟨fuel, d, ps, h1, h2⟩ := hk
  obtain ⟨n, l, k1, k2, k3, k4⟩ := trod_flat h.un h.2.1 hf h.2.2.1 hpos h1 h2
  rw [h.2.2.2] at k3
  exact ⟨n, l, k1, k2, reach_le k3, k4⟩

theorem kd_obs {t e tv ev : TypeId} {bo bv : Nat} {u : Value} (h : flatB P t e [.i, .s tv] bo) (hv : flatB P tv ev [.b, .i] bv) (hk : KdAt enc P W base sp held (.s t) u) :
    ∃ L : List Ob, ObsF (fun g => g < W.heap.size) W L u ∧ obTy L ∧ obSm bo bv L := by
  obtain ⟨fuel, d, ps, h1, h2⟩ := hk
  have hk : kdOf P 4 ev = some [.b, .i] := hv.2.1
  obtain ⟨L, k1, k2, k3, k4, k5⟩ := trod_obs h.un h.2.1 h.2.2.1 hv.un hk hv.2.2.1 h1 h2
  rw [h.2.2.2] at k3
  exact ⟨L, k1, k2, reach_le k3, k4, fun k o ho => by
    obtain ⟨a1, a2⟩ := k5 k o ho
    rw [hv.2.2.2] at a1
    exact ⟨reach_le a1, a2⟩⟩

theorem tp_law {tb : List Value} (hP : TpP P tb) {cs : List Value} (hk : KdOK enc P W base sp held tpKd cs) (htb : ∀ (j : Nat) (v : Value), tb[j]? = some v → W.cell? ⟨0, j, none⟩ = some v ∧ ∀ (η : Env) (μ : Mu), VR η μ v v) (h0 : 0 < W.heap.size) :
    Calls P 3 ⟨[.agg ⟨cs⟩]⟩ W (BoolIs W true) := by
  have hlen : cs.length = 48 := hk.1
  have hg := hP.hg
  have at_ : ∀ (j : Nat) (k : Kd), tpKd[j]? = some k → ∃ u, cs[j]? = some u ∧ KdAt enc P W base sp held k u := fun j k hj => by
    have hlt : j < cs.length := by rw [hk.1]; exact (List.getElem?_eq_some_iff.1 hj).1
    exact ⟨cs[j], List.getElem?_eq_getElem hlt, hk.2 j k _ hj (List.getElem?_eq_getElem hlt)⟩
  obtain ⟨u36, a36, k36⟩ := at_ 36 (.s 27) rfl
  obtain ⟨u37, a37, k37⟩ := at_ 37 (.s 27) rfl
  obtain ⟨u38, a38, k38⟩ := at_ 38 (.s 27) rfl
  obtain ⟨u39, a39, k39⟩ := at_ 39 (.s 28) rfl
  obtain ⟨u40, a40, k40⟩ := at_ 40 (.s 29) rfl
  obtain ⟨u41, a41, k41⟩ := at_ 41 (.s 30) rfl
  obtain ⟨n36, l36, s36, y36, b36, m36⟩ := kd_flat (pt := [false, false, true, false]) hP.t27 rfl (by decide) k36
  obtain ⟨n37, l37, s37, y37, b37, m37⟩ := kd_flat (pt := [false, false, true, false]) hP.t27 rfl (by decide) k37
  obtain ⟨n38, l38, s38, y38, b38, m38⟩ := kd_flat (pt := [false, false, true, false]) hP.t27 rfl (by decide) k38
  obtain ⟨L39, s39, y39, b39⟩ := kd_obs hP.t28 hP.t69 k39
  obtain ⟨n40, l40, s40, y40, b40, m40⟩ := kd_flat (pt := [false, false, false, true, false]) hP.t29 rfl (by decide) k40
  obtain ⟨n41, l41, s41, y41, b41, m41⟩ := kd_flat (pt := [true, false, false]) hP.t30 rfl (by decide) k41
  let D := tpD (.flat 4 n36 l36) (.flat 4 n37 l37) (.flat 4 n38 l38) (.obs L39) (.flat 5 n40 l40) (.flat 3 n41 l41)
  have ok : ∀ (k : Nat) (u : Value), 36 ≤ k → k < 42 → cs[k]? = some u → (D k).2.ok (fun g => g < W.heap.size) W u ∧ (D k).1 = false := fun k u h1 h2 hu => by
    have : k = 36 ∨ k = 37 ∨ k = 38 ∨ k = 39 ∨ k = 40 ∨ k = 41 := by omega
    rcases this with rfl | rfl | rfl | rfl | rfl | rfl
    · rw [a36] at hu; cases hu; exact ⟨s36, rfl⟩
    · rw [a37] at hu; cases hu; exact ⟨s37, rfl⟩
    · rw [a38] at hu; cases hu; exact ⟨s38, rfl⟩
    · rw [a39] at hu; cases hu; exact ⟨s39, rfl⟩
    · rw [a40] at hu; cases hu; exact ⟨s40, rfl⟩
    · rw [a41] at hu; cases hu; exact ⟨s41, rfl⟩
  let w1 := IntKind.i64.wrap ((n37 : Int) + n38)
  let w2 := IntKind.i64.wrap (w1 + (L39.length : Int))
  let w3 := IntKind.i64.wrap (w2 + (n36 : Int))
  let w4 := IntKind.i64.wrap (w3 + (n41 : Int))
  let w5 := IntKind.i64.wrap (w4 + (n40 : Int))
  let ext : List Int := [(n37 : Int), n38, L39.length, n36, n41, n40, w1, w2, w3, w4, w5]
  let nms : List Int := cs.map encV ++ ext
  have hnm : ∀ (j : Nat) (u : Value), cs[j]? = some u → nms.getD j 0 = encV u := fun j u hj => by
    have hlt := (List.getElem?_eq_some_iff.1 hj).1
    simp only [nms, List.getD_eq_getElem?_getD]
    rw [List.getElem?_append_left (by simpa using hlt)]
    simp [hj]
  have hext : ∀ i, nms.getD (48 + i) 0 = ext.getD i 0 := fun i => by
    simp only [nms, List.getD_eq_getElem?_getD]
    rw [List.getElem?_append_right (by simp [hlen])]
    simp [hlen]
  let η : Env := envD nms (tpM cs) (fun g => g < W.heap.size) D
  have hd : ∀ i, dn η (tk (48 + i)) = ext.getD i 0 := fun i => by
    show dn (envD nms (tpM cs) (fun g => g < W.heap.size) D) (tk (48 + i)) = _
    rw [dn_tk]
    exact hext i
  have hpsi : ∀ (k : Nat) (u : Value), 36 ≤ k → k < 42 → cs[k]? = some u → η.psi k 0 0 W u := fun k u h1 h2 hu =>
    Dat.mono (ok k u h1 h2 hu).1 fun g hg => .inl ⟨(ok k u h1 h2 hu).2, hg⟩
  have hm : ∀ (k : Nat) (u : Value), 36 ≤ k → k < 42 → cs[k]? = some u → η.m (100 + k) = some (valPl u) := fun k u h1 h2 hu => by
    show tpM cs (100 + k) = _
    unfold tpM
    rw [if_neg (by omega), if_pos (by omega), show 100 + k - 100 = k by omega, List.getD_eq_getElem?_getD, hu]
    rfl
  have hone : ∀ (k : Nat) (u : Value), 36 ≤ k → k < 42 → cs[k]? = some u → u.oneCell' = true := fun k u h1 h2 hu => by
    obtain ⟨a, n, c, rfl⟩ := Dat.slice (ok k u h1 h2 hu).1
    rfl
  have hR : R η (Base.of W) η.m (tpS tb) W := by
    refine R.start (Below.refl _ _) (fun i hi => ?_) (fun g hg => hg) (fun g hg => ⟨⟨g, 0, 0, undef⟩, ?_, rfl, rfl⟩) (fun i o hio => ?_)
    · show tpM cs i = none
      unfold tpM
      rw [if_neg (by omega), if_neg (by omega)]
    · show tpM cs g = _
      unfold tpM
      rw [if_pos hg]
    · have row : ∀ (k : Nat) (u : Value), 36 ≤ k → k < 42 → cs[k]? = some u → ∃ p, η.m (100 + k) = some p ∧ ((∃ c, HObj.tok k = .ro c ∧ (Base.of W).rd p.blk ∧ ClR η η.m c p W) ∨ (∃ k', HObj.tok k = .tok k' ∧ p.room = 0 ∧ p.blk ≤ W.heap.size ∧ η.psi k' p.blk 0 W p.val)) :=
        fun k u h1 h2 hu => ⟨valPl u, hm k u h1 h2 hu, .inr ⟨k, rfl, rfl, Nat.zero_le _, hpsi k u h1 h2 hu⟩⟩
      simp only [tpRows, List.mem_cons, Prod.mk.injEq, List.not_mem_nil, or_false] at hio
      rcases hio with ⟨rfl, rfl⟩ | ⟨rfl, rfl⟩ | ⟨rfl, rfl⟩ | ⟨rfl, rfl⟩ | ⟨rfl, rfl⟩ | ⟨rfl, rfl⟩ | ⟨rfl, rfl⟩
      · exact ⟨⟨0, 0, 0, undef⟩, rfl, .inl ⟨tb, rfl, h0, fun j v hj => ⟨v, by simpa using (htb j v hj).1, (htb j v hj).2 _ _⟩⟩⟩
      · exact row 36 u36 (by decide) (by decide) a36
      · exact row 37 u37 (by decide) (by decide) a37
      · exact row 38 u38 (by decide) (by decide) a38
      · exact row 39 u39 (by decide) (by decide) a39
      · exact row 40 u40 (by decide) (by decide) a40
      · exact row 41 u41 (by decide) (by decide) a41
  have har : VRs η η.m [.agg ⟨absA tpKd⟩] [.agg ⟨cs⟩] := .cons (.agg (absA_vr hk (by decide) hnm fun j t u hj hu => by
    obtain ⟨h1, h2⟩ := tpKd_s hj
    exact ⟨hm j u h1 h2 hu, hone j u h1 h2 hu⟩)) .nil
  have hC : CallOK P η (conK tpCons) := by
    have c12 := hP.c12.c hg hP.t27
    have c14 := hP.c14.c hg hP.t30
    have c30 := hP.c30.c hg hP.t27
    have c32 := hP.c32.c hg hP.t29
    have c33 := hP.c33.c hg hP.t30
    have c48 := hP.c48.c hg hP.t28
    have c49 := hP.c49.c hg hP.t69
    have c29 := hP.c29.c hg hP.t69
    have ob : ∀ x m w v, η.psi 39 x m w v → ∃ B, ObsF B w L39 v := fun x m w v h => ⟨_, h⟩
    have ob' : ∀ x m w v, ObsF (fun g => x ≤ g ∧ g < x + m) w L39 v → η.psi 39 x m w v := fun x m w v h => ObsF.mono h fun g hg => .inr hg
    refine conK_ok _ fun c hc => ?_
    simp only [tpCons, List.mem_cons, List.not_mem_nil, or_false] at hc
    rcases hc with rfl | rfl | rfl | rfl | rfl | rfl | rfl | rfl | rfl | rfl | rfl | rfl | rfl | rfl | rfl | rfl | rfl
    · exact tp_clone (D := D) rfl c12 b36 m36
    · exact tp_clone (D := D) rfl c12 b37 m37
    · exact tp_clone (D := D) rfl c12 b38 m38
    · exact con_objs hg (p := ob13) hP.t28.1 (.inl rfl) c29 hP.o13 b39 ob ob'
    · exact tp_clone (D := D) rfl c14 b41 m41
    · exact tp_clone (D := D) rfl c30 b36 m36
    · exact tp_clone (D := D) rfl c30 b37 m37
    · exact tp_clone (D := D) rfl c30 b38 m38
    · exact con_objs hg (p := ob31) hP.t28.1 (.inr ⟨48, rfl, c48⟩) c49 hP.o31 b39 ob ob'
    · exact tp_clone (D := D) rfl c32 b40 m40
    · exact tp_clone (D := D) rfl c33 b41 m41
    · exact tp_eq (D := D) (pt := [false, false, true, false]) rfl hg hP.t27 rfl (by decide) (by decide) hP.e16 y36 m36
    · exact tp_eq (D := D) (pt := [false, false, true, false]) rfl hg hP.t27 rfl (by decide) (by decide) hP.e16 y37 m37
    · exact tp_eq (D := D) (pt := [false, false, true, false]) rfl hg hP.t27 rfl (by decide) (by decide) hP.e16 y38 m38
    · exact con_same hg (elTy_slTy hP.t28.1) (elTy_slTy hP.t69.1) hP.e36 hP.f34 hP.s17 ob ob y39 y39 b39.2.1 (by simp)
    · exact tp_eq (D := D) (pt := [false, false, false, true, false]) rfl hg hP.t29 rfl (by decide) (by decide) hP.e18 y40 m40
    · exact tp_eq (D := D) (pt := [true, false, false]) rfl hg hP.t30 rfl (by decide) (by decide) hP.e19 y41 m41
  have hT : ∀ b, decide (w5 > 100) = b → TabOK P η (tpTab b) := fun b hb => by
    refine ⟨fun x hx => ?_, fun _ _ _ h => nomem h, fun a b' r h => ?_, fun a b' r h => ?_, fun i n h => ?_, fun _ _ _ _ h => nomem h, fun _ _ h => nomem h, fun t k k' h => ?_⟩
    · simp only [tpTab, List.mem_append, List.mem_cons, List.not_mem_nil, or_false, List.mem_map] at hx
      rcases hx with (rfl | rfl | rfl | rfl | rfl | rfl) | ⟨j, _, rfl⟩
      · exact fe_add (by rw [hd 0, hd 1, hd 6]; rfl)
      · exact fe_add (by rw [hd 6, hd 2, hd 7]; rfl)
      · exact fe_add (by rw [hd 7, hd 3, hd 8]; rfl)
      · exact fe_add (by rw [hd 8, hd 4, hd 9]; rfl)
      · exact fe_add (by rw [hd 9, hd 5, hd 10]; rfl)
      · exact fe_gtr (by rw [hd 10, dn_lt (by decide)]; exact hb)
      · exact fe_eql (by simp)
    · simp only [tpTab, List.mem_map, Prod.mk.injEq] at h
      obtain ⟨j, _, rfl, rfl, rfl⟩ := h
      simp
    · simp only [tpTab, List.mem_map, Prod.mk.injEq] at h
      obtain ⟨j, _, rfl, rfl, rfl⟩ := h
      simp
    · have len : ∀ (k : Nat) (u : Value) (i : Nat), 36 ≤ k → k < 42 → cs[k]? = some u → ext.getD i 0 = ((D k).2.len : Int) → ∃ p a L c, η.m (100 + k) = some p ∧ p.val = .slice a L c ∧ (L : Int) = dn η (tk (48 + i)) := fun k u i h1 h2 hu he => by
        obtain ⟨a, c, e⟩ := Dat.slice' (ok k u h1 h2 hu).1
        exact ⟨valPl u, a, _, c, hm k u h1 h2 hu, e, by rw [hd, he]⟩
      simp only [tpTab, List.mem_cons, Prod.mk.injEq, List.not_mem_nil, or_false] at h
      rcases h with ⟨rfl, rfl⟩ | ⟨rfl, rfl⟩ | ⟨rfl, rfl⟩ | ⟨rfl, rfl⟩ | ⟨rfl, rfl⟩ | ⟨rfl, rfl⟩
      · exact len 37 u37 0 (by decide) (by decide) a37 rfl
      · exact len 38 u38 1 (by decide) (by decide) a38 rfl
      · exact len 39 u39 2 (by decide) (by decide) a39 rfl
      · exact len 36 u36 3 (by decide) (by decide) a36 rfl
      · exact len 41 u41 4 (by decide) (by decide) a41 rfl
      · exact len 40 u40 5 (by decide) (by decide) a40 rfl
    · simp only [tpTab, List.mem_cons, Prod.mk.injEq, List.not_mem_nil, or_false] at h
      obtain ⟨rfl, rfl, rfl⟩ := h
      obtain ⟨f, z0, k1, k2, k3, k4, k5, k6⟩ := elTy_spec hP.t29.1
      have k5 : f.size = 5 := k5
      refine ⟨64, f, z0, n40, l40, k1, k2, k3, k4, by rw [k6]; exact b40, m40, fun b m w v h => ?_, fun b m w v h => ?_⟩
      · rw [k5]; exact ⟨_, h⟩
      · rw [k5] at h; exact h.1.mono fun g hg => .inr hg
  have hrun : tpRun P tb (decide (w5 > 100)) = true := by
    cases decide (w5 > 100) with
    | true => exact hP.run1
    | false => exact hP.run0
  have hTb := hT _ rfl
  unfold tpRun at hrun
  split at hrun
  · rename_i c s' hc
    subst hrun
    refine (hcall_sound (tab_ok hTb) hg 300 hC (recDk_ok (tab_ok hTb) hg noK_ok 20) 40 (Base.of W) η.m _ s' W 3 _ _ _ hR har hc).mono fun e w' ⟨v', μ', k1, k2, k3, k4⟩ => ?_
    cases k4
    exact ⟨k1, k3.below⟩
  · cases hrun

end
end Go.Hx
