/- MachineApplies: the law over arguments that read as data. Conditions: none. -/
import Derived.Test.YtpjfmjemmphheacDoorS2
import Derived.Test.YtpjfmjemmphheacDoorE10
set_option linter.all false
set_option linter.unusedVariables false
set_option linter.unusedSimpArgs false
namespace Go.Proofs.MA
open Go Go.Hx Go.RowKit Go.Proofs
set_option maxRecDepth 100000

section
variable {H : Type} {enc : TypeId × Value → H} {W : World} {base : Nat} {sp : Nat → Bool} {held : Bool}

theorem kd_cons {P : Program} {k : Kd} {kd : List Kd} {cs : List Value} (h : KdOK enc P W base sp held (k :: kd) cs) : ∃ u cs', cs = u :: cs' ∧ KdAt enc P W base sp held k u ∧ KdOK enc P W base sp held kd cs' := by
  cases cs with
  | nil => have := h.1; simp at this
  | cons u cs' => exact ⟨u, cs', rfl, h.2 0 k u rfl rfl, by have := h.1; simpa using this, fun j k' u' hk hu => h.2 (j + 1) k' u' (by simpa using hk) (by simpa using hu)⟩
theorem kd_nil {P : Program} {cs : List Value} (h : KdOK enc P W base sp held [] cs) : cs = [] := List.eq_nil_of_length_eq_zero h.1
theorem kd_split {P : Program} {a b : List Kd} {cs : List Value} (h : KdOK enc P W base sp held (a ++ b) cs) : ∃ x y, cs = x ++ y ∧ KdOK enc P W base sp held a x ∧ KdOK enc P W base sp held b y := by
  have hl := h.1
  rw [List.length_append] at hl
  refine ⟨cs.take a.length, cs.drop a.length, (List.take_append_drop ..).symm, ⟨by simp; omega, fun j k u hk hu => ?_⟩, ⟨by simp; omega, fun j k u hk hu => ?_⟩⟩
  · have hj : j < a.length := (List.getElem?_eq_some_iff.1 hk).1
    rw [List.getElem?_take, if_pos hj] at hu
    exact h.2 j k u (by rw [List.getElem?_append_left hj]; exact hk) hu
  · rw [List.getElem?_drop] at hu
    exact h.2 (a.length + j) k u (by rw [List.getElem?_append_right (by omega), Nat.add_sub_cancel_left]; exact hk) hu

theorem kd24 : kdOf Tryd.prog 4 24 = some [.b, .i .i64] := by kernel_rfl
theorem kd64 : kdOf Tryd.prog 4 64 = some [.i .i64, .s 62] := by kernel_rfl
theorem kd76 : kdOf Tryd.prog 4 76 = some [.i .i64, .i .i64, .b, .i .i64] := by kernel_rfl
theorem kd81 : kdOf Tryd.prog 4 81 = some [.b, .i .i64, .i .i64] := by kernel_rfl
theorem kd5 : kdOf Tryd.prog 4 5 = some [.i .u8] := by kernel_rfl
theorem kd179 : kdOf Tryd.prog 4 179 = some [.i .i64, .i .i64, .i .i64, .b, .i .i64] := by kernel_rfl
theorem kd22 : kdOf Tryd.prog 4 22 = some [.s 22] := by kernel_rfl
theorem kd35 : kdOf Tryd.prog 4 35 = some [.s 29] := by kernel_rfl
theorem kd37 : kdOf Tryd.prog 4 37 = some [.s 31, .b, .b, .i .i64, .s 29] := by kernel_rfl
def effKd : List Kd := [.i .i64, .i .i64] ++ ((List.replicate 16 [Kd.b, .i .i64]).flatten ++ [.s 28, .s 28, .s 29, .s 30, .s 31, .i .i64, .b, .b, .i .i64])
theorem kd33 : kdOf Tryd.prog 8 33 = some effKd := by kernel_rfl

theorem rdV {u : Value} (h : KdAt enc Tryd.prog W base sp held (.s 62) u) : ∃ fs : List V, FR (fzW W) (encFs fs) u ∧ SmV fs := by
  obtain ⟨l, _, h2, h3⟩ := rd_sl (ec := encV) (Good := fun _ => True) Tryd.underlying62 kd24 (by kernel_rfl) (by decide) (fun _ _ => rfl) (fun cs hcs => by
    obtain ⟨u_1, cs1, rfl, ⟨b, rfl⟩, q1⟩ := kd_cons hcs
    obtain ⟨u_2, cs2, rfl, ⟨n, rfl⟩, q2⟩ := kd_cons q1
    obtain rfl := kd_nil q2
    exact ⟨(b, n), trivial, .cons (.bool b) (.cons (.int _ n) .nil)⟩) h
  refine ⟨l, h2, ?_⟩
  rw [show Tryd.prog.bytesOf 24 = 16 by kernel_rfl] at h3
  exact Nat.le_trans h3 (by decide)
theorem rdO {u : Value} (h : KdAt enc Tryd.prog W base sp held (.s 29) u) : ∃ os : List O, FR (fzW W) (encOs os) u ∧ (∀ o ∈ os, SmV o.2) ∧ os.length ≤ 281474976710656 := by
  obtain ⟨l, h1, h2, h3⟩ := rd_sl (ec := encO) (Good := fun o : O => SmV o.2) Tryd.underlying29 kd64 (by kernel_rfl) (by decide) (fun _ _ => rfl) (fun cs hcs => by
    obtain ⟨u_3, cs3, rfl, ⟨n, rfl⟩, q3⟩ := kd_cons hcs
    obtain ⟨u_4, cs4, rfl, hu, q4⟩ := kd_cons q3
    obtain rfl := kd_nil q4
    obtain ⟨fs, k1, k2⟩ := rdV hu
    exact ⟨(n, fs), k2, .cons (.int _ n) (.cons k1 .nil)⟩) h
  refine ⟨l, h2, h1, ?_⟩
  rw [show Tryd.prog.bytesOf 64 = 32 by kernel_rfl] at h3
  have : reachBytes ≤ 140737488355328 := by decide
  omega
theorem rdC {u : Value} (h : KdAt enc Tryd.prog W base sp held (.s 28) u) : ∃ ws : List C4, FR (fzW W) (frz (ws.map encC)) u ∧ ws.length ≤ 281474976710656 := by
  obtain ⟨l, _, h2, h3⟩ := rd_sl (ec := encC) (Good := fun _ => True) Tryd.underlying28 kd76 (by kernel_rfl) (by decide) (fun _ _ => rfl) (fun cs hcs => by
    obtain ⟨u_5, cs5, rfl, ⟨a, rfl⟩, q5⟩ := kd_cons hcs
    obtain ⟨u_6, cs6, rfl, ⟨b, rfl⟩, q6⟩ := kd_cons q5
    obtain ⟨u_7, cs7, rfl, ⟨c, rfl⟩, q7⟩ := kd_cons q6
    obtain ⟨u_8, cs8, rfl, ⟨d, rfl⟩, q8⟩ := kd_cons q7
    obtain rfl := kd_nil q8
    exact ⟨(a, b, c, d), trivial, .cons (.int _ a) (.cons (.int _ b) (.cons (.bool c) (.cons (.int _ d) .nil)))⟩) h
  refine ⟨l, h2, ?_⟩
  rw [show Tryd.prog.bytesOf 76 = 32 by kernel_rfl] at h3
  have : reachBytes ≤ 140737488355328 := by decide
  omega
theorem rdA {u : Value} (h : KdAt enc Tryd.prog W base sp held (.s 31) u) : ∃ l : List A3, FR (fzW W) (encAs l) u ∧ l.length ≤ 9000000000000000000 := by
  obtain ⟨l, _, h2, h3⟩ := rd_sl (ec := encA) (Good := fun _ => True) Tryd.underlying31 kd81 (by kernel_rfl) (by decide) (fun _ _ => rfl) (fun cs hcs => by
    obtain ⟨u_9, cs9, rfl, ⟨a, rfl⟩, q9⟩ := kd_cons hcs
    obtain ⟨u_10, cs10, rfl, ⟨b, rfl⟩, q10⟩ := kd_cons q9
    obtain ⟨u_11, cs11, rfl, ⟨c, rfl⟩, q11⟩ := kd_cons q10
    obtain rfl := kd_nil q11
    exact ⟨(a, b, c), trivial, .cons (.bool a) (.cons (.int _ b) (.cons (.int _ c) .nil))⟩) h
  refine ⟨l, h2, ?_⟩
  rw [show Tryd.prog.bytesOf 81 = 24 by kernel_rfl] at h3
  have : reachBytes ≤ 140737488355328 := by decide
  omega
theorem rdU {u : Value} (h : KdAt enc Tryd.prog W base sp held (.s 22) u) : ∃ us : List Int, FR (fzW W) (encU us) u := by
  obtain ⟨l, _, h2, _⟩ := rd_sl (ec := fun n : Int => Value.int .u8 n) (Good := fun _ => True) Tryd.underlying22 kd5 (by kernel_rfl) (by decide) (fun _ _ => rfl) (fun cs hcs => by
    obtain ⟨u_12, cs12, rfl, ⟨a, rfl⟩, q12⟩ := kd_cons hcs
    obtain rfl := kd_nil q12
    exact ⟨a, trivial, .cons (.int _ a) .nil⟩) h
  exact ⟨l, h2⟩
theorem rdD {u : Value} (h : KdAt enc Tryd.prog W base sp held (.s 30) u) : ∃ es : List Value, FR (fzW W) (frz es) u := by
  obtain ⟨es, h1, _⟩ := rd_fsl Tryd.underlying30 kd179 (by kernel_rfl) (by decide) rfl h
  exact ⟨es, h1⟩

theorem regs_congr {f g : Nat → V} : ∀ n : Nat, (∀ i, i < n → f i = g i) → regsE f n = regsE g n
  | 0, _ => rfl
  | n + 1, h => by
    rw [regsE, regsE, regs_congr n (fun i hi => h i (by omega)), h n (by omega)]
theorem rdRegs {P : Program} : ∀ (n : Nat) (cs : List Value), KdOK enc P W base sp held (List.replicate n [Kd.b, .i .i64]).flatten cs → ∃ rg : Nat → V, cs = regsE rg n
  | 0, cs, h => ⟨fun _ => (false, 0), kd_nil h⟩
  | n + 1, cs, h => by
    rw [List.replicate_succ', List.flatten_append] at h
    obtain ⟨x, y, rfl, hx, hy⟩ := kd_split h
    obtain ⟨rg, rfl⟩ := rdRegs n x hx
    obtain ⟨u_13, cs13, rfl, ⟨b, rfl⟩, q13⟩ := kd_cons hy
    obtain ⟨u_14, cs14, rfl, ⟨v, rfl⟩, q14⟩ := kd_cons q13
    obtain rfl := kd_nil q14
    refine ⟨fun i => if i = n then (b, v) else rg i, ?_⟩
    rw [regsE]
    have := regs_congr (f := rg) (g := fun i => if i = n then (b, v) else rg i) n (fun i hi => by show rg i = if i = n then (b, v) else rg i; rw [if_neg (by omega)])
    rw [this]
    simp
theorem regs_frs {fz : Nat → Option Obj} (rg : Nat → V) : ∀ n : Nat, FRs fz (regsE rg n) (regsE rg n)
  | 0 => .nil
  | n + 1 => frs_append (regs_frs rg n) (.cons (.bool _) (.cons (.int _ _) .nil))

set_option maxHeartbeats 2000000 in
/-- An effect. -/
theorem rdE {cs : List Value} (h : KdOK enc Tryd.prog W base sp held ([.i .i64, .i .i64] ++ ((List.replicate 16 [Kd.b, .i .i64]).flatten ++ [.s 28, .s 28, .s 29, .s 30, .s 31, .i .i64, .b, .b, .i .i64])) cs) : ∃ e : Eff, FRs (fzW W) (cellsE e) cs ∧ e.nw.length ≤ 281474976710656 ∧ e.ws.length ≤ 281474976710656 ∧ ∀ x ∈ e.nw, SmV x.2 := by
  obtain ⟨a, b, rfl, ha, hb⟩ := kd_split h
  obtain ⟨u_15, cs15, rfl, ⟨kd, rfl⟩, q15⟩ := kd_cons ha
  obtain ⟨u_16, cs16, rfl, ⟨pc, rfl⟩, q16⟩ := kd_cons q15
  obtain rfl := kd_nil q16
  obtain ⟨r, b2, rfl, hr, hb2⟩ := kd_split hb
  obtain ⟨rg, rfl⟩ := rdRegs 16 r hr
  obtain ⟨u1, cs17, rfl, k1, q17⟩ := kd_cons hb2
  obtain ⟨u2, cs18, rfl, k2, q18⟩ := kd_cons q17
  obtain ⟨u3, cs19, rfl, k3, q19⟩ := kd_cons q18
  obtain ⟨u4, cs20, rfl, k4, q20⟩ := kd_cons q19
  obtain ⟨u5, cs21, rfl, k5, q21⟩ := kd_cons q20
  obtain ⟨u_22, cs22, rfl, ⟨st, rfl⟩, q22⟩ := kd_cons q21
  obtain ⟨u_23, cs23, rfl, ⟨th, rfl⟩, q23⟩ := kd_cons q22
  obtain ⟨u_24, cs24, rfl, ⟨vr, rfl⟩, q24⟩ := kd_cons q23
  obtain ⟨u_25, cs25, rfl, ⟨vn, rfl⟩, q25⟩ := kd_cons q24
  obtain rfl := kd_nil q25
  obtain ⟨rd, m1, _⟩ := rdC k1
  obtain ⟨ws, m2, m3⟩ := rdC k2
  obtain ⟨nw, m4, m5, m6⟩ := rdO k3
  obtain ⟨dl, m7⟩ := rdD k4
  obtain ⟨ac, m8, _⟩ := rdA k5
  have tail : FRs (fzW W) [frz (rd.map encC), frz (ws.map encC), encOs nw, frz dl, encAs ac, .int .i64 st, .bool th, .bool vr, .int .i64 vn] [u1, u2, u3, u4, u5, .int .i64 st, .bool th, .bool vr, .int .i64 vn] :=
    .cons m1 (.cons m2 (.cons m4 (.cons m7 (.cons m8 (.cons (.int _ _) (.cons (.bool _) (.cons (.bool _) (.cons (.int _ _) .nil))))))))
  have all : FRs (fzW W) (.int .i64 kd :: .int .i64 pc :: (regsE rg 16 ++ [frz (rd.map encC), frz (ws.map encC), encOs nw, frz dl, encAs ac, .int .i64 st, .bool th, .bool vr, .int .i64 vn])) (.int .i64 kd :: .int .i64 pc :: (regsE rg 16 ++ [u1, u2, u3, u4, u5, .int .i64 st, .bool th, .bool vr, .int .i64 vn])) :=
    .cons (.int _ _) (.cons (.int _ _) (frs_append (regs_frs rg 16) tail))
  exact ⟨⟨kd, pc, rg, rd.map encC, ws, nw, dl, ac.map encA, st, th, (vr, vn)⟩, all, m6, m3, m5⟩

/-- An outcome. -/
theorem rdOu {cs : List Value} (h : KdOK enc Tryd.prog W base sp held [.s 31, .b, .b, .i .i64, .s 29] cs) : ∃ o : Ou, FRs (fzW W) (cellsO o) cs ∧ o.1.length ≤ 9000000000000000000 ∧ o.2.2.2.length ≤ 281474976710656 ∧ ∀ x ∈ o.2.2.2, SmV x.2 := by
  obtain ⟨u1, cs26, rfl, k1, q26⟩ := kd_cons h
  obtain ⟨u_27, cs27, rfl, ⟨th, rfl⟩, q27⟩ := kd_cons q26
  obtain ⟨u_28, cs28, rfl, ⟨vr, rfl⟩, q28⟩ := kd_cons q27
  obtain ⟨u_29, cs29, rfl, ⟨vn, rfl⟩, q29⟩ := kd_cons q28
  obtain ⟨u2, cs30, rfl, k2, q30⟩ := kd_cons q29
  obtain rfl := kd_nil q30
  obtain ⟨la, m1, m2⟩ := rdA k1
  obtain ⟨os, m3, m4, m5⟩ := rdO k2
  exact ⟨(la, th, (vr, vn), os), .cons m1 (.cons (.bool _) (.cons (.bool _) (.cons (.int _ _) (.cons m3 .nil)))), m2, m5, m4⟩

theorem vr_agg {μ : Mu} {l : List Value} {cs : Array Value} (h : FRs μ.fz l cs.toList) : VR μ (.agg ⟨l⟩) (.agg cs) := by
  obtain ⟨cs⟩ := cs
  exact .agg h.vrs

theorem table_ok : (∀ v ∈ tableV, ∃ k n, v = Value.int k n) ∧ 0 < tableV.length := by
  refine ⟨fun v hv => ?_, by decide⟩
  unfold tableV at hv
  obtain ⟨n, _, rfl⟩ := List.mem_map.1 hv
  exact ⟨_, n, rfl⟩

/-- The call, over arguments that read as data. -/
theorem law_calls {v0 : Value} {c1 c2 c3 c4 : Array Value} (htb : ∀ (j : Nat) (v : Value), tableV[j]? = some v → W.cell? ⟨0, j, none⟩ = some v)
    (h0 : KdAt enc Tryd.prog W base sp held (.s 22) v0) (h1 : KdOK enc Tryd.prog W base sp held effKd c1.toList) (h2 : KdOK enc Tryd.prog W base sp held [.s 29] c2.toList)
    (h3 : KdOK enc Tryd.prog W base sp held [.s 31, .b, .b, .i .i64, .s 29] c3.toList) (h4 : KdOK enc Tryd.prog W base sp held [.s 31, .b, .b, .i .i64, .s 29] c4.toList) :
    Calls Tryd.prog 3 #[v0, .agg c1, .agg c2, .agg c3, .agg c4] W fun e w' => e = .returned (.bool true) ∧ Below W.heap.size W w' := by
  obtain ⟨us, k0⟩ := rdU h0
  obtain ⟨e, k1, e1, e2, e3⟩ := rdE h1
  obtain ⟨u_31, cs31, hc2, hu, q31⟩ := kd_cons h2
  obtain rfl := kd_nil q31
  obtain ⟨h, k2, f1, f2⟩ := rdO hu
  obtain ⟨o, k3, o1, o2, o3⟩ := rdOu h3
  obtain ⟨p, k4, _, p2, _⟩ := rdOu h4
  have hR : R (Base.of W) ⟨globPl 3, fzW W⟩ laG W := start_glob htb table_ok.2 table_ok.1 (by decide)
  have k0' : VR ⟨globPl 3, fzW W⟩ (encU us) v0 := FR.vr (μ := ⟨globPl 3, fzW W⟩) k0
  have k1' : VR ⟨globPl 3, fzW W⟩ (encE e) (.agg c1) := vr_agg (μ := ⟨globPl 3, fzW W⟩) k1
  have k2' : VR ⟨globPl 3, fzW W⟩ (encH h) (.agg c2) := vr_agg (μ := ⟨globPl 3, fzW W⟩) (by rw [hc2]; exact .cons k2 .nil)
  have k3' : VR ⟨globPl 3, fzW W⟩ (encOu o) (.agg c3) := vr_agg (μ := ⟨globPl 3, fzW W⟩) k3
  have k4' : VR ⟨globPl 3, fzW W⟩ (encOu p) (.agg c4) := vr_agg (μ := ⟨globPl 3, fzW W⟩) k4
  refine (law_ok us e h o p e1 e2 o2 p2 e3 f1 o3 o1 (Base.of W) _ W _ hR (.cons k0' (.cons k1' (.cons k2' (.cons k3' (.cons k4' .nil)))))).mono fun e w' ⟨u, s', v', ν, m1, m2, m3, m4, m5⟩ => ?_
  subst m1
  cases m5
  exact ⟨m2, m4.below⟩
end
end Go.Proofs.MA
