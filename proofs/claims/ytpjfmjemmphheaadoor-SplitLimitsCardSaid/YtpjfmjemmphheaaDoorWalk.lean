/- The walk of SplitLimits: by the executor, with the arguments as names, case by case. -/
import Derived.Test.YtpjfmjemmphheaaDoorProg
import Derived.Test.YtpjfmjemmphheaaDoorHx12
namespace Go.Proofs.YtpjfmjemmphheaaDoor
open Go Go.Hx Go.RowKit
set_option maxRecDepth 100000

def okTrue : Option (Value × St) → Bool
  | some (.bool true, _) => true
  | _ => false
theorem okTrue_spec {r : Option (Value × St)} (h : okTrue r = true) : ∃ s, r = some (.bool true, s) := by
  unfold okTrue at h
  split at h
  · exact ⟨_, rfl⟩
  · cases h

theorem all_nil {η : Int → Int} : ∀ e ∈ ([] : List FE), e.ok η := fun e h => by cases h
theorem all_cons {η : Int → Int} {e : FE} {l : List FE} (h : e.ok η) (t : ∀ e ∈ l, e.ok η) : ∀ x ∈ e :: l, x.ok η := fun x hx => by
  rcases List.mem_cons.1 hx with rfl | hx
  · exact h
  · exact t x hx

theorem noG_prog : NoG Tryd.prog := noG_ok (by kernel_rfl)

def targs : List Value := [.int .i64 TOK, .int .i64 (TOK + 1), .int .i64 (TOK + 2), .int .u8 (TOK + 3)]

def Done (a b c d : Int) (W : World) : Prop :=
  Calls Tryd.prog 3 #[.int .i64 a, .int .i64 b, .int .i64 c, .int .u8 d] W fun e W' => e = .returned (.bool true) ∧ Below W.heap.size W W'

def names (a b c d : Int) : Int → Int := tok [a, b, c, d, 16 * c]

section
variable {a b c d : Int}
theorem t0 : dn (names a b c d) TOK = a := by simp [names, dn, tok, TOK]
theorem t1 : dn (names a b c d) (TOK + 1) = b := by simp [names, dn, tok, TOK]
theorem t2 : dn (names a b c d) (TOK + 2) = c := by simp [names, dn, tok, TOK]
theorem t3 : dn (names a b c d) (TOK + 3) = d := by simp [names, dn, tok, TOK]
theorem t4 : dn (names a b c d) (TOK + 4) = 16 * c := by simp [names, dn, tok, TOK]
theorem k0 : dn (names a b c d) 0 = 0 := dn_lt (by decide)
theorem k1 : dn (names a b c d) 1 = 1 := dn_lt (by decide)
theorem k5 : dn (names a b c d) 5 = 5 := dn_lt (by decide)
theorem k16 : dn (names a b c d) 16 = 16 := dn_lt (by decide)
theorem kw : dn (names a b c d) 65536 = 65536 := dn_lt (by decide)
theorem km : dn (names a b c d) 1099511627776 = 1099511627776 := dn_lt (by decide)

theorem leaf {l : List FE} (hl : ∀ e ∈ l, e.ok (names a b c d)) (hr : okTrue (hcall Tryd.prog (factsOf l noConv) 200 30 3 targs St0) = true) (W : World) : Done a b c d W := by
  obtain ⟨s, hs⟩ := okTrue_spec hr
  refine run_flat noG_prog (factsOf_ok hl noConv_ok) 200 30 ?_ hs rfl
  have h1 := VR.int (η := names a b c d) (μ := fun _ => none) .i64 TOK
  have h2 := VR.int (η := names a b c d) (μ := fun _ => none) .i64 (TOK + 1)
  have h3 := VR.int (η := names a b c d) (μ := fun _ => none) .i64 (TOK + 2)
  have h4 := VR.int (η := names a b c d) (μ := fun _ => none) .u8 (TOK + 3)
  rw [t0] at h1
  rw [t1] at h2
  rw [t2] at h3
  rw [t3] at h4
  exact .cons h1 (.cons h2 (.cons h3 (.cons h4 .nil)))

theorem rem_ok {r : Int} (hr : dn (names a b c d) r = r) (h : d.tmod 5 = r) : FE.ok (names a b c d) ⟨.rem, .u8, TOK + 3, 5, .int .u8 r⟩ :=
  fe_rem (by rw [k5]; decide) (by rw [t3, k5, hr]; exact h)
theorem mulc_ok (h1 : 0 ≤ c) (h2 : c ≤ 1099511627776) : FE.ok (names a b c d) ⟨.mul, .i64, 16, TOK + 2, .int .i64 (TOK + 4)⟩ :=
  fe_mul (by rw [t2, t4, k16]; simp only [IntKind.wrap, IntKind.bits, IntKind.signed]; simp; omega)
theorem mulb_ok (h1 : 0 ≤ b) (h2 : b ≤ 65536) : FE.ok (names a b c d) ⟨.mul, .i64, TOK + 1, 1, .int .i64 (TOK + 1)⟩ :=
  fe_mul (by rw [t1, k1]; simp only [IntKind.wrap, IntKind.bits, IntKind.signed]; simp; omega)

theorem case0 (hd : d.tmod 5 = 0) (W : World) : Done a b c d W := by
  have hr := rem_ok (a := a) (b := b) (c := c) (dn_lt (by decide)) hd
  by_cases h1 : a < 0
  · exact leaf (l := [⟨.rem, .u8, TOK + 3, 5, .int .u8 0⟩, ⟨.lss, .i64, TOK, 0, .bool true⟩]) (all_cons hr (all_cons (fe_lss (by rw [t0, k0]; exact decide_eq_true (by omega))) all_nil)) (by kernel_rfl) W
  · by_cases h2 : a > 65536
    · exact leaf (l := [⟨.rem, .u8, TOK + 3, 5, .int .u8 0⟩, ⟨.lss, .i64, TOK, 0, .bool false⟩, ⟨.gtr, .i64, TOK, 65536, .bool true⟩]) (all_cons hr (all_cons (fe_lss (by rw [t0, k0]; exact decide_eq_false (by omega))) (all_cons (fe_gtr (by rw [t0, kw]; exact decide_eq_true (by omega))) all_nil))) (by kernel_rfl) W
    · by_cases h3 : 1 ≥ a
      · exact leaf (l := [⟨.rem, .u8, TOK + 3, 5, .int .u8 0⟩, ⟨.lss, .i64, TOK, 0, .bool false⟩, ⟨.gtr, .i64, TOK, 65536, .bool false⟩, ⟨.geq, .i64, 1, TOK, .bool true⟩]) (all_cons hr (all_cons (fe_lss (by rw [t0, k0]; exact decide_eq_false (by omega))) (all_cons (fe_gtr (by rw [t0, kw]; exact decide_eq_false (by omega))) (all_cons (fe_geq (by rw [k1, t0]; exact decide_eq_true (by omega))) all_nil)))) (by kernel_rfl) W
      · exact leaf (l := [⟨.rem, .u8, TOK + 3, 5, .int .u8 0⟩, ⟨.lss, .i64, TOK, 0, .bool false⟩, ⟨.gtr, .i64, TOK, 65536, .bool false⟩, ⟨.geq, .i64, 1, TOK, .bool false⟩]) (all_cons hr (all_cons (fe_lss (by rw [t0, k0]; exact decide_eq_false (by omega))) (all_cons (fe_gtr (by rw [t0, kw]; exact decide_eq_false (by omega))) (all_cons (fe_geq (by rw [k1, t0]; exact decide_eq_false (by omega))) all_nil)))) (by kernel_rfl) W

theorem case1 (hd : d.tmod 5 = 1) (W : World) : Done a b c d W := by
  have hr := rem_ok (a := a) (b := b) (c := c) (dn_lt (by decide)) hd
  by_cases h1 : b < 0
  · exact leaf (l := [⟨.rem, .u8, TOK + 3, 5, .int .u8 1⟩, ⟨.lss, .i64, TOK + 1, 0, .bool true⟩]) (all_cons hr (all_cons (fe_lss (by rw [t1, k0]; exact decide_eq_true (by omega))) all_nil)) (by kernel_rfl) W
  · by_cases h2 : b > 65536
    · exact leaf (l := [⟨.rem, .u8, TOK + 3, 5, .int .u8 1⟩, ⟨.lss, .i64, TOK + 1, 0, .bool false⟩, ⟨.gtr, .i64, TOK + 1, 65536, .bool true⟩]) (all_cons hr (all_cons (fe_lss (by rw [t1, k0]; exact decide_eq_false (by omega))) (all_cons (fe_gtr (by rw [t1, kw]; exact decide_eq_true (by omega))) all_nil))) (by kernel_rfl) W
    · by_cases h3 : 16 ≤ b
      · exact leaf (l := [⟨.rem, .u8, TOK + 3, 5, .int .u8 1⟩, ⟨.lss, .i64, TOK + 1, 0, .bool false⟩, ⟨.gtr, .i64, TOK + 1, 65536, .bool false⟩, ⟨.mul, .i64, TOK + 1, 1, .int .i64 (TOK + 1)⟩, ⟨.leq, .i64, 16, TOK + 1, .bool true⟩]) (all_cons hr (all_cons (fe_lss (by rw [t1, k0]; exact decide_eq_false (by omega))) (all_cons (fe_gtr (by rw [t1, kw]; exact decide_eq_false (by omega))) (all_cons (mulb_ok (by omega) (by omega)) (all_cons (fe_leq (by rw [k16, t1]; exact decide_eq_true (by omega))) all_nil))))) (by kernel_rfl) W
      · exact leaf (l := [⟨.rem, .u8, TOK + 3, 5, .int .u8 1⟩, ⟨.lss, .i64, TOK + 1, 0, .bool false⟩, ⟨.gtr, .i64, TOK + 1, 65536, .bool false⟩, ⟨.mul, .i64, TOK + 1, 1, .int .i64 (TOK + 1)⟩, ⟨.leq, .i64, 16, TOK + 1, .bool false⟩]) (all_cons hr (all_cons (fe_lss (by rw [t1, k0]; exact decide_eq_false (by omega))) (all_cons (fe_gtr (by rw [t1, kw]; exact decide_eq_false (by omega))) (all_cons (mulb_ok (by omega) (by omega)) (all_cons (fe_leq (by rw [k16, t1]; exact decide_eq_false (by omega))) all_nil))))) (by kernel_rfl) W

theorem case2 (hd : d.tmod 5 = 2) (W : World) : Done a b c d W := by
  have hr := rem_ok (a := a) (b := b) (c := c) (dn_lt (by decide)) hd
  by_cases h1 : c < 0
  · exact leaf (l := [⟨.rem, .u8, TOK + 3, 5, .int .u8 2⟩, ⟨.lss, .i64, TOK + 2, 0, .bool true⟩]) (all_cons hr (all_cons (fe_lss (by rw [t2, k0]; exact decide_eq_true (by omega))) all_nil)) (by kernel_rfl) W
  · by_cases h2 : c > 1099511627776
    · exact leaf (l := [⟨.rem, .u8, TOK + 3, 5, .int .u8 2⟩, ⟨.lss, .i64, TOK + 2, 0, .bool false⟩, ⟨.gtr, .i64, TOK + 2, 1099511627776, .bool true⟩]) (all_cons hr (all_cons (fe_lss (by rw [t2, k0]; exact decide_eq_false (by omega))) (all_cons (fe_gtr (by rw [t2, km]; exact decide_eq_true (by omega))) all_nil))) (by kernel_rfl) W
    · by_cases h3 : c ≥ 1
      · exact leaf (l := [⟨.rem, .u8, TOK + 3, 5, .int .u8 2⟩, ⟨.lss, .i64, TOK + 2, 0, .bool false⟩, ⟨.gtr, .i64, TOK + 2, 1099511627776, .bool false⟩, ⟨.geq, .i64, TOK + 2, 1, .bool true⟩, ⟨.mul, .i64, 16, TOK + 2, .int .i64 (TOK + 4)⟩, ⟨.leq, .i64, 16, TOK + 4, .bool true⟩]) (all_cons hr (all_cons (fe_lss (by rw [t2, k0]; exact decide_eq_false (by omega))) (all_cons (fe_gtr (by rw [t2, km]; exact decide_eq_false (by omega))) (all_cons (fe_geq (by rw [t2, k1]; exact decide_eq_true (by omega))) (all_cons (mulc_ok (by omega) (by omega)) (all_cons (fe_leq (by rw [k16, t4]; exact decide_eq_true (by omega))) all_nil)))))) (by kernel_rfl) W
      · exact leaf (l := [⟨.rem, .u8, TOK + 3, 5, .int .u8 2⟩, ⟨.lss, .i64, TOK + 2, 0, .bool false⟩, ⟨.gtr, .i64, TOK + 2, 1099511627776, .bool false⟩, ⟨.geq, .i64, TOK + 2, 1, .bool false⟩]) (all_cons hr (all_cons (fe_lss (by rw [t2, k0]; exact decide_eq_false (by omega))) (all_cons (fe_gtr (by rw [t2, km]; exact decide_eq_false (by omega))) (all_cons (fe_geq (by rw [t2, k1]; exact decide_eq_false (by omega))) all_nil)))) (by kernel_rfl) W

theorem case3 (hd : d.tmod 5 = 3) (W : World) : Done a b c d W := by
  have hr := rem_ok (a := a) (b := b) (c := c) (dn_lt (by decide)) hd
  by_cases h1 : c < 0
  · exact leaf (l := [⟨.rem, .u8, TOK + 3, 5, .int .u8 3⟩, ⟨.lss, .i64, TOK + 2, 0, .bool true⟩]) (all_cons hr (all_cons (fe_lss (by rw [t2, k0]; exact decide_eq_true (by omega))) all_nil)) (by kernel_rfl) W
  · by_cases h2 : c > 1099511627776
    · exact leaf (l := [⟨.rem, .u8, TOK + 3, 5, .int .u8 3⟩, ⟨.lss, .i64, TOK + 2, 0, .bool false⟩, ⟨.gtr, .i64, TOK + 2, 1099511627776, .bool true⟩]) (all_cons hr (all_cons (fe_lss (by rw [t2, k0]; exact decide_eq_false (by omega))) (all_cons (fe_gtr (by rw [t2, km]; exact decide_eq_true (by omega))) all_nil))) (by kernel_rfl) W
    · exact leaf (l := [⟨.rem, .u8, TOK + 3, 5, .int .u8 3⟩, ⟨.lss, .i64, TOK + 2, 0, .bool false⟩, ⟨.gtr, .i64, TOK + 2, 1099511627776, .bool false⟩]) (all_cons hr (all_cons (fe_lss (by rw [t2, k0]; exact decide_eq_false (by omega))) (all_cons (fe_gtr (by rw [t2, km]; exact decide_eq_false (by omega))) all_nil))) (by kernel_rfl) W

theorem case4 (hd : d.tmod 5 = 4) (W : World) : Done a b c d W := by
  have hr := rem_ok (a := a) (b := b) (c := c) (dn_lt (by decide)) hd
  by_cases h1 : c < 0
  · exact leaf (l := [⟨.rem, .u8, TOK + 3, 5, .int .u8 4⟩, ⟨.lss, .i64, TOK + 2, 0, .bool true⟩]) (all_cons hr (all_cons (fe_lss (by rw [t2, k0]; exact decide_eq_true (by omega))) all_nil)) (by kernel_rfl) W
  · by_cases h2 : c > 1099511627776
    · exact leaf (l := [⟨.rem, .u8, TOK + 3, 5, .int .u8 4⟩, ⟨.lss, .i64, TOK + 2, 0, .bool false⟩, ⟨.gtr, .i64, TOK + 2, 1099511627776, .bool true⟩]) (all_cons hr (all_cons (fe_lss (by rw [t2, k0]; exact decide_eq_false (by omega))) (all_cons (fe_gtr (by rw [t2, km]; exact decide_eq_true (by omega))) all_nil))) (by kernel_rfl) W
    · by_cases h3 : 16 * c ≤ 16
      · exact leaf (l := [⟨.rem, .u8, TOK + 3, 5, .int .u8 4⟩, ⟨.lss, .i64, TOK + 2, 0, .bool false⟩, ⟨.gtr, .i64, TOK + 2, 1099511627776, .bool false⟩, ⟨.mul, .i64, 16, TOK + 2, .int .i64 (TOK + 4)⟩, ⟨.leq, .i64, TOK + 4, 16, .bool true⟩]) (all_cons hr (all_cons (fe_lss (by rw [t2, k0]; exact decide_eq_false (by omega))) (all_cons (fe_gtr (by rw [t2, km]; exact decide_eq_false (by omega))) (all_cons (mulc_ok (by omega) (by omega)) (all_cons (fe_leq (by rw [t4, k16]; exact decide_eq_true (by omega))) all_nil))))) (by kernel_rfl) W
      · exact leaf (l := [⟨.rem, .u8, TOK + 3, 5, .int .u8 4⟩, ⟨.lss, .i64, TOK + 2, 0, .bool false⟩, ⟨.gtr, .i64, TOK + 2, 1099511627776, .bool false⟩, ⟨.mul, .i64, 16, TOK + 2, .int .i64 (TOK + 4)⟩, ⟨.leq, .i64, TOK + 4, 16, .bool false⟩]) (all_cons hr (all_cons (fe_lss (by rw [t2, k0]; exact decide_eq_false (by omega))) (all_cons (fe_gtr (by rw [t2, km]; exact decide_eq_false (by omega))) (all_cons (mulc_ok (by omega) (by omega)) (all_cons (fe_leq (by rw [t4, k16]; exact decide_eq_false (by omega))) all_nil))))) (by kernel_rfl) W

theorem law_any (a b c d : Int) (h0 : 0 ≤ d) (W : World) : Done a b c d W := by
  have h : d.tmod 5 = d % 5 := Int.tmod_eq_emod_of_nonneg h0
  have h5 : d % 5 = 0 ∨ d % 5 = 1 ∨ d % 5 = 2 ∨ d % 5 = 3 ∨ d % 5 = 4 := by omega
  rcases h5 with h5 | h5 | h5 | h5 | h5
  · exact case0 (h.trans h5) W
  · exact case1 (h.trans h5) W
  · exact case2 (h.trans h5) W
  · exact case3 (h.trans h5) W
  · exact case4 (h.trans h5) W

end
end Go.Proofs.YtpjfmjemmphheaaDoor

