/-
  The document's scalars: Int, Add, Neg, IsZero, halves, Mul by numbers.
-/
import Derived.Test.YtapkkciimlffnaaDoorDBy
namespace Go.Vc
open Go Go.Proofs Go.RowKit

def cRInt : Contract := fnP (fun n : Nat => [U n]) (· < B64) (fun n v => v = S n)
theorem S_small {n : Nat} (h : n < B64) : Value.agg #[U n, U 0, U 0, U 0] = S n := by
  have z : 0 < B64 := by decide
  rw [S_of h z z z]
  simp
def cRAdd : Contract := fnP enc2 (fun p => p.1 < lN ∧ p.2 < lN) (fun p v => v = S ((p.1 + p.2) % lN))
def cRIsZ : Contract := fnP enc1 (· < W256) (fun n v => v = .bool (decide (n = 0)))
def cRNeg : Contract := fnP enc1 (· < lN) (fun n v => v = S (subL 0 n))
/-! ### the product -/
abbrev D32 : Nat := 4294967296
def num32 : List Nat → Nat | [] => 0 | a :: r => a + 4294967296 * num32 r
def hv (n i : Nat) : Nat := lb n (i / 2) / 4294967296 ^ (i % 2) % 4294967296
def H8 (n : Nat) : Value := .agg #[U (hv n 0), U (hv n 1), U (hv n 2), U (hv n 3), U (hv n 4), U (hv n 5), U (hv n 6), U (hv n 7)]
theorem hv_lt (n i : Nat) : hv n i < 4294967296 := Nat.mod_lt _ (by decide)
theorem hv_sum (n : Nat) (h : n < W256) : num32 [hv n 0, hv n 1, hv n 2, hv n 3, hv n 4, hv n 5, hv n 6, hv n 7] = n := by
  have hs := limbs_sum n h
  have b0 := lb_lt n 0; have b1 := lb_lt n 1; have b2 := lb_lt n 2; have b3 := lb_lt n 3
  show hv n 0 + 4294967296 * (hv n 1 + 4294967296 * (hv n 2 + 4294967296 * (hv n 3 + 4294967296 * (hv n 4 + 4294967296 * (hv n 5 + 4294967296 * (hv n 6 + 4294967296 * (hv n 7 + 4294967296 * 0))))))) = n
  have e : ∀ j, j < 4 → hv n (2 * j) + 4294967296 * hv n (2 * j + 1) = lb n j := fun j hj => by
    have := lb_lt n j
    unfold hv
    rw [show 2 * j / 2 = j by omega, show (2 * j + 1) / 2 = j by omega, show 2 * j % 2 = 0 by omega, show (2 * j + 1) % 2 = 1 by omega]
    simp only [B64] at *
    omega
  have e0 := e 0 (by omega); have e1 := e 1 (by omega); have e2 := e 2 (by omega); have e3 := e 3 (by omega)
  simp only [Nat.mul_zero, Nat.mul_one, Nat.reduceMul, Nat.reduceAdd, Nat.zero_add] at e0 e1 e2 e3
  simp only [B64] at hs
  omega
def cRHalves : Contract := fnP enc1 (· < W256) (fun n v => v = H8 n)
section
variable {K : Value → Prop} {P : Program}
theorem ask_aggH {n : Nat} : Ask (rAgg 8 (H8 n)) K = K (H8 n) := ask_agg rfl (by simp [U, Value.oneCell'])
theorem ask_selH0 {n : Nat} : Ask (rSel (aggArr (H8 n)) 0 1 false) K = K (U (hv n 0)) := ask_sel1 rfl
theorem ask_selH1 {n : Nat} : Ask (rSel (aggArr (H8 n)) 1 1 false) K = K (U (hv n 1)) := ask_sel1 rfl
theorem ask_selH2 {n : Nat} : Ask (rSel (aggArr (H8 n)) 2 1 false) K = K (U (hv n 2)) := ask_sel1 rfl
theorem ask_selH3 {n : Nat} : Ask (rSel (aggArr (H8 n)) 3 1 false) K = K (U (hv n 3)) := ask_sel1 rfl
theorem ask_selH4 {n : Nat} : Ask (rSel (aggArr (H8 n)) 4 1 false) K = K (U (hv n 4)) := ask_sel1 rfl
theorem ask_selH5 {n : Nat} : Ask (rSel (aggArr (H8 n)) 5 1 false) K = K (U (hv n 5)) := ask_sel1 rfl
theorem ask_selH6 {n : Nat} : Ask (rSel (aggArr (H8 n)) 6 1 false) K = K (U (hv n 6)) := ask_sel1 rfl
theorem ask_selH7 {n : Nat} : Ask (rSel (aggArr (H8 n)) 7 1 false) K = K (U (hv n 7)) := ask_sel1 rfl
theorem a_pc {K : Value → Value → Prop} {t : TypeId} {c1 c2 c3 c4 c5 c6 c7 c8 c9 d1 : Bool} {x y p c : Nat} (hx : x < 4294967296) (hy : y < 4294967296) (hp : p < 4294967296) (hc : c < 4294967296) (h : ∀ q d, q < 4294967296 → d < 4294967296 → q + 4294967296 * d = x * y + p + c → K (U q) (U d)) :
    Ask (rBin P .mul t c1 c2 (U x) (U y)) fun v1 => Ask (rBin P .add t c3 c4 v1 (U p)) fun v2 => Ask (rBin P .add t c5 c6 v2 (U c)) fun v3 => Ask (rBin P .and t c7 c8 v3 (U 4294967295)) fun v4 => Ask (rPlain v4) fun v5 => Ask (rBin P .shr t c9 d1 v3 (U 32)) fun v6 => K v5 v6 := by
  have hm : x * y ≤ 4294967295 * 4294967295 := Nat.mul_le_mul (by omega) (by omega)
  rw [ask_umul, ask_uadd, ask_uadd]
  have e : ((x * y % B64 + p) % B64 + c) % B64 = x * y + p + c := by simp only [B64]; omega
  rw [e, ask_umask (k := 32) (by simp only [B64]; omega) (by decide) (by decide), ask_uplain, ask_ushrU (by omega)]
  exact h _ _ (Nat.mod_lt _ (by decide)) (by omega) (Nat.mod_add_div _ _)
theorem row_step {q d z p c A Pt Zt : Nat} (h : q + 4294967296 * d = z + p + c) (hA : A = Pt + Zt + d) : q + 4294967296 * A = (p + 4294967296 * Pt) + (z + 4294967296 * Zt) + c := by omega
theorem col_step {q s t w A W : Nat} (h : q + 4294967296 * s = t + w) (hA : A = s + W) : q + 4294967296 * A = t + (w + 4294967296 * W) := by omega
theorem row_law {x Y p0 p1 p2 p3 p4 p5 p6 p7 q0 q1 q2 q3 q4 q5 q6 q7 d0 d1 d2 d3 d4 d5 d6 d7 y0 y1 y2 y3 y4 y5 y6 y7 : Nat} (hY : num32 [y0, y1, y2, y3, y4, y5, y6, y7] = Y)
    (h0 : q0 + 4294967296 * d0 = x * y0 + p0 + 0) (h1 : q1 + 4294967296 * d1 = x * y1 + p1 + d0) (h2 : q2 + 4294967296 * d2 = x * y2 + p2 + d1) (h3 : q3 + 4294967296 * d3 = x * y3 + p3 + d2) (h4 : q4 + 4294967296 * d4 = x * y4 + p4 + d3)
    (h5 : q5 + 4294967296 * d5 = x * y5 + p5 + d4) (h6 : q6 + 4294967296 * d6 = x * y6 + p6 + d5) (h7 : q7 + 4294967296 * d7 = x * y7 + p7 + d6) :
    q0 + 4294967296 * num32 [q1, q2, q3, q4, q5, q6, q7, d7] = num32 [p0, p1, p2, p3, p4, p5, p6, p7] + x * Y := by
  have e : x * Y = x * y0 + 4294967296 * (x * y1 + 4294967296 * (x * y2 + 4294967296 * (x * y3 + 4294967296 * (x * y4 + 4294967296 * (x * y5 + 4294967296 * (x * y6 + 4294967296 * (x * y7 + 4294967296 * 0))))))) := by
    rw [← hY]; simp only [num32, Nat.mul_add, Nat.mul_left_comm, Nat.mul_zero, Nat.add_zero]
  rw [e]
  clear e hY
  obtain ⟨z0, z1, z2, z3, z4, z5, z6, z7, hz0, hz1, hz2, hz3, hz4, hz5, hz6, hz7⟩ : ∃ z0 z1 z2 z3 z4 z5 z6 z7 : Nat, x * y0 = z0 ∧ x * y1 = z1 ∧ x * y2 = z2 ∧ x * y3 = z3 ∧ x * y4 = z4 ∧ x * y5 = z5 ∧ x * y6 = z6 ∧ x * y7 = z7 := ⟨_, _, _, _, _, _, _, _, rfl, rfl, rfl, rfl, rfl, rfl, rfl, rfl⟩
  rw [hz0, hz1, hz2, hz3, hz4, hz5, hz6, hz7]
  rw [hz0] at h0
  rw [hz1] at h1
  rw [hz2] at h2
  rw [hz3] at h3
  rw [hz4] at h4
  rw [hz5] at h5
  rw [hz6] at h6
  rw [hz7] at h7
  have g7 : q7 + 4294967296 * (d7 + 4294967296 * 0) = (p7 + 4294967296 * 0) + (z7 + 4294967296 * 0) + d6 := row_step h7 (by omega)
  have g6 : q6 + 4294967296 * (q7 + 4294967296 * (d7 + 4294967296 * 0)) = (p6 + 4294967296 * (p7 + 4294967296 * 0)) + (z6 + 4294967296 * (z7 + 4294967296 * 0)) + d5 := row_step h6 g7
  have g5 : q5 + 4294967296 * (q6 + 4294967296 * (q7 + 4294967296 * (d7 + 4294967296 * 0))) = (p5 + 4294967296 * (p6 + 4294967296 * (p7 + 4294967296 * 0))) + (z5 + 4294967296 * (z6 + 4294967296 * (z7 + 4294967296 * 0))) + d4 := row_step h5 g6
  have g4 : q4 + 4294967296 * (q5 + 4294967296 * (q6 + 4294967296 * (q7 + 4294967296 * (d7 + 4294967296 * 0)))) = (p4 + 4294967296 * (p5 + 4294967296 * (p6 + 4294967296 * (p7 + 4294967296 * 0)))) + (z4 + 4294967296 * (z5 + 4294967296 * (z6 + 4294967296 * (z7 + 4294967296 * 0)))) + d3 := row_step h4 g5
  have g3 : q3 + 4294967296 * (q4 + 4294967296 * (q5 + 4294967296 * (q6 + 4294967296 * (q7 + 4294967296 * (d7 + 4294967296 * 0))))) = (p3 + 4294967296 * (p4 + 4294967296 * (p5 + 4294967296 * (p6 + 4294967296 * (p7 + 4294967296 * 0))))) + (z3 + 4294967296 * (z4 + 4294967296 * (z5 + 4294967296 * (z6 + 4294967296 * (z7 + 4294967296 * 0))))) + d2 := row_step h3 g4
  have g2 : q2 + 4294967296 * (q3 + 4294967296 * (q4 + 4294967296 * (q5 + 4294967296 * (q6 + 4294967296 * (q7 + 4294967296 * (d7 + 4294967296 * 0)))))) = (p2 + 4294967296 * (p3 + 4294967296 * (p4 + 4294967296 * (p5 + 4294967296 * (p6 + 4294967296 * (p7 + 4294967296 * 0)))))) + (z2 + 4294967296 * (z3 + 4294967296 * (z4 + 4294967296 * (z5 + 4294967296 * (z6 + 4294967296 * (z7 + 4294967296 * 0)))))) + d1 := row_step h2 g3
  have g1 : q1 + 4294967296 * (q2 + 4294967296 * (q3 + 4294967296 * (q4 + 4294967296 * (q5 + 4294967296 * (q6 + 4294967296 * (q7 + 4294967296 * (d7 + 4294967296 * 0))))))) = (p1 + 4294967296 * (p2 + 4294967296 * (p3 + 4294967296 * (p4 + 4294967296 * (p5 + 4294967296 * (p6 + 4294967296 * (p7 + 4294967296 * 0))))))) + (z1 + 4294967296 * (z2 + 4294967296 * (z3 + 4294967296 * (z4 + 4294967296 * (z5 + 4294967296 * (z6 + 4294967296 * (z7 + 4294967296 * 0))))))) + d0 := row_step h1 g2
  have g0 : q0 + 4294967296 * (q1 + 4294967296 * (q2 + 4294967296 * (q3 + 4294967296 * (q4 + 4294967296 * (q5 + 4294967296 * (q6 + 4294967296 * (q7 + 4294967296 * (d7 + 4294967296 * 0)))))))) = (p0 + 4294967296 * (p1 + 4294967296 * (p2 + 4294967296 * (p3 + 4294967296 * (p4 + 4294967296 * (p5 + 4294967296 * (p6 + 4294967296 * (p7 + 4294967296 * 0)))))))) + (z0 + 4294967296 * (z1 + 4294967296 * (z2 + 4294967296 * (z3 + 4294967296 * (z4 + 4294967296 * (z5 + 4294967296 * (z6 + 4294967296 * (z7 + 4294967296 * 0)))))))) + 0 := row_step h0 g1
  simp only [num32]
  rw [g0, Nat.add_zero]
theorem col_law {X Y x0 x1 x2 x3 x4 x5 x6 x7 q0 q1 q2 q3 q4 q5 q6 q7 s0 s1 s2 s3 s4 s5 s6 s7 : Nat} (hX : num32 [x0, x1, x2, x3, x4, x5, x6, x7] = X) (h0 : q0 + 4294967296 * s0 = 0 + x0 * Y) (h1 : q1 + 4294967296 * s1 = s0 + x1 * Y) (h2 : q2 + 4294967296 * s2 = s1 + x2 * Y) (h3 : q3 + 4294967296 * s3 = s2 + x3 * Y)
    (h4 : q4 + 4294967296 * s4 = s3 + x4 * Y) (h5 : q5 + 4294967296 * s5 = s4 + x5 * Y) (h6 : q6 + 4294967296 * s6 = s5 + x6 * Y) (h7 : q7 + 4294967296 * s7 = s6 + x7 * Y) :
    q0 + 4294967296 * (q1 + 4294967296 * (q2 + 4294967296 * (q3 + 4294967296 * (q4 + 4294967296 * (q5 + 4294967296 * (q6 + 4294967296 * (q7 + 4294967296 * s7))))))) = X * Y := by
  have e : X * Y = x0 * Y + 4294967296 * (x1 * Y + 4294967296 * (x2 * Y + 4294967296 * (x3 * Y + 4294967296 * (x4 * Y + 4294967296 * (x5 * Y + 4294967296 * (x6 * Y + 4294967296 * (x7 * Y + 4294967296 * 0))))))) := by
    rw [← hX]; simp only [num32, Nat.add_mul, Nat.mul_assoc, Nat.mul_zero, Nat.add_zero]
  rw [e]
  have h := col_step h0 (col_step h1 (col_step h2 (col_step h3 (col_step h4 (col_step h5 (col_step h6 (col_step (W := 0) (A := s7) h7 rfl)))))))
  rw [Nat.zero_add] at h
  exact h
end

theorem st_mod {r r' p : Nat} {L : List Nat} (h : r = (p + 4294967296 * r') % lN) (h' : r' = num32 L % lN) : r = num32 (p :: L) % lN := by
  rw [h, h', num32, Nat.add_mod, Nat.mul_mod, Nat.mod_mod, ← Nat.mul_mod, ← Nat.add_mod]

end Go.Vc
