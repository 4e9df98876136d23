/-
  The document's scalars (veilref02): contracts by numbers.
-/
import Derived.Test.YtapkkciimlffnaaDoorVcTac
import Derived.Test.YtapkkciimlffnaaDoorDLeast
namespace Go.Vc
open Go Go.Proofs Go.RowKit

theorem hGT : ∀ w0 w : World, GT w0 → (∀ b, b < w0.heap.size → w.heap[b]? = w0.heap[b]?) → w0.heap.size ≤ w.heap.size → GT w := fun _ _ h h1 h2 => h.stays h1 h2
theorem hMix : Tryd.prog.follows .mixedOrders = true := by kernel_rfl
def T0 : Table := fun _ => {}
theorem keepT0 : AllKeep Tryd.prog GT T0 := AllKeep.none _ _
theorem lN_val : lN = 7237005577332262213973186563042994240857116359379907606001950938285454250989 := by decide

abbrev enc2 (p : Nat × Nat) : List Value := [S p.1, S p.2]
abbrev dom2 (p : Nat × Nat) : Prop := p.1 < W256 ∧ p.2 < W256
theorem inj2 (a b : Nat × Nat) (ha : dom2 a) (hb : dom2 b) (h : enc2 a = enc2 b) : a = b := by
  simp only [enc2, List.cons.injEq, and_true] at h
  exact Prod.ext (S_inj ha.1 hb.1 h.1) (S_inj ha.2 hb.2 h.2)

def cRl : Contract := fnP (fun _ : Unit => []) (fun _ => True) (fun _ v => v = S lN)
def cRbelow : Contract := fnP enc2 dom2 (fun p v => v = .bool (decide (p.1 < p.2)))
theorem below_law {a b : Nat} (ha : a < W256) (hb : b < W256) : (lb a 3 ≠ lb b 3 → (a < b ↔ lb a 3 < lb b 3)) ∧ (lb a 3 = lb b 3 → lb a 2 ≠ lb b 2 → (a < b ↔ lb a 2 < lb b 2)) ∧
    (lb a 3 = lb b 3 → lb a 2 = lb b 2 → lb a 1 ≠ lb b 1 → (a < b ↔ lb a 1 < lb b 1)) ∧ (lb a 3 = lb b 3 → lb a 2 = lb b 2 → lb a 1 = lb b 1 → (a < b ↔ lb a 0 < lb b 0)) := by
  have h1 := limbs_sum a ha
  have h2 := limbs_sum b hb
  have a0 := lb_lt a 0; have a1 := lb_lt a 1; have a2 := lb_lt a 2; have a3 := lb_lt a 3
  have b0 := lb_lt b 0; have b1 := lb_lt b 1; have b2 := lb_lt b 2; have b3 := lb_lt b 3
  generalize lb a 0 = p0 at *; generalize lb a 1 = p1 at *; generalize lb a 2 = p2 at *; generalize lb a 3 = p3 at *
  generalize lb b 0 = q0 at *; generalize lb b 1 = q1 at *; generalize lb b 2 = q2 at *; generalize lb b 3 = q3 at *
  simp only [B64] at *
  refine ⟨fun h => ?_, fun h h' => ?_, fun h h' h'' => ?_, fun h h' h'' => ?_⟩ <;> omega
def cRplus : Contract := fnP enc2 dom2 (fun p v => v = .tuple #[S ((p.1 + p.2) % W256), U ((p.1 + p.2) / W256)])
theorem plus_step {a b c o k : Nat} (hk : k < 4) (hc : c ≤ 1) (ho : o < B64 ^ k) (h : o + c * B64 ^ k = a % B64 ^ k + b % B64 ^ k) : ∃ t c', t < B64 ∧ c' ≤ 1 ∧ ((lb a k + lb b k) % B64 + c) % B64 = t ∧
    (¬ ((lb a k + lb b k) % B64 < lb a k) → ¬ (t < (lb a k + lb b k) % B64) → c' = 0) ∧ (((lb a k + lb b k) % B64 < lb a k) ∨ (t < (lb a k + lb b k) % B64) → c' = 1) ∧
    o + t * B64 ^ k < B64 ^ (k + 1) ∧ (o + t * B64 ^ k) + c' * B64 ^ (k + 1) = a % B64 ^ (k + 1) + b % B64 ^ (k + 1) := by
  rw [mod_lb a k, mod_lb b k]
  have hx := lb_lt a k
  have hy := lb_lt b k
  generalize lb a k = x at *
  generalize lb b k = y at *
  generalize a % B64 ^ k = p at *
  generalize b % B64 ^ k = q at *
  refine ⟨_, (x + y + c) / B64, Nat.mod_lt _ (by decide), ?_, rfl, ?_, ?_, ?_, ?_⟩
  · simp only [B64] at *; omega
  · simp only [B64] at *; omega
  · simp only [B64] at *; omega
  · simp only [B64] at *
    match k, hk with
    | 0, _ | 1, _ | 2, _ | 3, _ => simp at *; omega
  · simp only [B64] at *
    match k, hk with
    | 0, _ | 1, _ | 2, _ | 3, _ => simp at *; omega
def cRminus : Contract := fnP enc2 dom2 (fun p v => v = .tuple #[S ((p.1 + W256 - p.2) % W256), U (if p.1 < p.2 then 1 else 0)])
theorem minus_step {a b c o k : Nat} (hk : k < 4) (hc : c ≤ 1) (ho : o < B64 ^ k) (h : o + b % B64 ^ k = a % B64 ^ k + c * B64 ^ k) : ∃ t c', t < B64 ∧ c' ≤ 1 ∧ ((lb a k + B64 - lb b k) % B64 + B64 - c) % B64 = t ∧
    (¬ (lb a k < lb b k) → ¬ ((lb a k + B64 - lb b k) % B64 < c) → c' = 0) ∧ ((lb a k < lb b k) ∨ ((lb a k + B64 - lb b k) % B64 < c) → c' = 1) ∧
    o + t * B64 ^ k < B64 ^ (k + 1) ∧ (o + t * B64 ^ k) + b % B64 ^ (k + 1) = a % B64 ^ (k + 1) + c' * B64 ^ (k + 1) := by
  rw [mod_lb a k, mod_lb b k]
  have hx := lb_lt a k
  have hy := lb_lt b k
  generalize lb a k = x at *
  generalize lb b k = y at *
  generalize a % B64 ^ k = p at *
  generalize b % B64 ^ k = q at *
  refine ⟨_, if x < y + c then 1 else 0, Nat.mod_lt _ (by decide), ?_, rfl, ?_, ?_, ?_, ?_⟩
  · split <;> omega
  · simp only [B64] at *; intro _ _; rw [if_neg (by omega)]
  · simp only [B64] at *; intro _; rw [if_pos (by omega)]
  · simp only [B64] at *
    match k, hk with
    | 0, _ | 1, _ | 2, _ | 3, _ => simp at *; omega
  · simp only [B64] at *
    match k, hk with
    | 0, _ | 1, _ | 2, _ | 3, _ => simp at *; split <;> omega
/-! ### sixteen bits more -/
abbrev encSU (p : Nat × Nat) : List Value := [S p.1, U p.2]
def cRstep : Contract := fnP encSU (fun p => p.1 < lN ∧ p.2 < 65536) (fun p v => v = S ((65536 * p.1 + p.2) % lN))
abbrev cc : Nat := 27742317777372353535851937790883648493
theorem low_law {r0 r1 r2 r3 w : Nat} (h0 : r0 < B64) (h1 : r1 < B64) (h2 : r2 < B64) (h3 : r3 < 2305843009213693952) (hw : w < 65536) : ∃ q l0 l1 l2 l3, r3 / 2 ^ 44 = q ∧ r0 * 2 ^ 16 % B64 + w = l0 ∧ r1 * 2 ^ 16 % B64 + r0 / 2 ^ 48 = l1 ∧
    r2 * 2 ^ 16 % B64 + r1 / 2 ^ 48 = l2 ∧ (r3 * 2 ^ 16 % B64 + r2 / 2 ^ 48) % 2 ^ 60 = l3 ∧ q < 131072 ∧ l0 < B64 ∧ l1 < B64 ∧ l2 < B64 ∧ l3 < B64 ∧
    l0 + B64 * l1 + B64 ^ 2 * l2 + B64 ^ 3 * l3 < 2 ^ 252 ∧ q * 2 ^ 252 + (l0 + B64 * l1 + B64 ^ 2 * l2 + B64 ^ 3 * l3) = 65536 * (r0 + B64 * r1 + B64 ^ 2 * r2 + B64 ^ 3 * r3) + w := by
  simp only [B64] at *
  refine ⟨_, _, _, _, _, rfl, rfl, rfl, rfl, rfl, ?_, ?_, ?_, ?_, ?_, ?_, ?_⟩ <;> omega
theorem piece {m q c : Nat} (hm : m < 4294967296) (hq : q < 131072) (hc : c < 131072) : ∃ k c', (m * q % B64 + c) % B64 % 2 ^ 32 = k ∧ (m * q % B64 + c) % B64 / 2 ^ 32 = c' ∧ k < 4294967296 ∧ c' < 131072 ∧ k + 4294967296 * c' = m * q + c := by
  have h : m * q ≤ 4294967295 * 131071 := Nat.mul_le_mul (by omega) (by omega)
  generalize m * q = z at *
  simp only [B64]
  exact ⟨_, _, rfl, rfl, by omega, by omega, by omega⟩
theorem qc_law2 {q : Nat} (hq : q < 131072) : ∃ k0 c0 k1 c1 k2 c2 k3 c3, (1559614445 * q % B64 + 0) % B64 % 2 ^ 32 = k0 ∧ (1559614445 * q % B64 + 0) % B64 / 2 ^ 32 = c0 ∧ (1477600026 * q % B64 + c0) % B64 % 2 ^ 32 = k1 ∧ (1477600026 * q % B64 + c0) % B64 / 2 ^ 32 = c1 ∧
    (2734136534 * q % B64 + c1) % B64 % 2 ^ 32 = k2 ∧ (2734136534 * q % B64 + c1) % B64 / 2 ^ 32 = c2 ∧ (350157278 * q % B64 + c2) % B64 % 2 ^ 32 = k3 ∧ (350157278 * q % B64 + c2) % B64 / 2 ^ 32 = c3 ∧
    k0 < 4294967296 ∧ k1 < 4294967296 ∧ k2 < 4294967296 ∧ k3 < 4294967296 ∧ c3 < B64 ∧ k0 + k1 * 2 ^ 32 % B64 < B64 ∧ k2 + k3 * 2 ^ 32 % B64 < B64 ∧ (k0 + k1 * 2 ^ 32 % B64) + B64 * (k2 + k3 * 2 ^ 32 % B64) + B64 ^ 2 * c3 + B64 ^ 3 * 0 = q * cc := by
  obtain ⟨k0, c0, e0, f0, g0, h0, s0⟩ := piece (m := 1559614445) (by decide) hq (show 0 < 131072 by decide)
  obtain ⟨k1, c1, e1, f1, g1, h1, s1⟩ := piece (m := 1477600026) (by decide) hq h0
  obtain ⟨k2, c2, e2, f2, g2, h2, s2⟩ := piece (m := 2734136534) (by decide) hq h1
  obtain ⟨k3, c3, e3, f3, g3, h3, s3⟩ := piece (m := 350157278) (by decide) hq h2
  refine ⟨k0, c0, k1, c1, k2, c2, k3, c3, e0, f0, e1, f1, e2, f2, e3, f3, g0, g1, g2, g3, ?_, ?_, ?_, ?_⟩ <;> (clear e0 f0 e1 f1 e2 f2 e3 f3; simp only [B64, cc] at *; (try rw [Nat.mod_eq_of_lt (show k1 * 2 ^ 32 < 18446744073709551616 by omega)]); (try rw [Nat.mod_eq_of_lt (show k3 * 2 ^ 32 < 18446744073709551616 by omega)]); omega)
theorem step_lin {n q low Q M c L : Nat} (hL : L = M + c) (h : q * M + low = n) (hQ : q * c = Q) (hlow : low < M) (hQL : Q < L) : (low < Q → low + L - Q < L ∧ n % L = low + L - Q) ∧ (¬ low < Q → low - Q < L ∧ n % L = low - Q) := by
  have e : q * L = q * M + Q := by rw [hL, Nat.mul_add, hQ]
  refine ⟨fun hlt => ⟨by omega, ?_⟩, fun hge => ⟨by omega, ?_⟩⟩
  · have hq : 0 < q := by
      rcases Nat.eq_zero_or_pos q with h0 | h0
      · subst h0; rw [Nat.zero_mul] at hQ; omega
      · exact h0
    obtain ⟨k, rfl⟩ : ∃ k, q = k + 1 := ⟨q - 1, by omega⟩
    have : n = (low + L - Q) + L * k := by
      have e2 : (k + 1) * L = L * k + L := by rw [Nat.add_mul, Nat.one_mul, Nat.mul_comm]
      omega
    rw [this, Nat.add_mul_mod_self_left]
    exact Nat.mod_eq_of_lt (by omega)
  · have : n = (low - Q) + L * q := by rw [Nat.mul_comm L q]; omega
    rw [this, Nat.add_mul_mod_self_left]
    exact Nat.mod_eq_of_lt (by omega)
theorem lb_l : lb lN 0 = 6346243789798364141 ∧ lb lN 1 = 1503914060200516822 ∧ lb lN 2 = 0 ∧ lb lN 3 = 1152921504606846976 := by decide
theorem lN_lt : lN < W256 := by decide

end Go.Vc
