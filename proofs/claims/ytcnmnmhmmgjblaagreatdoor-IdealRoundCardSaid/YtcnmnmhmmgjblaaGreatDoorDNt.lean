/-
  Numbers: primes, Fermat's theorem, Pocklington's test; the prime l; inverses modulo l.
-/
import Derived.Test.YtcnmnmhmmgjblaaGreatDoorDLeast
namespace Go.Vc
def IsPr (p : Nat) : Prop := 1 < p ∧ ∀ d, d ∣ p → d = 1 ∨ d = p
theorem IsPr.cop {p k : Nat} (h : IsPr p) (hk : ¬ p ∣ k) : Nat.Coprime k p := by
  rcases h.2 _ (Nat.gcd_dvd_right k p) with h1 | h1
  · exact h1
  · exact absurd (h1 ▸ Nat.gcd_dvd_left k p) hk
/-! ### binomials -/
def ch : Nat → Nat → Nat
  | _, 0 => 1
  | 0, _ + 1 => 0
  | n + 1, k + 1 => ch n k + ch n (k + 1)
theorem ch_zero (n : Nat) : ch n 0 = 1 := by cases n <;> rfl
theorem ch_mul : ∀ n k, (k + 1) * ch (n + 1) (k + 1) = (n + 1) * ch n k
  | 0, 0 => rfl
  | 0, k + 1 => by simp [ch]
  | n + 1, 0 => by
    have ih := ch_mul n 0
    rw [ch_zero] at ih ⊢
    simp only [Nat.zero_add, Nat.one_mul, Nat.mul_one] at ih ⊢
    rw [ch, ch_zero, ih]; omega
  | n + 1, k + 1 => by
    have i1 := ch_mul n (k + 1)
    have i2 := ch_mul n k
    have e : ch (n + 1 + 1) (k + 1 + 1) = ch (n + 1) (k + 1) + ch (n + 1) (k + 1 + 1) := rfl
    have e2 : ch (n + 1) (k + 1) = ch n k + ch n (k + 1) := rfl
    rw [e, Nat.mul_add, i1, Nat.add_mul (k + 1) 1, i2, Nat.one_mul, Nat.add_right_comm, ← Nat.mul_add, ← e2, Nat.add_mul (n + 1) 1, Nat.one_mul]
theorem ch_above : ∀ n k, n < k → ch n k = 0
  | 0, k + 1, _ => rfl
  | n + 1, k + 1, h => by
    show ch n k + ch n (k + 1) = 0
    rw [ch_above n k (by omega), ch_above n (k + 1) (by omega)]
theorem ch_self : ∀ n, ch n n = 1
  | 0 => rfl
  | n + 1 => by
    show ch n n + ch n (n + 1) = 1
    rw [ch_self n, ch_above n (n + 1) (by omega)]
def bs (n x : Nat) : Nat → Nat
  | 0 => 0
  | m + 1 => bs n x m + ch n m * x ^ m
theorem bs_succ (n x : Nat) : ∀ m, bs (n + 1) x (m + 1) = bs n x (m + 1) + x * bs n x m
  | 0 => by simp [bs, ch_zero]
  | m + 1 => by
    have ih := bs_succ n x m
    have e1 : bs (n + 1) x (m + 1 + 1) = bs (n + 1) x (m + 1) + (ch n m + ch n (m + 1)) * x ^ (m + 1) := rfl
    have e2 : bs n x (m + 1 + 1) = bs n x (m + 1) + ch n (m + 1) * x ^ (m + 1) := rfl
    have e3 : bs n x (m + 1) = bs n x m + ch n m * x ^ m := rfl
    rw [e1, ih, e2, Nat.add_mul]
    generalize hA : bs n x (m + 1) = A at *
    rw [e3, Nat.mul_add, show x * (ch n m * x ^ m) = ch n m * x ^ (m + 1) by rw [Nat.pow_succ, ← Nat.mul_assoc, Nat.mul_comm x, Nat.mul_assoc, Nat.mul_comm x]]
    omega
theorem bs_full (x : Nat) : ∀ n, bs n x (n + 1) = (1 + x) ^ n
  | 0 => by simp [bs, ch]
  | n + 1 => by
    have e2 : bs n x (n + 1 + 1) = bs n x (n + 1) + ch n (n + 1) * x ^ (n + 1) := rfl
    rw [bs_succ, e2, ch_above n (n + 1) (by omega), bs_full x n, Nat.zero_mul, Nat.add_zero, Nat.pow_succ, Nat.mul_add, Nat.mul_one, Nat.mul_comm x]
/-! ### Fermat -/
theorem dvd_ch {p : Nat} (h : IsPr p) {k : Nat} (h0 : 0 < k) (hk : k < p) : p ∣ ch p k := by
  match p, k, h0, hk with
  | q + 1, j + 1, _, hk =>
    have e := ch_mul q j
    have hc : Nat.Coprime (j + 1) (q + 1) := h.cop fun hd => by have := Nat.le_of_dvd (by omega) hd; omega
    exact (Nat.Coprime.symm hc).dvd_of_dvd_mul_left (e ▸ Nat.dvd_mul_right _ _)
theorem bs_mod {p : Nat} (h : IsPr p) (x : Nat) : ∀ m, m + 1 ≤ p → bs p x (m + 1) % p = 1 % p
  | 0, _ => by simp [bs, ch_zero]
  | m + 1, hm => by
    have ih := bs_mod h x m (by omega)
    have e : bs p x (m + 1 + 1) = bs p x (m + 1) + ch p (m + 1) * x ^ (m + 1) := rfl
    rw [e, Nat.add_mod, ih, Nat.mod_eq_zero_of_dvd (Nat.dvd_trans (dvd_ch h (by omega) (by omega)) (Nat.dvd_mul_right _ _)), Nat.add_zero, Nat.mod_mod]
theorem dream {p : Nat} (h : IsPr p) (x : Nat) : (1 + x) ^ p % p = (1 + x ^ p) % p := by
  have h1 := h.1
  have e : bs p x (p + 1) = bs p x p + ch p p * x ^ p := rfl
  rw [← bs_full, e, ch_self, Nat.one_mul, Nat.add_mod]
  have hb := bs_mod h x (p - 1) (by omega)
  rw [show p - 1 + 1 = p by omega] at hb
  rw [hb, ← Nat.add_mod]
theorem fermat0 {p : Nat} (h : IsPr p) : ∀ x, x ^ p % p = x % p
  | 0 => by rw [Nat.zero_pow (by have := h.1; omega)]
  | x + 1 => by
    rw [Nat.add_comm x 1, dream h, Nat.add_mod, fermat0 h x, ← Nat.add_mod]
theorem mod_cancel {p x a b : Nat} (hc : Nat.Coprime x p) (h : x * a % p = x * b % p) : a % p = b % p := by
  have key : ∀ {a b : Nat}, b ≤ a → x * a % p = x * b % p → a % p = b % p := fun {a b} hab h => by
    have h2 : p ∣ x * (a - b) := by
      rw [Nat.mul_sub]
      exact (Nat.dvd_iff_mod_eq_zero).2 (Nat.sub_mod_eq_zero_of_mod_eq h)
    have h3 : p ∣ a - b := (Nat.Coprime.symm hc).dvd_of_dvd_mul_left h2
    obtain ⟨c, hc⟩ := h3
    rw [show a = b + p * c by omega, Nat.add_mul_mod_self_left]
  rcases Nat.le_total b a with hab | hab
  · exact key hab h
  · exact (key hab h.symm).symm
theorem fermat {p x : Nat} (h : IsPr p) (hx : ¬ p ∣ x) : x ^ (p - 1) % p = 1 % p := by
  have h1 := h.1
  refine mod_cancel (h.cop hx) ?_
  rw [Nat.mul_comm, ← Nat.pow_succ, show (p - 1).succ = p by omega, fermat0 h, Nat.mul_one]
/-! ### Pocklington -/
theorem pow_mod_cong {a b n : Nat} (k : Nat) (h : a % n = b % n) : a ^ k % n = b ^ k % n := by rw [Nat.pow_mod, h, ← Nat.pow_mod]
theorem pow_gcd {c r : Nat} (m n : Nat) : c ^ m % r = 1 % r → c ^ n % r = 1 % r → c ^ (Nat.gcd m n) % r = 1 % r := by
  induction m, n using Nat.gcd.induction with
  | H0 n => intro _ h; rw [Nat.gcd_zero_left]; exact h
  | H1 m n hm ih =>
    intro h1 h2
    rw [Nat.gcd_rec]
    refine ih ?_ h1
    have e : c ^ n = (c ^ m) ^ (n / m) * c ^ (n % m) := by rw [← Nat.pow_mul, ← Nat.pow_add, Nat.div_add_mod]
    rw [e, Nat.mul_mod, pow_mod_cong (n / m) h1, Nat.one_pow, ← Nat.mul_mod, Nat.one_mul] at h2
    exact h2
theorem pock_step {N a q m b r : Nat} (hq : IsPr q) (hN : N = q * m + 1) (h1 : a ^ (q * m) % N = 1) (hb : a ^ m % N = b) (h2 : Nat.gcd (b + (N - 1)) N = 1) (hr : IsPr r) (hrN : r ∣ N) : q ∣ r - 1 := by
  by_cases hd : q ∣ r - 1
  · exact hd
  exfalso
  have hr1 := hr.1
  have c1 : (a ^ m) ^ q % r = 1 % r := by
    rw [← Nat.pow_mul, Nat.mul_comm m q, ← Nat.mod_mod_of_dvd _ hrN, h1]
  have hnd : ¬ r ∣ a ^ m := fun hdd => by
    have hq1 := hq.1
    have : r ∣ (a ^ m) ^ q := by
      obtain ⟨k, rfl⟩ : ∃ k, q = k + 1 := ⟨q - 1, by omega⟩
      rw [Nat.pow_succ]
      exact Nat.dvd_trans hdd (Nat.dvd_mul_left _ _)
    rw [Nat.mod_eq_zero_of_dvd this, Nat.mod_eq_of_lt hr1] at c1
    omega
  have c2 := fermat hr hnd
  have c3 := pow_gcd q (r - 1) c1 c2
  have hg : Nat.gcd q (r - 1) = 1 := by rw [Nat.gcd_comm]; exact hq.cop hd
  rw [hg, Nat.pow_one] at c3
  have hbr : b % r = 1 % r := by rw [← hb, Nat.mod_mod_of_dvd _ hrN]; exact c3
  have hdv : r ∣ b + (N - 1) := by
    rw [Nat.dvd_iff_mod_eq_zero, Nat.add_mod, hbr, ← Nat.add_mod, show 1 + (N - 1) = N by omega]
    exact Nat.mod_eq_zero_of_dvd hrN
  have := Nat.dvd_gcd hdv hrN
  rw [h2] at this
  have := Nat.le_of_dvd (by omega) this
  omega
theorem prime_div : ∀ n : Nat, 1 < n → ∃ r, IsPr r ∧ r ∣ n := fun n => by
  induction n using Nat.strongRecOn with
  | _ n ih =>
    intro h1
    by_cases hp : IsPr n
    · exact ⟨n, hp, Nat.dvd_refl n⟩
    · have : ∃ d, d ∣ n ∧ d ≠ 1 ∧ d ≠ n := by
        refine Classical.byContradiction fun hno => hp ⟨h1, fun d hd => ?_⟩
        by_cases h : d = 1
        · exact .inl h
        · exact .inr (Classical.byContradiction fun h' => hno ⟨d, hd, h, h'⟩)
      obtain ⟨d, hd, hd1, hdn⟩ := this
      have hle := Nat.le_of_dvd (by omega) hd
      have h0 : d ≠ 0 := fun h => by subst h; have := Nat.eq_zero_of_zero_dvd hd; omega
      obtain ⟨r, hr, hrd⟩ := ih d (by omega) (by omega)
      exact ⟨r, hr, Nat.dvd_trans hrd hd⟩
theorem prime_of {N : Nat} (h1 : 1 < N) (h : ∀ r, IsPr r → r ∣ N → N < r * r) : IsPr N := by
  refine Classical.byContradiction fun hp => ?_
  have : ∃ d, d ∣ N ∧ d ≠ 1 ∧ d ≠ N := by
    refine Classical.byContradiction fun hno => hp ⟨h1, fun d hd => ?_⟩
    by_cases h : d = 1
    · exact .inl h
    · exact .inr (Classical.byContradiction fun h' => hno ⟨d, hd, h, h'⟩)
  obtain ⟨d, ⟨e, rfl⟩, hd1, hdn⟩ := this
  have hd0 : d ≠ 0 := fun h0 => by rw [h0, Nat.zero_mul] at h1; omega
  have he0 : e ≠ 0 := fun h0 => by rw [h0, Nat.mul_zero] at h1; omega
  have he1 : e ≠ 1 := fun h' => hdn (by rw [h', Nat.mul_one])
  have key : ∀ {a b : Nat}, 1 < a → a ≤ b → a * b = d * e → False := fun {a b} ha hab hm => by
    obtain ⟨r, hr, hra⟩ := prime_div a ha
    have h2 := h r hr (Nat.dvd_trans hra (by rw [← hm]; exact Nat.dvd_mul_right _ _))
    have hle := Nat.le_of_dvd (by omega) hra
    have := Nat.mul_le_mul hle (Nat.le_trans hle hab)
    omega
  rcases Nat.le_total d e with hde | hde
  · exact key (by omega) hde rfl
  · exact key (by omega) hde (Nat.mul_comm e d)
theorem pock {N a q m b : Nat} (hq : IsPr q) (hN : N = q * m + 1) (hm : 0 < m) (h1 : a ^ (q * m) % N = 1) (hb : a ^ m % N = b) (h2 : Nat.gcd (b + (N - 1)) N = 1) (hbig : N < (q + 1) * (q + 1)) : IsPr N := by
  have hq1 := hq.1
  have hN1 : 1 < N := by
    have := Nat.mul_le_mul hq1 hm
    omega
  refine prime_of hN1 fun r hr hrN => ?_
  have hd := pock_step hq hN h1 hb h2 hr hrN
  have hr1 := hr.1
  have := Nat.le_of_dvd (by omega) hd
  exact Nat.lt_of_lt_of_le hbig (Nat.mul_le_mul (by omega) (by omega))
theorem pock2 {N a q m b q' m' b' : Nat} (hq : IsPr q) (hq' : IsPr q') (hne : q ≠ q') (hN : N = q * m + 1) (hN' : N = q' * m' + 1) (hN1 : 1 < N) (h1 : a ^ (q * m) % N = 1) (hb : a ^ m % N = b) (h2 : Nat.gcd (b + (N - 1)) N = 1)
    (hb' : a ^ m' % N = b') (h2' : Nat.gcd (b' + (N - 1)) N = 1) (hbig : N < (q * q' + 1) * (q * q' + 1)) : IsPr N := by
  refine prime_of hN1 fun r hr hrN => ?_
  have hd := pock_step hq hN h1 hb h2 hr hrN
  have hd' := pock_step hq' hN' (by rw [show q' * m' = q * m by omega]; exact h1) hb' h2' hr hrN
  have hc : Nat.Coprime q q' := hq'.cop fun h => by
    rcases hq.2 _ h with h | h
    · have := hq'.1; omega
    · exact hne h.symm
  have hr1 := hr.1
  have := Nat.le_of_dvd (by omega) (hc.mul_dvd_of_dvd_of_dvd hd hd')
  exact Nat.lt_of_lt_of_le hbig (Nat.mul_le_mul (by omega) (by omega))
/-! ### by reckoning -/
def pmL (n a : Nat) : Nat → Nat → Nat
  | 0, _ => 1 % n
  | f + 1, e => (fun h => if e = 0 then 1 % n else if e % 2 = 0 then h * h % n else h * h % n * a % n) (pmL n a f (e / 2))
theorem pmL_eq (n a : Nat) : ∀ f e, e < 2 ^ f → pmL n a f e = a ^ e % n
  | 0, e, h => by
    have : e = 0 := by simpa using h
    subst this; simp [pmL]
  | f + 1, e, h => by
    have ih := pmL_eq n a f (e / 2) (by rw [Nat.pow_succ] at h; omega)
    show (if e = 0 then 1 % n else if e % 2 = 0 then pmL n a f (e / 2) * pmL n a f (e / 2) % n else pmL n a f (e / 2) * pmL n a f (e / 2) % n * a % n) = _
    rw [ih]
    split
    · rename_i h0; subst h0; simp
    · split
      · rename_i h2
        rw [← Nat.mul_mod, ← Nat.pow_add, show e / 2 + e / 2 = e by omega]
      · rename_i h2
        rw [← Nat.mul_mod, ← Nat.pow_add, Nat.mod_mul_mod, ← Nat.pow_succ, show (e / 2 + e / 2).succ = e by omega]
def noDiv (p : Nat) : Nat → Nat → Bool
  | 0, _ => false
  | f + 1, d => decide (p < d * d) || (p % d != 0 && noDiv p f (d + 1))
theorem noDiv_ok {p : Nat} : ∀ f d, noDiv p f d = true → ∀ r, d ≤ r → r ∣ p → 0 < r → p < r * r
  | 0, d, h, _, _, _, _ => by cases h
  | f + 1, d, h, r, hr, hd, h0 => by
    simp only [noDiv, Bool.or_eq_true, decide_eq_true_eq, Bool.and_eq_true, bne_iff_ne, ne_eq] at h
    rcases h with h | ⟨h1, h2⟩
    · exact Nat.lt_of_lt_of_le h (Nat.mul_le_mul hr hr)
    · rcases Nat.eq_or_lt_of_le hr with h' | h'
      · subst h'; exact absurd (Nat.mod_eq_zero_of_dvd hd) h1
      · exact noDiv_ok f (d + 1) h2 r h' hd h0
theorem small_pr {p f : Nat} (h1 : 1 < p) (h : noDiv p f 2 = true) : IsPr p := prime_of h1 fun r hr hd => noDiv_ok f 2 h r hr.1 hd (by have := hr.1; omega)
theorem pock_run {N q m b f : Nat} (hq : IsPr q) (hN : N = q * m + 1) (hm : 0 < m) (hf : q * m < 2 ^ f) (h1 : pmL N 2 f (q * m) = 1) (hb : pmL N 2 f m = b) (h2 : Nat.gcd (b + (N - 1)) N = 1) (hbig : N < (q + 1) * (q + 1)) : IsPr N :=
  pock (a := 2) hq hN hm (by rw [← pmL_eq N 2 f _ hf]; exact h1) (by rw [← pmL_eq N 2 f m (Nat.lt_of_le_of_lt (Nat.le_mul_of_pos_left m (by have := hq.1; omega)) hf)]; exact hb) h2 hbig
theorem pr_a : IsPr 531581 := small_pr (f := 800) (by decide) (by decide +kernel)
theorem pr_b : IsPr 1224481 := small_pr (f := 1200) (by decide) (by decide +kernel)
theorem pock2L {N a q m b q' m' b' : Nat} (f : Nat) (hq : IsPr q) (hq' : IsPr q') (hne : q ≠ q') (hN : N = q * m + 1) (hN' : N = q' * m' + 1) (hN1 : 1 < N) (he : q * m < 2 ^ f) (h1 : pmL N a f (q * m) = 1) (hm : m < 2 ^ f) (hb : pmL N a f m = b) (h2 : Nat.gcd (b + (N - 1)) N = 1)
    (hm' : m' < 2 ^ f) (hb' : pmL N a f m' = b') (h2' : Nat.gcd (b' + (N - 1)) N = 1) (hbig : N < (q * q' + 1) * (q * q' + 1)) : IsPr N :=
  pock2 hq hq' hne hN hN' hN1 ((pmL_eq N a f (q * m) he).symm.trans h1) ((pmL_eq N a f m hm).symm.trans hb) h2 ((pmL_eq N a f m' hm').symm.trans hb') h2' hbig
theorem pr_c : IsPr 1257559732178653 :=
  pock2L (a := 2) (m := 2365697292) (b := 1139842034583224) (m' := 1027014492) (b' := 1252739704402215) 60 pr_a pr_b (by decide) (by decide) (by decide) (by decide) (by decide) (by decide +kernel) (by decide) (by decide +kernel) (by decide +kernel) (by decide) (by decide +kernel) (by decide +kernel) (by decide)
theorem pr_d : IsPr 4434155615661930479 := pock_run (m := 3526) (b := 415787812636281767) (f := 70) pr_c (by decide) (by decide) (by decide) (by decide +kernel) (by decide +kernel) (by decide +kernel) (by decide)
theorem pr_e : IsPr 172054593956031949258510691 := pock_run (m := 38802110) (b := 81982237619807054769897707) (f := 90) pr_d (by decide) (by decide) (by decide) (by decide +kernel) (by decide +kernel) (by decide +kernel) (by decide)
theorem pr_f : IsPr 19757330305831588566944191468367130476339 := pock_run (m := 114831751082918) (b := 9148758478138211201771971577098600188172) (f := 140) pr_e (by decide) (by decide) (by decide) (by decide +kernel) (by decide +kernel) (by decide +kernel) (by decide)
theorem pr_g : IsPr 276602624281642239937218680557139826668747 := pock_run (m := 14) (b := 16384) (f := 140) pr_f (by decide) (by decide) (by decide) (by decide +kernel) (by decide +kernel) (by decide +kernel) (by decide)
/-- l is prime. -/
theorem pr_l : IsPr lN := pock_run (m := 26163907866482859529727157400808004) (b := 2975531125133123119648879457563281269120703404158613135195788908093573672641) (f := 260) pr_g (by decide) (by decide) (by decide +kernel) (by decide +kernel) (by decide +kernel) (by decide +kernel) (by decide +kernel)
#print axioms pr_l
end Go.Vc
