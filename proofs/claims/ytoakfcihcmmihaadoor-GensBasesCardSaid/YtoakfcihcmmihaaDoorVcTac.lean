/-
  Small rules for walking a tree.
-/
import Derived.Test.YtoakfcihcmmihaaDoorVcList
import Derived.Laws.Tables
namespace Go.Vc
open Go Go.RowKit

theorem mem_none {X : Ctx} {w0 : World} {ne : Nat} {env : Env} {β : Nat → Nat} (hX : X.w0 = w0) (he : (env (ne - 1)).2 = w0) : Mem X ⟨true, ne - 1, []⟩ [] [] env β w0 := by
  subst hX
  exact mem0 he (fun k b h => by simp at h) (fun g k h => by simp at h)

theorem a_if {c : Bool} {A B : Prop} (hA : c = true → A) (hB : c = false → B) : (∃ t, Value.bool c = .bool t) ∧ (Value.bool c = .bool true → A) ∧ (Value.bool c = .bool false → B) :=
  ⟨⟨c, rfl⟩, fun h => hA (by cases h; rfl), fun h => hB (by cases h; rfl)⟩
theorem a_ifD {p : Prop} [Decidable p] {A B : Prop} (hA : p → A) (hB : ¬ p → B) : (∃ t, Value.bool (decide p) = .bool t) ∧ (Value.bool (decide p) = .bool true → A) ∧ (Value.bool (decide p) = .bool false → B) :=
  a_if (fun h => hA (of_decide_eq_true h)) (fun h => hB (of_decide_eq_false h))
theorem a_ifN {p : Prop} [Decidable p] {A B : Prop} (hA : ¬ p → A) (hB : p → B) : (∃ t, Value.bool (!decide p) = .bool t) ∧ (Value.bool (!decide p) = .bool true → A) ∧ (Value.bool (!decide p) = .bool false → B) :=
  a_if (fun h => hA (by simpa using h)) (fun h => hB (by simpa using h))

section
variable {P : Program} {K : Value → Prop} {kd : IntKind}
theorem ask_ixN {m k : Nat} (h : k < m) : Ask (rIx m (.int kd (k : Int))) K = K (.int kd (k : Int)) :=
  ask_eq fun v => ⟨fun hv => hv.1, fun hv => ⟨hv, kd, k, rfl, by omega, by omega⟩⟩
theorem lb_of_lt {o k j : Nat} (h : o < B64 ^ k) (hj : k ≤ j) : lb o j = 0 := by
  unfold lb
  rw [Nat.div_eq_of_lt (Nat.lt_of_lt_of_le h (Nat.pow_le_pow_right (by decide) hj)), Nat.zero_mod]
theorem mod_lb (a k : Nat) : a % B64 ^ (k + 1) = a % B64 ^ k + B64 ^ k * lb a k := Nat.mod_pow_succ

theorem ask_selSk {n k : Nat} (h : k < 4) : Ask (rSel (aggArr (S n)) (0 + intNat (.int kd (k : Int)) * 1) 1 false) K = K (U (lb n k)) := by
  have : 0 + intNat (.int kd (k : Int)) * 1 = k := by simp [intNat]
  rw [this]
  match k, h with
  | 0, _ => exact ask_selS0
  | 1, _ => exact ask_selS1
  | 2, _ => exact ask_selS2
  | 3, _ => exact ask_selS3

theorem ask_zero4 : Ask (rAgg 4 (.agg #[U 0, U 0, U 0, U 0])) K = K (S 0) := ask_agg rfl (by simp [U, Value.oneCell'])

theorem lb_add {o t k j : Nat} (ho : o < B64 ^ k) (ht : t < B64) (hk : k < 4) (hj : j < 4) : lb (o + t * B64 ^ k) j = if j = k then t else lb o j := by
  unfold lb
  match k, hk, j, hj with
  | 0, _, 0, _ | 0, _, 1, _ | 0, _, 2, _ | 0, _, 3, _ | 1, _, 0, _ | 1, _, 1, _ | 1, _, 2, _ | 1, _, 3, _ | 2, _, 0, _ | 2, _, 1, _ | 2, _, 2, _ | 2, _, 3, _ | 3, _, 0, _ | 3, _, 1, _ | 3, _, 2, _ | 3, _, 3, _ =>
    simp only [B64] at *
    first | omega | (simp; try omega)

theorem ask_updS {o t k : Nat} (ho : o < B64 ^ k) (ht : t < B64) (h : k < 4) : Ask (rUpd (aggArr (S o)) (0 + intNat (.int kd (k : Int)) * 1) 1 (U t)) K = K (S (o + t * B64 ^ k)) := by
  have hk : 0 + intNat (.int kd (k : Int)) * 1 = k := by simp [intNat]
  rw [hk]
  have hS : S (o + t * B64 ^ k) = .agg (splice (aggArr (S o)) k [U t]) := by
    have e0 := lb_add ho ht h (j := 0) (by omega)
    have e1 := lb_add ho ht h (j := 1) (by omega)
    have e2 := lb_add ho ht h (j := 2) (by omega)
    have e3 := lb_add ho ht h (j := 3) (by omega)
    show Value.agg #[U _, U _, U _, U _] = _
    rw [e0, e1, e2, e3]
    match k, h with
    | 0, _ | 1, _ | 2, _ | 3, _ => rfl
  refine ask_eq fun v => ?_
  unfold rUpd
  rw [hS]
  constructor
  · rintro ⟨_, _, _, hv⟩; exact hv
  · intro hv; exact ⟨by show k + 1 ≤ 4; omega, rfl, by simp [U, Value.cells, Value.oneCell'], hv⟩
theorem ask_iadd {t : TypeId} {cx cy : Bool} {a b : Int} (h : IntKind.i64.wrap (a + b) = a + b) : Ask (rBin P .add t cx cy (.int .i64 a) (.int .i64 b)) K = K (.int .i64 (a + b)) := by rw [ask_add, h]
end

theorem wrap_i64 {n : Int} (h0 : -(2 ^ 63) ≤ n) (h1 : n < 2 ^ 63) : IntKind.i64.wrap n = n := by
  simp only [IntKind.wrap, IntKind.bits, IntKind.signed]
  simp
  omega
section
variable {P : Program} {K : Value → Prop} {t : TypeId} {cx cy : Bool}
/-- Counting up. -/
theorem ask_succ {k : Nat} (h : k + 1 < 2 ^ 63) : Ask (rBin P .add t cx cy (J k) (J 1)) K = K (J (k + 1)) := by
  rw [ask_add, wrap_i64 (by omega) (by omega)]; rfl
theorem ask_addN {a b : Nat} (h : a + b < 2 ^ 63) : Ask (rBin P .add t cx cy (J a) (J b)) K = K (J (a + b)) := by
  rw [ask_add, wrap_i64 (by omega) (by omega)]; rfl
theorem ask_subN {a b : Nat} (h : b ≤ a) (ha : a < 2 ^ 63) : Ask (rBin P .sub t cx cy (J a) (J b)) K = K (J (a - b)) := by
  rw [ask_sub, wrap_i64 (by omega) (by omega), ← Int.ofNat_sub h]
theorem ask_mulN {a b : Nat} (h : a * b < 2 ^ 63) : Ask (rBin P .mul t cx cy (J a) (J b)) K = K (J (a * b)) := by
  rw [ask_mul, ← Int.natCast_mul, wrap_i64 (by omega) (by omega)]
theorem ask_ushlU {a b : Nat} (hb : b < 64) : Ask (rBin P .shl t cx cy (U a) (U b)) K = K (U ((a * 2 ^ b) % B64)) := ask_ushl hb
theorem ask_ushrU {a b : Nat} (hb : b < 64) : Ask (rBin P .shr t cx cy (U a) (U b)) K = K (U (a / 2 ^ b)) := ask_ushr hb
theorem ask_umask {a m k : Nat} (ha : a < B64) (hm : m + 1 = 2 ^ k) (hk : m < B64) : Ask (rBin P .and t cx cy (U a) (U m)) K = K (U (a % 2 ^ k)) := by
  rw [ask_uand ha hk, ← Nat.and_two_pow_sub_one_eq_mod, ← hm, Nat.add_sub_cancel]
theorem or_low {a b k : Nat} (ha : a % 2 ^ k = 0) (hb : b < 2 ^ k) : a ||| b = a + b := by
  have h := Nat.two_pow_add_eq_or_of_lt hb (a / 2 ^ k)
  have e : 2 ^ k * (a / 2 ^ k) = a := by have := Nat.div_add_mod a (2 ^ k); omega
  rw [e] at h
  exact h.symm
/-- What is shifted up, and what stands below it. -/
theorem ask_uorU {a b : Nat} (k : Nat) (ha : a < B64) (h0 : a % 2 ^ k = 0) (hb : b < 2 ^ k) (hb' : b < B64) : Ask (rBin P .or t cx cy (U a) (U b)) K = K (U (a + b)) := by
  rw [ask_uor ha hb', or_low h0 hb]
theorem ask_uorD {a b : Nat} (k : Nat) (ha : a < B64) (h0 : a % 2 ^ k = 0) (hb : b < 2 ^ k) (hb' : b < B64) : Ask (rBin P .or t cx cy (U b) (U a)) K = K (U (b + a)) := by
  rw [ask_uor hb' ha, Nat.or_comm, or_low h0 hb, Nat.add_comm]
theorem ask_lssN {a b : Nat} : Ask (rBin P .lss t cx cy (.int .i64 (a : Int)) (.int .i64 (b : Int))) K = K (.bool (decide (a < b))) := by
  rw [ask_lss]; simp
theorem ask_neqN {a b : Nat} : Ask (rBin P .neq t cx cy (.int .i64 (a : Int)) (.int .i64 (b : Int))) K = K (.bool (!decide (a = b))) := by
  rw [ask_neq]; congr 2; rw [Bool.eq_iff_iff]; simp; omega
theorem ask_uneqN {a b : Nat} : Ask (rBin P .neq t cx cy (U a) (U b)) K = K (.bool (!decide (a = b))) := by
  rw [ask_uneq]; congr 2; rw [Bool.eq_iff_iff]; simp
theorem ask_extS {a c : Nat} : Ask (rExt P (.tuple #[S a, U c]) 0) K = K (S a) := ask_ext rfl
end

section
variable {X : Ctx} {P : Program} {K : Value → Prop} {KW : Value → World → Prop} {u : World} {ow : List Nat} {bl : List KB} {g : List (Value × Bool)}
theorem a_sel1 {cs : List Value} {pos : Nat} {v : Value} (h : cs[pos]? = some v) (hK : K v) : Ask (rSel (aggArr (.agg cs.toArray)) pos 1 false) K := by
  rw [ask_sel1 (v := v) (by simpa [aggArr] using h)]; exact hK
theorem a_selL {cs ds : List Value} {pos m : Nat} (h : (cs.drop pos).take m = ds) (hm : pos + m ≤ cs.length) (hK : K (.agg ds.toArray)) : Ask (rSel (aggArr (.agg cs.toArray)) pos m true) K := by
  have : Ask (rSel (aggArr (.agg cs.toArray)) pos m true) K = K (.agg ds.toArray) := ask_eq fun v => by
    unfold rSel
    have e : (aggArr (.agg cs.toArray)).extract pos (pos + m) = ds.toArray := by
      apply Array.ext'
      simp only [aggArr, Array.toList_extract, List.extract_eq_take_drop, Nat.add_sub_cancel_left, h]
    rw [e]
    exact ⟨fun h => h.2, fun h => ⟨by simpa [aggArr] using hm, h⟩⟩
  rw [this]; exact hK
theorem a_plain {x : Value} (h : x.oneCell' = true) (hK : K x) : Ask (rPlain x) K := by rw [ask_plain h]; exact hK
theorem a_agg {n : Nat} {cs : List Value} (h1 : cs.length = n) (h2 : cs.all (·.oneCell') = true) (hK : K (.agg cs.toArray)) : Ask (rAgg n (.agg cs.toArray)) K := by
  rw [ask_agg (by simpa using h1) (by simpa using h2)]; exact hK
theorem a_bld {t : TypeId} {parts : Array (Nat × Value)} (cells : Array Value) (hP : X.P = P) (h : P.built t parts.toList = some cells) (hK : K (.agg cells)) : Ask (rBld X.P t parts) K := by
  subst hP
  have e : Ask (rBld X.P t parts) K = K (.agg cells) := ask_eq (runs_iff fun w => run_build w t parts cells h)
  rw [e]; exact hK
theorem condsV1 {a : Bool} : condsV [(.bool a, a)] := fun x hx => by simp only [List.mem_singleton] at hx; rw [hx]
theorem condsV1_not {a b : Bool} (h : a ≠ b) : ¬ condsV [(.bool a, b)] := fun hc => h (by have := hc (.bool a, b) (by simp); simpa using this)
theorem a_GW_on {md : Bool} {f : Nat} {args : List Value} (h : condsV g) (hA : AskW X u ow bl md f args KW) : AskGW X g u ow bl md f args KW := ⟨fun _ => hA.1, fun v hv => hA.2 v (hv.1 h)⟩
theorem a_GW_off {md : Bool} {f : Nat} {args : List Value} (h : ¬ condsV g) (hK : ∀ v, KW v u) : AskGW X g u ow bl md f args KW := ⟨fun hc => absurd hc h, fun v hv => by rw [hv.2 h]; exact hK v.1⟩
theorem a_GF_on {f : Nat} {args : List Value} (h : condsV g) (hA : AskF X f args K) : AskGF X g f args K := ⟨fun _ => hA.1, fun v hv => hA.2 v (hv.1 h)⟩
theorem a_GF_off {f : Nat} {args : List Value} (h : ¬ condsV g) (hK : ∀ v, K v) : AskGF X g f args K := ⟨fun hc => absurd hc h, fun v _ => hK v.1⟩
theorem a_G_on {R : Value → Prop} (h : condsV g) (hA : Ask R K) : AskG g R K := ⟨fun _ => hA.1, fun v hv => hA.2 v (hv.1 h)⟩
theorem a_G_off {R : Value → Prop} (h : ¬ condsV g) (hK : ∀ v, K v) : AskG g R K := ⟨fun hc => absurd hc h, fun v _ => hK v.1⟩
theorem ask_pickT {a b : Value} : Ask (rPick (.bool true) a b) K = K a := ask_eq fun v => ⟨fun h => h.1 rfl, fun h => ⟨fun _ => h, fun h' => by (cases h'), true, rfl⟩⟩
theorem ask_pickF {a b : Value} : Ask (rPick (.bool false) a b) K = K b := ask_eq fun v => ⟨fun h => h.2.1 rfl, fun h => ⟨fun h' => by (cases h'), fun _ => h, false, rfl⟩⟩
end

theorem slAt_one {w : World} {v : Value} {n : Nat} {xs : List Value} (h : SlAt w v n xs) : v.oneCell' = true := by
  rcases h with ⟨rfl, _⟩ | ⟨b, o, cap, rfl, _⟩ <;> rfl
theorem own_one {w : World} {base size n : Nat} {e : TypeId} {v : Value} {xs : List Value} (h : w.ownsRow base e size v n xs) : v.oneCell' = true := slAt_one (own_slAt h)
theorem LLs1 {α : Type} {c : Cod α} {w : World} {v x : Value} {a : α} (h : SlAt w v 1 [x]) (hx : c.rd w x a) : (cLL c).rd w v [a] :=
  ⟨[x], h, rfl, fun i y b hy hb => by
    match i with
    | 0 => simp at hy hb; subst hy; subst hb; exact hx
    | i + 1 => simp at hy⟩
theorem LLs2 {α : Type} {c : Cod α} {w : World} {v x y : Value} {a b : α} (h : SlAt w v 2 [x, y]) (hx : c.rd w x a) (hy : c.rd w y b) : (cLL c).rd w v [a, b] :=
  ⟨[x, y], h, rfl, fun i z q hz hq => by
    match i with
    | 0 => simp at hz hq; subst hz; subst hq; exact hx
    | 1 => simp at hz hq; subst hz; subst hq; exact hy
    | i + 2 => simp at hz⟩

/-- A variable was there before the list. -/
theorem KnownV.low {X : Ctx} {u w : World} {ow : List Nat} {bl : List KB} (h : KnownV X u ow bl w) {b : Nat} (hb : b ∈ bl.map (·.b)) : b < w.heap.size := by
  obtain ⟨kb, hkb, rfl⟩ := List.mem_map.1 hb
  exact (h.blk kb hkb).2.1
theorem off_own {w : World} {base size n : Nat} {e : TypeId} {v : Value} {xs : List Value} (o : w.ownsRow base e size v n xs) {ex : List Nat} (h : ∀ b ∈ ex, b < base) : ∀ g, v.ownBlock = some g → g ∉ ex :=
  fun g hg hm => by have := (o.lt g hg).1; have := h g hm; omega
theorem own_at {u w : World} {base size n : Nat} {e : TypeId} {v : Value} {xs : List Value} (o : u.ownsRow base e size v n xs) {ex : List Nat} (h : ∀ b ∈ ex, b < base) (hs : Stp ex u w) : SlAt w v n xs := (own_slAt o).stp hs (off_own o h)
theorem all1 {p : Nat → Prop} {b : Nat} (h : p b) : ∀ x ∈ [b], p x := fun x hx => by simp only [List.mem_singleton] at hx; rw [hx]; exact h

section
variable {P : Program} {K : Value → Prop}
theorem ask_minN {ty a b : Nat} {at_ : Array TypeId} {l : List (Nat × Value)} {x y : Nat} (hx : argsFn l (.tmp a) = J x) (hy : argsFn l (.tmp b) = J y) : Ask (rGen P (.call { callee := .builtin .min, args := #[.tmp a, .tmp b], argTypes := at_ }) ty l) K = K (J (min x y)) :=
  ask_eq (runsN_iff fun w => by
    have : (if y < x then (y : Int) else (x : Int)) = ((min x y : Nat) : Int) := by
      rw [Nat.min_def]; split <;> split <;> omega
    simp only [execOp, resolve, invoke, builtin, Sem.run_bind, Sem.run_pure, Result.andThen_ok, List.map_toArray, List.map_cons, List.map_nil, hx, hy]
    simp [Builtin.min_, Builtin.min2, this])
end

/-- What is newer than u is no change behind u. -/
theorem Stp.drop {ex : List Nat} {u w : World} (h : Stp ex u w) (hb : ∀ b ∈ ex, u.heap.size ≤ b) : Stp [] u w :=
  ⟨h.size, fun b hlt _ => h.past b hlt fun hm => by have := hb b hm; omega⟩
theorem off_new {u : World} {v : Value} {ex : List Nat} (hb : ∀ b ∈ ex, u.heap.size ≤ b) : ∀ b, v.ownBlock = some b → b < u.heap.size → b ∉ ex := fun b _ h h2 => by
  have := hb b h2; omega
theorem all2 {p : Nat → Prop} {a b : Nat} (h : p a) (k : p b) : ∀ x ∈ [a, b], p x := fun x hx => by
  simp only [List.mem_cons, List.not_mem_nil, or_false] at hx; rcases hx with rfl | rfl <;> assumption
theorem all3 {p : Nat → Prop} {a b c : Nat} (h : p a) (k : p b) (m : p c) : ∀ x ∈ [a, b, c], p x := fun x hx => by
  simp only [List.mem_cons, List.not_mem_nil, or_false] at hx; rcases hx with rfl | rfl | rfl <;> assumption

section
variable {X : Ctx} {K : Value → Prop} {KW : Value → World → Prop} {u : World} {ow : List Nat} {bl : List KB} {g : List (Value × Bool)}
/-- A guarded node, both ways at once. -/
theorem a_G_cases {R : Value → Prop} (Q : Value → Prop) (hon : condsV g → Ask R Q) (hoff : ¬ condsV g → ∀ v, Q v) (hK : ∀ v, Q v → K v) : AskG g R K :=
  ⟨fun hc => (hon hc).1, fun v hv => hK v.1 (by
    by_cases hc : condsV g
    · exact (hon hc).2 v (hv.1 hc)
    · exact hoff hc v.1)⟩
theorem a_GW_cases {md : Bool} {f : Nat} {args : List Value} (Q : Value → World → Prop) (hon : condsV g → AskW X u ow bl md f args Q) (hoff : ¬ condsV g → ∀ v, Q v u) (hK : ∀ v w, Q v w → KW v w) : AskGW X g u ow bl md f args KW :=
  ⟨fun hc => (hon hc).1, fun v hv => hK v.1 v.2 (by
    by_cases hc : condsV g
    · exact (hon hc).2 v (hv.1 hc)
    · rw [hv.2 hc]; exact hoff hc v.1)⟩
theorem a_pickB {c : Bool} {a b e : Value} (hT : c = true → a = e) (hF : c = false → b = e) (hK : K e) : Ask (rPick (.bool c) a b) K := by
  cases c
  · rw [ask_pickF, hF rfl]; exact hK
  · rw [ask_pickT, hT rfl]; exact hK
end
end Go.Vc
