/-
  Small rules for walking a tree.
-/
import Derived.Test.YtadnlcennghlbaaVcList
import Derived.Laws.Tables
namespace Go.Vc
open Go Go.RowKit
theorem mem_none {X : Ctx} {w0 : World} {ne : Nat} {env : Env} {β : Nat → Nat} (hX : X.w0 = w0) (he : (env (ne - 1)).2 = w0) : Mem X ⟨true, ne - 1, []⟩ [] [] env β w0 := by
  subst hX
  exact mem0 he (fun k b h => by simp at h) (fun g k h => by simp at h)
theorem a_if {c : Bool} {A B : Prop} (hA : c = true → A) (hB : c = false → B) : (∃ t, Value.bool c = .bool t) ∧ (Value.bool c = .bool true → A) ∧ (Value.bool c = .bool false → B) :=
  ⟨⟨c, rfl⟩, fun h => hA (by cases h; rfl), fun h => hB (by cases h; rfl)⟩
theorem a_ifD {p : Prop} [Decidable p] {A B : Prop} (hA : p → A) (hB : ¬ p → B) : (∃ t, Value.bool (decide p) = .bool t) ∧ (Value.bool (decide p) = .bool true → A) ∧ (Value.bool (decide p) = .bool false → B) :=
  a_if (fun h => hA (of_decide_eq_true h)) (fun h => hB (of_decide_eq_false h))
section
variable {P : Program} {K : Value → Prop} {kd : IntKind}
end
theorem wrap_i64 {n : Int} (h0 : -(2 ^ 63) ≤ n) (h1 : n < 2 ^ 63) : IntKind.i64.wrap n = n := by
  simp only [IntKind.wrap, IntKind.bits, IntKind.signed]
  simp
  omega
section
variable {P : Program} {K : Value → Prop} {t : TypeId} {cx cy : Bool}
/-- Counting up. -/
theorem ask_succ {k : Nat} (h : k + 1 < 2 ^ 63) : Ask (rBin P .add t cx cy (J k) (J 1)) K = K (J (k + 1)) := by
  rw [ask_add, wrap_i64 (by omega) (by omega)]; rfl
theorem ask_addN {a b : Nat} (h : a + b < 2 ^ 63) : Ask (rBin P .add t cx cy (J a) (J b)) K = K (J (a + b)) := by
  rw [ask_add, wrap_i64 (by omega) (by omega)]; rfl
theorem ask_subN {a b : Nat} (h : b ≤ a) (ha : a < 2 ^ 63) : Ask (rBin P .sub t cx cy (J a) (J b)) K = K (J (a - b)) := by
  rw [ask_sub, wrap_i64 (by omega) (by omega), ← Int.ofNat_sub h]
theorem ask_lssN {a b : Nat} : Ask (rBin P .lss t cx cy (.int .i64 (a : Int)) (.int .i64 (b : Int))) K = K (.bool (decide (a < b))) := by
  rw [ask_lss]; simp
theorem ask_neqN {a b : Nat} : Ask (rBin P .neq t cx cy (.int .i64 (a : Int)) (.int .i64 (b : Int))) K = K (.bool (!decide (a = b))) := by
  rw [ask_neq]; congr 2; rw [Bool.eq_iff_iff]; simp; omega
end
section
variable {X : Ctx} {P : Program} {K : Value → Prop} {KW : Value → World → Prop} {u : World} {ow : List Nat} {bl : List KB} {g : List (Value × Bool)}
theorem a_sel1 {cs : List Value} {pos : Nat} {v : Value} (h : cs[pos]? = some v) (hK : K v) : Ask (rSel (aggArr (.agg cs.toArray)) pos 1 false) K := by
  rw [ask_sel1 (v := v) (by simpa [aggArr] using h)]; exact hK
theorem a_plain {x : Value} (h : x.oneCell' = true) (hK : K x) : Ask (rPlain x) K := by rw [ask_plain h]; exact hK
theorem a_agg {n : Nat} {cs : List Value} (h1 : cs.length = n) (h2 : cs.all (·.oneCell') = true) (hK : K (.agg cs.toArray)) : Ask (rAgg n (.agg cs.toArray)) K := by
  rw [ask_agg (by simpa using h1) (by simpa using h2)]; exact hK
theorem condsV1 {a : Bool} : condsV [(.bool a, a)] := fun x hx => by simp only [List.mem_singleton] at hx; rw [hx]
theorem condsV1_not {a b : Bool} (h : a ≠ b) : ¬ condsV [(.bool a, b)] := fun hc => h (by have := hc (.bool a, b) (by simp); simpa using this)
theorem a_GF_on {f : Nat} {args : List Value} (h : condsV g) (hA : AskF X f args K) : AskGF X g f args K := ⟨fun _ => hA.1, fun v hv => hA.2 v (hv.1 h)⟩
theorem a_GF_off {f : Nat} {args : List Value} (h : ¬ condsV g) (hK : ∀ v, K v) : AskGF X g f args K := ⟨fun hc => absurd hc h, fun v _ => hK v.1⟩
theorem a_G_on {R : Value → Prop} (h : condsV g) (hA : Ask R K) : AskG g R K := ⟨fun _ => hA.1, fun v hv => hA.2 v (hv.1 h)⟩
theorem a_G_off {R : Value → Prop} (h : ¬ condsV g) (hK : ∀ v, K v) : AskG g R K := ⟨fun hc => absurd hc h, fun v _ => hK v.1⟩
theorem ask_pickT {a b : Value} : Ask (rPick (.bool true) a b) K = K a := ask_eq fun v => ⟨fun h => h.1 rfl, fun h => ⟨fun _ => h, fun h' => by (cases h'), true, rfl⟩⟩
theorem ask_pickF {a b : Value} : Ask (rPick (.bool false) a b) K = K b := ask_eq fun v => ⟨fun h => h.2.1 rfl, fun h => ⟨fun h' => by (cases h'), fun _ => h, false, rfl⟩⟩
end
theorem slAt_one {w : World} {v : Value} {n : Nat} {xs : List Value} (h : SlAt w v n xs) : v.oneCell' = true := by
  rcases h with ⟨rfl, _⟩ | ⟨b, o, cap, rfl, _⟩ <;> rfl
theorem own_one {w : World} {base size n : Nat} {e : TypeId} {v : Value} {xs : List Value} (h : w.ownsRow base e size v n xs) : v.oneCell' = true := slAt_one (own_slAt h)
/-- A variable was there before the list. -/
theorem KnownV.low {X : Ctx} {u w : World} {ow : List Nat} {bl : List KB} (h : KnownV X u ow bl w) {b : Nat} (hb : b ∈ bl.map (·.b)) : b < w.heap.size := by
  obtain ⟨kb, hkb, rfl⟩ := List.mem_map.1 hb
  exact (h.blk kb hkb).2.1
theorem all1 {p : Nat → Prop} {b : Nat} (h : p b) : ∀ x ∈ [b], p x := fun x hx => by simp only [List.mem_singleton] at hx; rw [hx]; exact h
section
variable {P : Program} {K : Value → Prop}
end
/-- What is newer than u is no change behind u. -/
theorem Stp.drop {ex : List Nat} {u w : World} (h : Stp ex u w) (hb : ∀ b ∈ ex, u.heap.size ≤ b) : Stp [] u w :=
  ⟨h.size, fun b hlt _ => h.past b hlt fun hm => by have := hb b hm; omega⟩
section
variable {X : Ctx} {K : Value → Prop} {KW : Value → World → Prop} {u : World} {ow : List Nat} {bl : List KB} {g : List (Value × Bool)}
end
end Go.Vc
