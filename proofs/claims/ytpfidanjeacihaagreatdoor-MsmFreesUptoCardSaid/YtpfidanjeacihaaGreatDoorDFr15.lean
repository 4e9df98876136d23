/-
  MsmFrees: what its walk stands on besides.
-/
import Derived.Test.YtpfidanjeacihaaGreatDoorDFr14
namespace Go.Vc
open Go Go.Proofs Go.RowKit

theorem aggFr : agg? Tryz.prog 30 = some true := by kernel_rfl
theorem szFr : sz Tryz.prog 30 = some 1 := by kernel_rfl
theorem tyFs : ElTy Tryz.prog 46 30 1 24 (.agg #[.slice none 0 0]) := ⟨by kernel_rfl, by kernel_rfl⟩
theorem ask_neqBoolF {K : Value → Prop} {cx cy a b : Bool} : Ask (rBin Tryz.prog .neq 4 cx cy (.bool a) (.bool b)) K = K (.bool (a != b)) :=
  ask_eq (runs_iff fun w => by cases cx <;> cases cy <;> cases a <;> cases b <;> kernel_rfl)
theorem run_items_sameF {P : Program} {e : TypeId} {k' : IntKind} (hu : P.underlying e = some (.int k')) {xs : Array Value} (w : World) : ∀ ks : List Nat, (∀ k ∈ ks, ∃ x : Int, xs[k]? = some (.int k' x)) → (Op.eqItems 9999 e 1 xs xs ks).run P w = .ok true w
  | [], _ => by simp [Op.eqItems]
  | k :: ks, h => by
    obtain ⟨x, hx⟩ := h k (by simp)
    have he : (Op.equalIn 9999 e (.int k' x) (.int k' x)).run P w = .ok (x == x) w := run_equalIn_int w 9998 e k' k' x x hu
    have ih := run_items_sameF hu w ks fun k hk => h k (by simp [hk])
    simp only [Op.eqItems, Sem.run_bind, Nat.mul_one, run_part_u hu xs k _ hx, Result.andThen_ok, he, beq_self_eq_true]
    exact ih
theorem run_equalH (l : List Nat) (hl : l.length = 32) (w : World) : (Op.equal 27 (.agg (l.map B).toArray) (.agg (l.map B).toArray)).run Tryz.prog w = .ok true w := by
  have hz : (Tryz.prog.info? 5).map (·.size) = some 1 := by kernel_rfl
  obtain ⟨i, hi, hs⟩ : ∃ i, Tryz.prog.info? 5 = some i ∧ i.size = 1 := by
    cases hi : Tryz.prog.info? 5 with
    | none => rw [hi] at hz; cases hz
    | some i => rw [hi] at hz; exact ⟨i, rfl, by simpa using hz⟩
  have hc : Tryz.prog.cellsOf 5 = 1 := by simp [Program.cellsOf, hi, hs]
  show (Op.equalIn (9999 + 1) 27 _ _).run Tryz.prog w = _
  rw [run_equalIn_array w 9999 _ _ Tryz.underlying27 hi, hc]
  refine run_items_sameF Tryz.underlying5 w _ fun k hk => ?_
  have hk : k < 32 := by simpa using hk
  refine ⟨(l[k]'(by omega) : Int), ?_⟩
  simp [hl, hk, B]
theorem ask_neqH {K : Value → Prop} {m : List Nat} {cx cy : Bool} (hl : (sha m).length = 64) : Ask (rBin Tryz.prog .neq 27 cx cy (half m) (half m)) K = K (.bool false) :=
  ask_eq (runs_iff fun w => by
    have h := run_equalH ((sha m).take 32) (by rw [List.length_take, hl]; rfl) w
    have hg : Tryz.prog.eqGuardType Tryz.prog.depth 27 = false := by kernel_rfl
    unfold half
    generalize ((sha m).take 32).map B = l at h ⊢
    simp [binSem, eqGuard, binOp, hg, h])
theorem mk_stpN {u w : World} {v : Value} {l ex : List Nat} (h : cMk.rd u v l) (hs : Stp ex u w) (hb : ∀ b ∈ ex, u.heap.size ≤ b) : cMk.rd w v l := by
  obtain ⟨g, cap, rfl, hl, hok⟩ := h
  exact ⟨g, cap, rfl, slAt_stpN hl hs hb, hok⟩
theorem mem_trim {l : List Nat} {x : Nat} (h : x ∈ trim l) : x ∈ l := by rw [← trim_pre] at h; exact List.mem_of_mem_take h
theorem addE_lt (a b : List Nat) : ∀ x ∈ addE a b, x < lN := addR_lt _ _ _
theorem addE_len (a b : List Nat) {n : Nat} (ha : a.length ≤ n) (hb : b.length ≤ n) : (addE a b).length ≤ n := by
  unfold addE
  rw [addR_len]
  split <;> assumption
theorem all4 {p : Nat → Prop} (h0 : p 0) (h1 : p 1) (h2 : p 2) (h3 : p 3) : ∀ j, j < 4 → p j := fun j hj => by
  match j, hj with
  | 0, _ => exact h0
  | 1, _ => exact h1
  | 2, _ => exact h2
  | 3, _ => exact h3
/-- What the document answers, by turns. -/
def wantL (la lb : List Nat) (k : Nat) (j : Nat) : List Nat := [trim (addE (trim (modL la)) (trim (modL lb))), trim (mulL (subL 0 1) (trim (modL la))), trim (addE (trim (modL la)) (trim (modL la))), trim (mulL (k % lN) (trim (modL la)))].getD j []
theorem wantL_lt (la lb : List Nat) (k : Nat) : ∀ j, j < 4 → ∀ x ∈ wantL la lb k j, x < lN :=
  all4 (fun x h => addE_lt _ _ x (mem_trim h)) (fun x h => mulL_lt _ _ x (mem_trim h)) (fun x h => addE_lt _ _ x (mem_trim h)) (fun x h => mulL_lt _ _ x (mem_trim h))
theorem wantL_len (la lb : List Nat) (k : Nat) {n : Nat} (ha : la.length ≤ n) (hb : lb.length ≤ n) : ∀ j, j < 4 → (wantL la lb k j).length ≤ n := by
  have hA : (trim (modL la)).length ≤ n := Nat.le_trans (trim_len _) (by simpa [modL] using ha)
  have hB : (trim (modL lb)).length ≤ n := Nat.le_trans (trim_len _) (by simpa [modL] using hb)
  exact all4 (Nat.le_trans (trim_len _) (addE_len _ _ hA hB)) (Nat.le_trans (trim_len _) (by simpa [mulL] using hA)) (Nat.le_trans (trim_len _) (addE_len _ _ hA hA)) (Nat.le_trans (trim_len _) (by simpa [mulL] using hA))
def toldL (la lb : List Nat) (k : Nat) (j : Nat) : List Nat := wantL la lb k (j % 4)
theorem told_add (la lb : List Nat) (k : Nat) : trim (addF la lb) = wantL la lb k 0 := law_add la lb
theorem told_neg (la lb : List Nat) (k : Nat) : trim (la.map Fk.neg.op) = wantL la lb k 1 := law_neg la
theorem told_dbl (la lb : List Nat) (k : Nat) : trim (la.map Fk.dbl.op) = wantL la lb k 2 := law_dbl la
theorem told_tim (la lb : List Nat) (k : Nat) : trim (la.map (Fk.mul k).op) = wantL la lb k 3 := law_times la k
theorem encF_half (l : List Nat) : half (encF (trim (l.map Fk.least.op))) = half (encF (trim (modL l))) := rfl
/-- What a row of one's own needs, behind another. -/
theorem apart_of {B : Nat → Nat} {Y : Nat → Value} (hi : ∀ j, j < 8 → ∀ g, (Y j).ownBlock = some g → B j ≤ g ∧ g < B (j + 1)) (hB : ∀ j, j < 8 → B j ≤ B (j + 1)) : Apart Y := fun i j g hi' hj' h1 h2 => by
  have mono : ∀ d i, i + d ≤ 8 → B i ≤ B (i + d) := fun d => by
    induction d with
    | zero => intro i _; exact Nat.le_refl _
    | succ d ih => intro i h; exact Nat.le_trans (ih i (by omega)) (hB (i + d) (by omega))
  have a := hi i hi' g h1
  have b := hi j hj' g h2
  rcases Nat.lt_trichotomy i j with h | h | h
  · have := mono (j - (i + 1)) (i + 1) (by omega)
    rw [show i + 1 + (j - (i + 1)) = j by omega] at this
    omega
  · exact h
  · have := mono (i - (j + 1)) (j + 1) (by omega)
    rw [show j + 1 + (i - (j + 1)) = i by omega] at this
    omega
section
variable {X : Ctx} {K : Value → Prop}
theorem a_neqBoolF {cx cy a b : Bool} (hP : X.P = Tryz.prog) (hK : K (.bool (a != b))) : Ask (rBin X.P .neq 4 cx cy (.bool a) (.bool b)) K := by rw [hP, ask_neqBoolF]; exact hK
theorem a_neqHF {m : List Nat} {cx cy : Bool} (hP : X.P = Tryz.prog) (hK : K (.bool false)) : Ask (rBin X.P .neq 27 cx cy (half m) (half m)) K := by rw [hP, ask_neqH (sha_len _)]; exact hK
theorem a_j2uF {n : Nat} (hP : X.P = Tryz.prog) (h : n < B64) (hK : K (U n)) : Ask (rConv X.P 3 23 (J n)) K := by rw [hP, ask_j2u h]; exact hK
theorem a_sel8v {f : Nat → Value} {i : Nat} {v : Value} (hi : i < 8) (hv : f i = v) (hK : K v) : Ask (rSel (aggArr (.agg (arr8 f).toArray)) (0 + intNat (J i) * 1) 1 false) K := a_sel8 hi (hv ▸ hK)
theorem a_ix8 {i : Nat} (hi : i < 8) (hK : K (J i)) : Ask (rIx 8 (J i)) K := by rw [ask_ixN hi]; exact hK
theorem condsV2 {a b : Bool} : condsV [(.bool a, a), (.bool b, b)] := fun x hx => by
  simp only [List.mem_cons, List.not_mem_nil, or_false] at hx
  rcases hx with rfl | rfl <;> rfl
theorem condsV2_not {a b c : Bool} (h : b ≠ c) : ¬ condsV [(.bool a, a), (.bool b, c)] := fun hc => h (by have := hc (.bool b, c) (by simp); simpa using this)
end
theorem fdFree : FdTy Tryz.prog 30 0 0 := ⟨0, by kernel_rfl⟩
theorem aggLS : agg? Tryz.prog 22 = some false := by kernel_rfl
theorem ok100 : ∀ i, i < 8 → (100 + i) < W256 := all8 (by decide) (by decide) (by decide) (by decide) (by decide) (by decide) (by decide) (by decide)
theorem set_step {c m : Nat} {l : List Nat} (h : m < l.length) : (List.replicate m c ++ l.drop m).set m c = List.replicate (m + 1) c ++ l.drop (m + 1) := by
  rw [List.set_append, List.length_replicate, if_neg (Nat.lt_irrefl m), Nat.sub_self, List.drop_eq_getElem_cons h, List.set_cons_zero, List.replicate_succ']
  simp
/-- The lists while they are written over. -/
def overL (t : Nat → List Nat) (i m : Nat) (j : Nat) : List Nat := if j < i then List.replicate (t j).length (100 + j) else if j = i then List.replicate m (100 + j) ++ (t j).drop m else t j
theorem overL_len (t : Nat → List Nat) (i m j : Nat) (h : m ≤ (t i).length) : (overL t i m j).length = (t j).length := by
  unfold overL
  split
  · simp
  · split
    · rename_i e; subst e; simp; omega
    · rfl
theorem overL_zero (t : Nat → List Nat) (j : Nat) : overL t 0 0 j = t j := by
  unfold overL
  rw [if_neg (Nat.not_lt_zero _)]
  split <;> simp
theorem overL_next (t : Nat → List Nat) (i j : Nat) : overL t i (t i).length j = overL t (i + 1) 0 j := by
  unfold overL
  by_cases h : j < i
  · rw [if_pos h, if_pos (by omega)]
  · by_cases h2 : j = i
    · subst h2; rw [if_neg h, if_pos rfl, if_pos (by omega), List.drop_length, List.append_nil]
    · rw [if_neg h, if_neg h2, if_neg (by omega)]
      split <;> simp
theorem overL_set (t : Nat → List Nat) (i m j : Nat) (h : m < (t i).length) : (if j = i then (overL t i m i).set m (100 + i) else overL t i m j) = overL t i (m + 1) j := by
  unfold overL
  by_cases h2 : j = i
  · subst h2
    simp only [Nat.lt_irrefl, if_false, if_true]
    exact set_step h
  · simp only [h2, if_false]
theorem Ph1.stpX {u w w' : World} {Y : Nat → Value} {l : Nat → List Nat} {ex : List Nat} (h : Ph1 u w Y l) (hs : Stp ex w w') (hu : ∀ b ∈ ex, u.heap.size ≤ b) (hy : ∀ j, j < 8 → ∀ g, (Y j).ownBlock = some g → g ∉ ex) : Ph1 u w' Y l :=
  ⟨(h.low.trans hs).drop (by simpa using hu), fun j hj => own_stp (h.row j hj) hs (hy j hj)⟩
theorem Ph2.stpX {u w w' : World} {nb : List Nat} {Y V : Nat → Value} {n m c : Nat → Nat} {ex : List Nat} (h : Ph2 u w nb Y V n m c) (hs : Stp ex w w') (hu : ∀ b ∈ ex, u.heap.size ≤ b) (hn : ∀ b ∈ ex, b ∈ nb) (hy : ∀ j, j < 8 → ∀ g, (Y j).ownBlock = some g → g ∉ ex) : Ph2 u w' nb Y V n m c :=
  ⟨(h.low.trans hs).drop (by simpa using hu), fun j hj => own_stp (h.row j hj) hs fun b hb hm => h.off j hj b hb (hn b hm), fun j hj => (h.old j hj).stp hs (hy j hj), h.le, h.frm, fun j hj g hg => Nat.lt_of_lt_of_le (h.ylt j hj g hg) hs.size, h.apV, h.apY, h.off⟩
/-- How many each list has when q have come to list i. -/
def moreN (n : Nat → Nat) (i q : Nat) (j : Nat) : Nat := n j + if j < i then 40 else if j = i then q else 0
theorem moreN_zero (n : Nat → Nat) : moreN n 0 0 = n := by
  funext j
  unfold moreN
  rw [if_neg (Nat.not_lt_zero _)]
  split <;> rfl
theorem moreN_next (n : Nat → Nat) (i : Nat) : moreN n i 40 = moreN n (i + 1) 0 := by
  funext j
  unfold moreN
  by_cases h : j < i
  · rw [if_pos h, if_pos (by omega)]
  · by_cases h2 : j = i
    · subst h2; rw [if_neg h, if_pos rfl, if_pos (by omega)]
    · rw [if_neg h, if_neg h2, if_neg (by omega)]
      split <;> rfl
theorem moreN_step (n : Nat → Nat) (i q : Nat) : (fun j => if j = i then moreN n i q i + 1 else moreN n i q j) = moreN n i (q + 1) := by
  funext j
  unfold moreN
  by_cases h2 : j = i
  · subst h2; simp only [if_true, Nat.lt_irrefl, if_false]; omega
  · simp only [h2, if_false]
end Go.Vc
