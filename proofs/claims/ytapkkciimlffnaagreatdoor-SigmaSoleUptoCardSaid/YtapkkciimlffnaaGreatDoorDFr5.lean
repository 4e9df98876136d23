/-
  Lists over the document's scalars: place, E.Times, E.Neg, E.Add, E.Double, of the kind Lists.
-/
import Derived.Test.YtapkkciimlffnaaGreatDoorDFr4
import Derived.Test.YtapkkciimlffnaaGreatDoorDRm2
namespace Go.Vc
open Go Go.Proofs Go.RowKit

theorem EL_inj {x y : Value} (h : EL x = EL y) : x = y := by
  unfold EL at h
  simpa [encEL] using h
def Tre (lo : Nat) (w : World) (v : Value) (l : List Nat) : Prop := ∃ x, v = EL x ∧ w.ownsRow lo 289 4 x (trim l).length ((trim l).flatMap encS)
def cEl : Cods (List Nat) := ⟨fun w l a => ∃ x, l = [EL x] ∧ cLS.rd w x a, fun w l a a' ⟨x, e, h⟩ ⟨x', e', h'⟩ => by
  rw [e] at e'
  simp only [List.cons.injEq, and_true] at e'
  obtain rfl := EL_inj e'
  exact cLS.inj _ _ _ _ h h'⟩
def cElS : Cods (List Nat × Nat) := ⟨fun w l p => ∃ x, l = [EL x, S p.2] ∧ cLS.rd w x p.1 ∧ okS p.2, fun w l ⟨a, k⟩ ⟨a', k'⟩ ⟨x, e, h, o⟩ ⟨x', e', h', o'⟩ => by
  dsimp only at e h o e' h' o'
  rw [e] at e'
  simp only [List.cons.injEq, and_true] at e'
  obtain rfl := EL_inj e'.1
  rw [cLS.inj _ _ _ _ h h', S_inj o o' e'.2]⟩
def cEl2 : Cods (List Nat × List Nat) := ⟨fun w l p => ∃ x y, l = [EL x, EL y] ∧ cLS.rd w x p.1 ∧ cLS.rd w y p.2, fun w l ⟨a, b⟩ ⟨a', b'⟩ ⟨x, y, e, h, k⟩ ⟨x', y', e', h', k'⟩ => by
  dsimp only at e h k e' h' k'
  rw [e] at e'
  simp only [List.cons.injEq, and_true] at e'
  obtain rfl := EL_inj e'.1
  obtain rfl := EL_inj e'.2
  rw [cLS.inj _ _ _ _ h h', cLS.inj _ _ _ _ k k']⟩

/-! ### place -/
def cPlR : Cods (List Nat × Nat) := ⟨fun w l p => ∃ x, l = [x, J p.2] ∧ cLS.rd w x p.1, fun w l ⟨a, k⟩ ⟨a', k'⟩ ⟨x, e, h⟩ ⟨x', e', h'⟩ => by
  dsimp only at e h e' h'
  rw [e] at e'
  simp only [List.cons.injEq, and_true] at e'
  obtain rfl := e'.1
  rw [cLS.inj _ _ _ _ h h', J_inj e'.2]⟩
def cPlace : Contract := fnW cPlR (fun _ _ => True) (fun p _ v _ => v = S (p.1.getD p.2 0))
/-- An append of whole values to a list whose block is not among what is known of the call's cells. -/
theorem a_pushB {X : Ctx} {u : World} {bl bl' : List KB} {KW : Value → World → Prop} {P : Program} {t e ty ty' size bytes : Nat} {a b k : Nat} {z : Value} {base n : Nat} {v : Value} {xs : List Value} {parts : Array (Nat × Operand)} {args : List (Nat × Value)} (cells : Array Value)
    (hX : Std X) (hP : X.P = P) (hT : ElTy P t e size bytes z) (hab : (a == b) = false) (hzs : z.cells.size = size) (hsz : 0 < size)
    (hsmall : ¬ k * size > 2 ^ 24) (hpos : ¬ k * size = 0)
    (hf : Instr.fill (fun i => some (i * size, size)) ((Array.range (k * size)).map (z.cells[· % z.cells.size]!)) (parts.map fun (i, x) => (i, argsFn args x)).toList = some cells)
    (hcs : cells.size = k * size) (hone : cells.all (·.oneCell') = true) (hlow : ∀ g, v.ownBlock = some g → g ∉ bl'.map (·.b))
    (hb0 : X.w0.heap.size ≤ base) (hbase : base ≤ u.heap.size) (hown : u.ownsRow base e size v n xs)
    (h63 : n + k ≤ maxLen) (hbytes : (n + k) * bytes ≤ 140737488355328)
    (hK : ∀ v' w', Kn X w' → Stp v.ownBlock.toList u w' → w'.ownsRow base e size v' (n + k) (xs ++ cells.toList) → KW v' w') :
    AskO X u [] bl false (.buildSlice t k parts) ty args fun x w => AskO X w [] bl' true (appOp (.tmp a) (.tmp b) t) ty' [(a, v), (b, x)] KW := by
  refine a_build cells hX hP hT hsmall hpos hf hcs (by omega) fun x w w1 hw hk1 hs1 hsu hown1 => ?_
  refine a_append hX hP hT (by simp [argsFn]) (by simp [argsFn, hab]) hzs hsz hb0 (Nat.le_trans hbase (Nat.le_trans hw.size hs1.size)) (own_stp0 hown hsu) (fun w2 hw2 => (own_slAt hown1).stp0 hw2.stp) (by simpa using hcs) (fun c hc => Array.all_eq_true_iff_forall_mem.1 hone c (by simpa using hc))
    (fun _ _ => List.not_mem_nil) (fun _ _ => hlow) h63 hbytes fun v' w2 w' hw2 hk' hs2 hs3 hown' hbl => ?_
  exact hK v' w' hk' (by simpa using hsu.trans hs3) hown'

/-! ### Times -/
def mulL (k : Nat) (l : List Nat) : List Nat := l.map fun n => n * k % lN
theorem mulL_lt (k : Nat) (l : List Nat) : ∀ x ∈ mulL k l, x < lN := fun x hx => by
  obtain ⟨y, _, rfl⟩ := List.mem_map.1 hx; exact Nat.mod_lt _ (by decide)
def cRTim : Contract := fnW cElS (fun p _ => p.1.length ≤ mx) (fun p w v w' => Tre w.heap.size w' v (mulL p.2 p.1))
end Go.Vc
