/-
  Eight lists of one's own: stored to, appended to, read again.
-/
import Derived.Test.YtpfidanjeacihaaGreatDoorDFr13
namespace Go.Vc
open Go Go.Proofs Go.RowKit

/-! ### an append that tells whether the list has moved -/
theorem app_run2 {P : Program} (w : World) (base : Nat) (t ty e : TypeId) (i : TypeInfo) (z : Value) (bytes : Nat) (ht : P.underlying t = some (.slice e)) (hi : P.info? e = some i) (hz : i.zero = some z)
    (hby : i.bytes = bytes) (hzs : z.cells.size = i.size) (hsz : 0 < i.size) (v : Value) (n : Nat) (xs : List Value) (hown : w.ownsRow base e i.size v n xs)
    (x : Value) (m : Nat) (ys : List Value) (hx : SlAt w x m ys) (hl : ys.length = m * i.size) (h1 : ∀ c ∈ ys, c.oneCell' = true) (h63 : n + m ≤ maxLen) (hbytes : (n + m) * bytes ≤ 140737488355328) (hbase : base ≤ w.heap.size) :
    ∃ v' w', (Builtin.append_ #[t, t] ty #[v, x]).run P w = .ok v' w' ∧ w'.ownsRow base e i.size v' (n + m) (xs ++ ys) ∧ w.grownBy w' v.ownBlock ∧ (v'.ownBlock = v.ownBlock ∨ v'.ownBlock = some w.heap.size ∧ w.grownBy w' none) := by
  rcases hx with ⟨rfl, rfl, rfl⟩ | ⟨b, o, cap, rfl, hm, hc⟩
  · exact ⟨v, w, run_append_owned_none w base t ty e i i.size ht hi v n xs hown, by simpa using hown, ⟨rfl, rfl, rfl, Nat.le_refl _, fun _ _ _ => rfl⟩, .inl rfl⟩
  · have hnews : ∀ j u, ys[j]? = some u → w.cell? ((⟨b, o, none⟩ : Addr).add j) = some u := fun j u hj => by rw [add_none]; exact hc j u hj
    obtain ⟨v', w', hr, h2, h3, _⟩ := run_append_own w base t ty e i z i.size bytes ht hi hz rfl hby hzs hsz v n xs hown ⟨b, o, none⟩ m cap ys hl hnews h1 h63 hbytes hbase
    refine ⟨v', w', hr, h2, h3, ?_⟩
    have hsmall : n + m ≤ 9223372036854775807 := by simp only [maxLen] at h63; omega
    subst hby
    rcases hown.2 with ⟨rfl, rfl⟩ | ⟨g, cp, cur, rfl, hbg, hg, hnc, hcm, hcs, htake⟩
    · rcases Nat.eq_zero_or_pos m with rfl | hm0
      · have : (Builtin.append_ #[t, t] ty #[.slice none 0 0, .slice (some ⟨b, o, none⟩) 0 cap]).run P w = .ok (.slice none 0 0) w := by
          simp [Builtin.append_, run_underlying ht, sizeOf, typeInfo, hi, Builtin.lenOf, Builtin.firstCells, loadCells, loadCellsFrom]
        rw [this] at hr; cases hr; exact .inl rfl
      · rw [run_append_nil (P := P) w t ty e i z ht hi hz ⟨b, o, none⟩ m cap ys hl hnews hm0 (by omega) (by have h := hbytes; rw [Nat.zero_add] at h; omega)] at hr
        cases hr; exact .inr ⟨rfl, rfl, rfl, rfl, by simp, fun k hk _ => heap_alloc_old w.drew _ hk⟩
    · by_cases hroom : n + m ≤ cp
      · have hfit : n * i.size + ys.length ≤ cur.size := by rw [hl, hcs, ← Nat.add_mul]; exact Nat.mul_le_mul_right _ hroom
        rw [run_append_room (P := P) w t ty e i ht hi g n cp cur hg ⟨b, o, none⟩ m cap ys hl hnews h1 hroom hfit] at hr
        cases hr; exact .inl rfl
      · rw [run_append_grow (P := P) w t ty e i z ht hi hz ⟨g, 0, none⟩ n cp xs hown.1 (hown.cells (g := g) rfl) ⟨b, o, none⟩ m cap ys hl hnews (by omega) (by omega) (growslice_fits (by omega) hbytes)] at hr
        cases hr; exact .inr ⟨rfl, rfl, rfl, rfl, by simp, fun k hk _ => heap_alloc_old w.drew _ hk⟩

section
variable {X : Ctx} {u : World} {ow : List Nat} {bl : List KB} {KW : Value → World → Prop}
theorem a_append2 {P : Program} {t e ty size bytes : Nat} {a b : Operand} {l : List (Nat × Value)} {z : Value} {base n m : Nat} {v x : Value} {xs ys : List Value}
    (hX : Std X) (hP : X.P = P) (hT : ElTy P t e size bytes z) (e1 : argsFn l a = v) (e2 : argsFn l b = x) (hzs : z.cells.size = size) (hsz : 0 < size)
    (hb0 : X.w0.heap.size ≤ base) (hbase : base ≤ u.heap.size) (hown : u.ownsRow base e size v n xs) (hx : ∀ w, KnownV X u ow bl w → SlAt w x m ys) (hl : ys.length = m * size) (h1 : ∀ c ∈ ys, c.oneCell' = true)
    (hvo : ∀ g, v.ownBlock = some g → g ∉ ow) (hvb : ∀ w, KnownV X u ow bl w → ∀ g, v.ownBlock = some g → g ∉ bl.map (·.b))
    (h63 : n + m ≤ maxLen) (hbytes : (n + m) * bytes ≤ 140737488355328)
    (hK : ∀ v' w w', KnownV X u ow bl w → Kn X w' → Stp v.ownBlock.toList w w' → w'.ownsRow base e size v' (n + m) (xs ++ ys) → (v'.ownBlock = v.ownBlock ∨ v'.ownBlock = some w.heap.size ∧ Stp [] w w') → KW v' w') :
    AskO X u ow bl true (appOp a b t) ty l KW := by
  subst hP
  obtain ⟨ie, hi, rfl, rfl, hz⟩ := hT.info
  have ht := hT.sl
  have key : ∀ w, KnownV X u ow bl w → ∃ v' w', (execOp (argsFn l) ⟨none, appOp a b t, ty, "", #[], none⟩).run X.P w = .ok (.value v') w' ∧
      w'.ownsRow base e ie.size v' (n + m) (xs ++ ys) ∧ w.grownBy w' v.ownBlock ∧ (v'.ownBlock = v.ownBlock ∨ v'.ownBlock = some w.heap.size ∧ w.grownBy w' none) := fun w hw => by
    obtain ⟨v', w', hr, h2, h3, h4⟩ := app_run2 (P := X.P) w base t ty e ie z ie.bytes ht hi hz rfl hzs hsz v n xs (own_stp hown hw.stp hvo) x m ys (hx w hw) hl h1 h63 hbytes (Nat.le_trans hbase hw.size)
    refine ⟨v', w', ?_, h2, h3, h4⟩
    simp only [appOp, execOp, resolve, invoke, builtin, Sem.run_bind, Sem.run_pure, Result.andThen_ok, List.map_toArray, List.map_cons, List.map_nil, e1, e2, hr]
  have own0 : ∀ w, KnownV X u ow bl w → ∀ g, v.ownBlock = some g → X.mine g := fun w hw g hg => (hX g).2 (Nat.le_trans hb0 (hown.lt g hg).1)
  refine askE_intro (fun w hw => ?_) fun v' w' ⟨w, hw, hr⟩ => ?_
  · obtain ⟨v', w', hr, h2, h3, h4⟩ := key w hw
    refine ⟨v', w', hr, h3.os, h3.tape, h3.output, h3.size, fun g hg hm => h3.block g hg fun hh => ?_⟩
    rcases hm rfl with hm | hm
    · exact hm (own0 w hw g hh.symm)
    · exact hvb w hw g hh.symm hm
  · obtain ⟨v1, w1, hr1, h2, h3, h4⟩ := key w hw
    rw [hr1] at hr
    cases hr
    have hs : Stp v.ownBlock.toList w w' := ⟨h3.size, fun g hg hn => h3.block g hg fun hh => hn (by rw [← hh]; simp)⟩
    refine hK v' w w' hw ⟨fun _ _ _ => rfl, Nat.le_refl _, fun g hg => ?_, Nat.le_trans hw.sz0 h3.size, h3.os.trans hw.os, h3.tape.trans hw.tape, h3.output.trans hw.output, fun _ h => by cases h⟩ hs h2 (h4.imp_right fun h => ⟨h.1, h.2.size, fun g hg _ => h.2.block g hg (by simp)⟩)
    rcases Nat.lt_or_ge g w.heap.size with hlt | hge
    · rw [h3.block g hlt fun hh => hg (own0 w hw g hh.symm)]; exact hw.keep g hg
    · exact absurd ((hX g).2 (Nat.le_trans hw.sz0 hge)) hg
end
/-- A literal appended: the list stays, or moves to a block that nobody knows. -/
theorem a_pushM {X : Ctx} {u : World} {bl bl' : List KB} {KW : Value → World → Prop} {P : Program} {t e ty ty' size bytes : Nat} {a b k : Nat} {z : Value} {base n : Nat} {v : Value} {xs : List Value} {parts : Array (Nat × Operand)} {args : List (Nat × Value)} (cells : Array Value)
    (hX : Std X) (hP : X.P = P) (hT : ElTy P t e size bytes z) (hab : (a == b) = false) (hzs : z.cells.size = size) (hsz : 0 < size)
    (hsmall : ¬ k * size > 2 ^ 24) (hpos : ¬ k * size = 0)
    (hf : Instr.fill (fun i => some (i * size, size)) ((Array.range (k * size)).map (z.cells[· % z.cells.size]!)) (parts.map fun (i, x) => (i, argsFn args x)).toList = some cells)
    (hcs : cells.size = k * size) (hone : cells.all (·.oneCell') = true) (hlow : ∀ g, v.ownBlock = some g → g ∉ bl'.map (·.b))
    (hb0 : X.w0.heap.size ≤ base) (hbase : base ≤ u.heap.size) (hown : u.ownsRow base e size v n xs)
    (h63 : n + k ≤ maxLen) (hbytes : (n + k) * bytes ≤ 140737488355328)
    (hK : ∀ v' w', Kn X w' → Stp v.ownBlock.toList u w' → w'.ownsRow base e size v' (n + k) (xs ++ cells.toList) → (v'.ownBlock = v.ownBlock ∨ ∃ g, v'.ownBlock = some g ∧ u.heap.size ≤ g ∧ g ∉ bl'.map (·.b) ∧ Stp [] u w') → KW v' w') :
    AskO X u [] bl false (.buildSlice t k parts) ty args fun x w => AskO X w [] bl' true (appOp (.tmp a) (.tmp b) t) ty' [(a, v), (b, x)] KW := by
  refine a_build cells hX hP hT hsmall hpos hf hcs (by omega) fun x w w1 hw hk1 hs1 hsu hown1 => ?_
  refine a_append2 hX hP hT (by simp [argsFn]) (by simp [argsFn, hab]) hzs hsz hb0 (Nat.le_trans hbase (Nat.le_trans hw.size hs1.size)) (own_stp0 hown hsu) (fun w2 hw2 => (own_slAt hown1).stp0 hw2.stp) (by simpa using hcs) (fun c hc => Array.all_eq_true_iff_forall_mem.1 hone c (by simpa using hc))
    (fun _ _ => List.not_mem_nil) (fun _ _ => hlow) h63 hbytes fun v' w2 w' hw2 hk' hs2 hown' hbl => ?_
  have h12 : Stp [] u w2 := hsu.trans0 hw2.stp
  exact hK v' w' hk' (by simpa using h12.trans hs2) hown' (hbl.imp_right fun h => ⟨_, h.1, h12.size, fun hm => Nat.lt_irrefl _ (hw2.low hm), h12.trans0 h.2⟩)

/-! ### eight places -/
theorem all8 {p : Nat → Prop} (h0 : p 0) (h1 : p 1) (h2 : p 2) (h3 : p 3) (h4 : p 4) (h5 : p 5) (h6 : p 6) (h7 : p 7) : ∀ j, j < 8 → p j := fun j hj => by
  match j, hj with
  | 0, _ => exact h0
  | 1, _ => exact h1
  | 2, _ => exact h2
  | 3, _ => exact h3
  | 4, _ => exact h4
  | 5, _ => exact h5
  | 6, _ => exact h6
  | 7, _ => exact h7
def arr8 (f : Nat → Value) : List Value := [f 0, f 1, f 2, f 3, f 4, f 5, f 6, f 7]
theorem arr8_get (f : Nat → Value) : ∀ i, i < 8 → (arr8 f)[i]? = some (f i) := all8 rfl rfl rfl rfl rfl rfl rfl rfl
theorem arr8_set (f : Nat → Value) (x : Value) : ∀ i, i < 8 → (splice (arr8 f).toArray i [x]) = (arr8 fun j => if j = i then x else f j).toArray := all8 rfl rfl rfl rfl rfl rfl rfl rfl
theorem arr8_congr {f g : Nat → Value} (h : ∀ j, j < 8 → f j = g j) : arr8 f = arr8 g := by
  unfold arr8
  rw [h 0 (by omega), h 1 (by omega), h 2 (by omega), h 3 (by omega), h 4 (by omega), h 5 (by omega), h 6 (by omega), h 7 (by omega)]
theorem a_sel8 {K : Value → Prop} {f : Nat → Value} {i : Nat} (hi : i < 8) (hK : K (f i)) : Ask (rSel (aggArr (.agg (arr8 f).toArray)) (0 + intNat (J i) * 1) 1 false) K :=
  a_sel1 (cs := arr8 f) (v := f i) (by rw [show 0 + intNat (J i) * 1 = i by simp [intNat]]; exact arr8_get f i hi) hK
theorem a_upd8 {K : Value → Prop} {f : Nat → Value} {i : Nat} {x : Value} (hi : i < 8) (hx : x.cells = #[x]) (h1 : x.oneCell' = true) (hK : K (.agg (arr8 fun j => if j = i then x else f j).toArray)) : Ask (rUpd (aggArr (.agg (arr8 f).toArray)) (0 + intNat (J i) * 1) 1 x) K := by
  have e : Ask (rUpd (aggArr (.agg (arr8 f).toArray)) (0 + intNat (J i) * 1) 1 x) K = K (.agg (arr8 fun j => if j = i then x else f j).toArray) := ask_eq fun v => by
    unfold rUpd
    rw [show 0 + intNat (J i) * 1 = i by simp [intNat], hx, ← arr8_set f x i hi]
    exact ⟨fun h => h.2.2.2, fun h => ⟨by show i + 1 ≤ 8; omega, rfl, by simp [h1], h⟩⟩
  rw [e]; exact hK
theorem own_cells {w : World} {base size n : Nat} {e : TypeId} {v : Value} {xs : List Value} (h : w.ownsRow base e size v n xs) : v.cells = #[v] := by
  rcases h.2 with ⟨rfl, _⟩ | ⟨g, cap, cur, rfl, _⟩ <;> rfl

/-! ### stored to -/
def Apart (Y : Nat → Value) : Prop := ∀ i j g, i < 8 → j < 8 → (Y i).ownBlock = some g → (Y j).ownBlock = some g → i = j
structure Ph1 (u w : World) (Y : Nat → Value) (l : Nat → List Nat) : Prop where
  low : Stp [] u w
  row : ∀ j, j < 8 → w.ownsRow u.heap.size 25 4 (Y j) (l j).length ((l j).flatMap encS)
theorem Ph1.stp {u w w' : World} {Y : Nat → Value} {l : Nat → List Nat} (h : Ph1 u w Y l) (hs : Stp [] w w') : Ph1 u w' Y l := ⟨h.low.trans0 hs, fun j hj => own_stp0 (h.row j hj) hs⟩
theorem mem_own {v : Value} {b : Nat} (h : b ∈ v.ownBlock.toList) : v.ownBlock = some b := by simpa using h
theorem Ph1.put {u w w' : World} {Y : Nat → Value} {l : Nat → List Nat} (h : Ph1 u w Y l) (ap : Apart Y) {i : Nat} (hi : i < 8) {m : List Nat} (hs : Stp (Y i).ownBlock.toList w w')
    (o : w'.ownsRow u.heap.size 25 4 (Y i) m.length (m.flatMap encS)) : Ph1 u w' Y (fun j => if j = i then m else l j) where
  low := (h.low.trans hs).drop fun b hb => ((h.row i hi).lt b (mem_own (by simpa using hb))).1
  row := fun j hj => by
    by_cases hji : j = i
    · subst hji; simp only [if_true]; exact o
    · simp only [hji, if_false]
      exact own_stp (h.row j hj) hs fun b hb hm => hji (ap j i b hj hi hb (mem_own hm))
theorem Ph1.congr {u w : World} {Y : Nat → Value} {l l' : Nat → List Nat} (h : Ph1 u w Y l) (e : ∀ j, j < 8 → l j = l' j) : Ph1 u w Y l' := ⟨h.low, fun j hj => by rw [← e j hj]; exact h.row j hj⟩

/-! ### appended to -/
structure Ph2 (u w : World) (nb : List Nat) (Y V : Nat → Value) (n m c : Nat → Nat) : Prop where
  low : Stp [] u w
  row : ∀ j, j < 8 → w.ownsRow u.heap.size 25 4 (V j) (m j) ((List.replicate (m j) (c j)).flatMap encS)
  old : ∀ j, j < 8 → SlAt w (Y j) (n j) ((List.replicate (n j) (c j)).flatMap encS)
  le : ∀ j, j < 8 → n j ≤ m j
  frm : ∀ j, j < 8 → ∀ g, (Y j).ownBlock = some g → ∃ cap, Y j = .slice (some ⟨g, 0, none⟩) (n j) cap
  ylt : ∀ j, j < 8 → ∀ g, (Y j).ownBlock = some g → g < w.heap.size
  apV : Apart V
  apY : ∀ i j g, i < 8 → j < 8 → (V i).ownBlock = some g → (Y j).ownBlock = some g → i = j
  off : ∀ j, j < 8 → ∀ g, (V j).ownBlock = some g → g ∉ nb
theorem own_frm {w : World} {base size n : Nat} {e : TypeId} {v : Value} {xs : List Value} (h : w.ownsRow base e size v n xs) (g : Nat) (hg : v.ownBlock = some g) : ∃ cap, v = .slice (some ⟨g, 0, none⟩) n cap := by
  rcases h.2 with ⟨rfl, _⟩ | ⟨g', cap, cur, rfl, _⟩
  · cases hg
  · cases hg; exact ⟨cap, rfl⟩
theorem ph2_of {u w : World} {Y : Nat → Value} {n c : Nat → Nat} (h : Ph1 u w Y fun j => List.replicate (n j) (c j)) (ap : Apart Y) {nb : List Nat} (off : ∀ j, j < 8 → ∀ g, (Y j).ownBlock = some g → g ∉ nb) : Ph2 u w nb Y Y n n c := by
  have row : ∀ j, j < 8 → w.ownsRow u.heap.size 25 4 (Y j) (n j) ((List.replicate (n j) (c j)).flatMap encS) := fun j hj => by have := h.row j hj; rw [List.length_replicate] at this; exact this
  exact ⟨h.low, row, fun j hj => own_slAt (row j hj), fun _ _ => Nat.le_refl _, fun j hj => own_frm (row j hj), fun j hj g hg => ((row j hj).lt g hg).2, ap, ap, off⟩
theorem Ph2.stp {u w w' : World} {nb : List Nat} {Y V : Nat → Value} {n m c : Nat → Nat} (h : Ph2 u w nb Y V n m c) (hs : Stp [] w w') : Ph2 u w' nb Y V n m c :=
  ⟨h.low.trans0 hs, fun j hj => own_stp0 (h.row j hj) hs, fun j hj => (h.old j hj).stp0 hs, h.le, h.frm, fun j hj g hg => Nat.lt_of_lt_of_le (h.ylt j hj g hg) hs.size, h.apV, h.apY, h.off⟩
theorem rep_get {n m c : Nat} (h : n ≤ m) (i : Nat) (x : Value) (hx : ((List.replicate n c).flatMap encS)[i]? = some x) : ((List.replicate m c).flatMap encS)[i]? = some x := by
  have e : m = n + (m - n) := by omega
  rw [e, ← List.replicate_append_replicate, List.flatMap_append, List.getElem?_append_left (List.getElem?_eq_some_iff.1 hx).1]
  exact hx
theorem Ph2.push {u w w' : World} {nb : List Nat} {Y V : Nat → Value} {n m c : Nat → Nat} (h : Ph2 u w nb Y V n m c) {i : Nat} (hi : i < 8) {v' : Value} (hs : Stp (V i).ownBlock.toList w w')
    (o : w'.ownsRow u.heap.size 25 4 v' (m i + 1) ((List.replicate (m i) (c i)).flatMap encS ++ encS (c i)))
    (hb : v'.ownBlock = (V i).ownBlock ∨ ∃ g, v'.ownBlock = some g ∧ w.heap.size ≤ g ∧ g ∉ nb ∧ Stp [] w w') : Ph2 u w' nb Y (fun j => if j = i then v' else V j) n (fun j => if j = i then m i + 1 else m j) c := by
  have er : (List.replicate (m i) (c i)).flatMap encS ++ encS (c i) = (List.replicate (m i + 1) (c i)).flatMap encS := by
    rw [List.replicate_succ', List.flatMap_append]; simp
  rw [er] at o
  have vlt : ∀ j, j < 8 → ∀ g, (V j).ownBlock = some g → g < w.heap.size := fun j hj g hg => ((h.row j hj).lt g hg).2
  refine ⟨(h.low.trans hs).drop fun b hb => ((h.row i hi).lt b (mem_own (by simpa using hb))).1, fun j hj => ?_, fun j hj => ?_, fun j hj => ?_, h.frm, fun j hj g hg => Nat.lt_of_lt_of_le (h.ylt j hj g hg) hs.size, fun a b g ha hb' hg1 hg2 => ?_, fun a b g ha hb' hg1 hg2 => ?_, fun j hj g hg => ?_⟩
  · by_cases hji : j = i
    · subst hji; simp only [if_true]; exact o
    · simp only [hji, if_false]
      exact own_stp (h.row j hj) hs fun b hb hm => hji (h.apV j i b hj hi hb (mem_own hm))
  · by_cases hji : j = i
    · subst hji
      rcases hb with hb | ⟨_, _, _, _, hs0⟩
      · by_cases hy : ∃ g, (Y j).ownBlock = some g ∧ (V j).ownBlock = some g
        · obtain ⟨g, hy, hv⟩ := hy
          obtain ⟨cap, hf⟩ := h.frm j hj g hy
          obtain ⟨cap', hf'⟩ := own_frm o g (hb.trans hv)
          have ho := own_slAt o
          have h0 := h.old j hj
          rw [hf] at h0 ⊢
          rw [hf'] at ho
          refine .inr ⟨g, 0, cap, rfl, ?_, fun q x hx => ?_⟩
          · rcases h0 with ⟨h0, _⟩ | ⟨_, _, _, h0, hn, _⟩
            · cases h0
            · cases h0; exact hn
          · rcases ho with ⟨ho, _⟩ | ⟨_, _, _, ho, _, hc⟩
            · cases ho
            · cases ho
              exact hc q x (rep_get (Nat.le_succ_of_le (h.le j hj)) q x hx)
        · exact (h.old j hj).stp hs fun b hb hm => hy ⟨b, hb, mem_own hm⟩
      · exact (h.old j hj).stp0 hs0
    · exact (h.old j hj).stp hs fun b hb hm => hji (h.apY i j b hi hj (mem_own hm) hb).symm
  · by_cases hji : j = i
    · subst hji; simp only [if_true]; exact Nat.le_succ_of_le (h.le j hj)
    · simp only [hji, if_false]; exact h.le j hj
  · by_cases ha' : a = i
    · by_cases hb'' : b = i
      · rw [ha', hb'']
      · simp only [ha', hb'', if_true, if_false] at hg1 hg2
        rcases hb with hb | ⟨g', hb, hge, _, _⟩
        · rw [hb] at hg1; exact ha'.trans (h.apV i b g hi hb' hg1 hg2)
        · rw [hb] at hg1; cases hg1
          exact absurd (vlt b hb' g hg2) (by omega)
    · by_cases hb'' : b = i
      · simp only [ha', hb'', if_true, if_false] at hg1 hg2
        rcases hb with hb | ⟨g', hb, hge, _, _⟩
        · rw [hb] at hg2; exact (h.apV a i g ha hi hg1 hg2).trans hb''.symm
        · rw [hb] at hg2; cases hg2
          exact absurd (vlt a ha g hg1) (by omega)
      · simp only [ha', hb'', if_false] at hg1 hg2
        exact h.apV a b g ha hb' hg1 hg2
  · by_cases ha' : a = i
    · simp only [ha', if_true] at hg1
      rcases hb with hb | ⟨g', hb, hge, _, _⟩
      · rw [hb] at hg1; exact ha'.trans (h.apY i b g hi hb' hg1 hg2)
      · rw [hb] at hg1; cases hg1
        exact absurd (h.ylt b hb' g hg2) (by omega)
    · simp only [ha', if_false] at hg1
      exact h.apY a b g ha hb' hg1 hg2
  · by_cases hji : j = i
    · simp only [hji, if_true] at hg
      rcases hb with hb | ⟨g', hb, _, hn, _⟩
      · rw [hb] at hg; exact h.off i hi g hg
      · rw [hb] at hg; cases hg; exact hn
    · simp only [hji, if_false] at hg
      exact h.off j hj g hg
theorem S100 : ∀ i, i < 8 → Value.agg #[U (100 + i), U 0, U 0, U 0] = S (100 + i) := all8 (by kernel_rfl) (by kernel_rfl) (by kernel_rfl) (by kernel_rfl) (by kernel_rfl) (by kernel_rfl) (by kernel_rfl) (by kernel_rfl)
end Go.Vc
