/-
  Lists in memory: pointers into slices, loads, new slices, appends; how lists are read.
-/
import Derived.Test.YtadnlcennghlbaaVcSc
namespace Go.Vc
open Go Go.RowKit
/-- The pointer to the cell o of a slice. -/
def Ptr (v : Value) (o : Nat) : Value := match v with
  | .slice (some a) _ _ => .pointer (some ⟨a.block, a.off + o, none⟩)
  | _ => undef
/-- A slice's type, its element's, cells and bytes of that, its zero value. -/
structure ElTy (P : Program) (t e size bytes : Nat) (z : Value) : Prop where
  sl : P.underlying t = some (.slice e)
  el : (P.info? e).map (fun i => (i.size, i.bytes, i.zero)) = some (size, bytes, some z)
theorem ElTy.info {P : Program} {t e size bytes : Nat} {z : Value} (h : ElTy P t e size bytes z) : ∃ ie, P.info? e = some ie ∧ ie.size = size ∧ ie.bytes = bytes ∧ ie.zero = some z := by
  have := h.el
  cases hi : P.info? e with
  | none => rw [hi] at this; cases this
  | some ie =>
    rw [hi] at this
    simp only [Option.map_some, Option.some.injEq, Prod.mk.injEq] at this
    exact ⟨ie, rfl, this.1, this.2.1, this.2.2⟩
theorem ElTy.sz {P : Program} {t e size bytes : Nat} {z : Value} (h : ElTy P t e size bytes z) : sz P e = some size := by
  obtain ⟨ie, hi, hs, _⟩ := h.info
  simp [Vc.sz, hi, hs]
section
variable {X : Ctx} {P : Program} {u : World} {ow : List Nat} {bl : List KB} {K : Value → Prop} {KW : Value → World → Prop}
theorem a_len {t elem size bytes n : Nat} {z v : Value} {xs : List Value} {w : World} (hP : X.P = P) (hu : ElTy P t elem size bytes z) (h : SlAt w v n xs) (hK : K (.int .i64 n)) : Ask (rLen X.P t v) K := by
  rcases h with ⟨hv, hn, _⟩ | ⟨b, o, cap, hv, _⟩
  · subst hn; rw [hv, ask_len_sl (by rw [hP]; exact hu.sl)]; exact hK
  · rw [hv, ask_len_sl (by rw [hP]; exact hu.sl)]; exact hK
theorem a_iad {t elem n s bytes : Nat} {z v : Value} {xs : List Value} {w : World} {kd : IntKind} {i : Int} (hP : X.P = P) (hu : ElTy P t elem s bytes z) (h : SlAt w v n xs) (h0 : 0 ≤ i) (h1 : i < (n : Int)) (hK : K (Ptr v (i.toNat * s))) :
    Ask (rIad X.P t v (.int kd i)) K := by
  rcases h with ⟨hv, hn, _⟩ | ⟨b, o, cap, hv, _⟩
  · omega
  · subst hv
    rw [ask_iad_sl (by rw [hP]; exact hu.sl) (by rw [hP]; exact hu.sz) h0 h1]; exact hK
theorem a_iadN {t elem n s bytes i : Nat} {z v : Value} {xs : List Value} {w : World} (hP : X.P = P) (hu : ElTy P t elem s bytes z) (h : SlAt w v n xs) (h1 : i < n) (hK : K (Ptr v (i * s))) : Ask (rIad X.P t v (J i)) K :=
  a_iad hP hu h (by omega) (by omega) hK
/-- An aggregate of a list that lies there. -/
theorem a_load_agg {t : TypeId} {o n : Nat} {v : Value} {xs cs : List Value} (hk : Kn X u) (h : SlAt u v n xs) (ht : agg? X.P t = some true) (hn : sz X.P t = some cs.length) (hb : ∀ b, v.ownBlock = some b → b ∉ ow)
    (h0 : cs ≠ []) (hc : ∀ (j : Nat) (c : Value), cs[j]? = some c → xs[o + j]? = some c) (hK : K (.agg cs.toArray)) : Ask (rLoad X u ow t (Ptr v o)) K := by
  rcases h with ⟨hv, hn', hx⟩ | ⟨b, o', cap, hv, _, hcell⟩
  · subst hx
    match cs, h0 with
    | c :: r, _ => have := hc 0 c rfl; simp at this
  · subst hv
    have hlt : b < u.heap.size := by
      match cs, h0 with
      | c :: r, _ => exact World.block_lt_of_cell? u _ (hcell _ _ (hc 0 c rfl))
    show Ask (rLoad X u ow t (.pointer (some ⟨b, o' + o, none⟩))) K
    rw [ask_load_agg ht hn hlt (hb b rfl) (fun j c hj => by rw [Nat.add_assoc]; exact hcell _ _ (hc j c hj)) hk.some]; exact hK
theorem a_load_one {t : TypeId} {o n : Nat} {v c : Value} {xs : List Value} (hk : Kn X u) (h : SlAt u v n xs) (ht : agg? X.P t = some false) (hb : ∀ b, v.ownBlock = some b → b ∉ ow)
    (hc : xs[o]? = some c) (hK : K c) : Ask (rLoad X u ow t (Ptr v o)) K := by
  rcases h with ⟨hv, hn', hx⟩ | ⟨b, o', cap, hv, _, hcell⟩
  · subst hx; simp at hc
  · subst hv
    have hlt : b < u.heap.size := World.block_lt_of_cell? u _ (hcell _ _ hc)
    show Ask (rLoad X u ow t (.pointer (some ⟨b, o' + o, none⟩))) K
    rw [ask_load_one ht hlt (hb b rfl) (hcell _ _ hc) hk.some]; exact hK
/-- A new slice. -/
theorem a_build {t e ty size bytes : Nat} {z : Value} {len : Nat} {parts : Array (Nat × Operand)} {args : List (Nat × Value)} (cells : Array Value)
    (hX : Std X) (hP : X.P = P) (hT : ElTy P t e size bytes z) (hsmall : ¬ len * size > 2 ^ 24) (hpos : ¬ len * size = 0)
    (hf : Instr.fill (fun i => some (i * size, size)) ((Array.range (len * size)).map (z.cells[· % z.cells.size]!)) (parts.map fun (i, x) => (i, argsFn args x)).toList = some cells)
    (hcs : cells.size = len * size) (hlen : len ≤ maxLen)
    (hK : ∀ g w w', KnownV X u ow bl w → Kn X w' → Stp [] w w' → Stp ow u w' → w'.ownsRow w.heap.size e size (.slice (some ⟨g, 0, none⟩) len len) len cells.toList → KW (.slice (some ⟨g, 0, none⟩) len len) w') :
    AskO X u ow bl false (.buildSlice t len parts) ty args KW := by
  subst hP
  obtain ⟨ie, hie, rfl, rfl, hz⟩ := hT.info
  refine ask_buildSlice cells ie z hT.sl hie hz hsmall hpos hf fun w hw => ?_
  have hs : Stp [] w (w.alloc (.cells cells e)) := ⟨by simp, fun b hb _ => heap_alloc_old w _ hb⟩
  refine hK _ w _ hw ⟨fun _ _ _ => rfl, Nat.le_refl _, fun b hb => ?_, Nat.le_trans hw.sz0 hs.size, hw.os, hw.tape, hw.output, fun _ h => by cases h⟩ hs (by simpa using hw.stp.trans hs) (World.ownsRow_lit w cells len (Nat.le_refl _) hlen hcs)
  have hlt : b < w.heap.size := by
    rcases Nat.lt_or_ge b w.heap.size with h | h
    · exact h
    · exact absurd ((hX b).2 (Nat.le_trans hw.sz0 h)) hb
  rw [hs.past b hlt (by simp)]; exact hw.keep b hb
end
/-! ### appends -/
/-- An append to a list of the call's own: what it yields; the block is the old one, or new. -/
theorem app_run {P : Program} (w : World) (base : Nat) (t ty e : TypeId) (i : TypeInfo) (z : Value) (bytes : Nat) (ht : P.underlying t = some (.slice e)) (hi : P.info? e = some i) (hz : i.zero = some z)
    (hby : i.bytes = bytes) (hzs : z.cells.size = i.size) (hsz : 0 < i.size) (v : Value) (n : Nat) (xs : List Value) (hown : w.ownsRow base e i.size v n xs)
    (x : Value) (m : Nat) (ys : List Value) (hx : SlAt w x m ys) (hl : ys.length = m * i.size) (h1 : ∀ c ∈ ys, c.oneCell' = true) (h63 : n + m ≤ maxLen) (hbytes : (n + m) * bytes ≤ 140737488355328) (hbase : base ≤ w.heap.size) :
    ∃ v' w', (Builtin.append_ #[t, t] ty #[v, x]).run P w = .ok v' w' ∧ w'.ownsRow base e i.size v' (n + m) (xs ++ ys) ∧ w.grownBy w' v.ownBlock ∧ (v'.ownBlock = v.ownBlock ∨ v'.ownBlock = some w.heap.size) := by
  rcases hx with ⟨rfl, rfl, rfl⟩ | ⟨b, o, cap, rfl, hm, hc⟩
  · exact ⟨v, w, run_append_owned_none w base t ty e i i.size ht hi v n xs hown, by simpa using hown, ⟨rfl, rfl, rfl, Nat.le_refl _, fun _ _ _ => rfl⟩, .inl rfl⟩
  · have hnews : ∀ j u, ys[j]? = some u → w.cell? ((⟨b, o, none⟩ : Addr).add j) = some u := fun j u hj => by rw [add_none]; exact hc j u hj
    obtain ⟨v', w', hr, h2, h3, _⟩ := run_append_own w base t ty e i z i.size bytes ht hi hz rfl hby hzs hsz v n xs hown ⟨b, o, none⟩ m cap ys hl hnews h1 h63 hbytes hbase
    refine ⟨v', w', hr, h2, h3, ?_⟩
    have hsmall : n + m ≤ 9223372036854775807 := by simp only [maxLen] at h63; omega
    subst hby
    rcases hown.2 with ⟨rfl, rfl⟩ | ⟨g, cp, cur, rfl, hbg, hg, hnc, hcm, hcs, htake⟩
    · rcases Nat.eq_zero_or_pos m with rfl | hm0
      · have : (Builtin.append_ #[t, t] ty #[.slice none 0 0, .slice (some ⟨b, o, none⟩) 0 cap]).run P w = .ok (.slice none 0 0) w := by
          simp [Builtin.append_, run_underlying ht, sizeOf, typeInfo, hi, Builtin.lenOf, Builtin.firstCells, loadCells, loadCellsFrom]
        rw [this] at hr; cases hr; exact .inl rfl
      · rw [run_append_nil (P := P) w t ty e i z ht hi hz ⟨b, o, none⟩ m cap ys hl hnews hm0 (by omega) (by have h := hbytes; rw [Nat.zero_add] at h; omega)] at hr
        cases hr; exact .inr rfl
    · by_cases hroom : n + m ≤ cp
      · have hfit : n * i.size + ys.length ≤ cur.size := by rw [hl, hcs, ← Nat.add_mul]; exact Nat.mul_le_mul_right _ hroom
        rw [run_append_room (P := P) w t ty e i ht hi g n cp cur hg ⟨b, o, none⟩ m cap ys hl hnews h1 hroom hfit] at hr
        cases hr; exact .inl rfl
      · rw [run_append_grow (P := P) w t ty e i z ht hi hz ⟨g, 0, none⟩ n cp xs hown.1 (hown.cells (g := g) rfl) ⟨b, o, none⟩ m cap ys hl hnews (by omega) (by omega) (growslice_fits (by omega) hbytes)] at hr
        cases hr; exact .inr rfl
section
variable {X : Ctx} {u : World} {ow : List Nat} {bl : List KB} {KW : Value → World → Prop}
/-- An append to a list of the call's own. -/
theorem a_append {P : Program} {t e ty size bytes : Nat} {a b : Operand} {l : List (Nat × Value)} {z : Value} {base n m : Nat} {v x : Value} {xs ys : List Value}
    (hX : Std X) (hP : X.P = P) (hT : ElTy P t e size bytes z) (e1 : argsFn l a = v) (e2 : argsFn l b = x) (hzs : z.cells.size = size) (hsz : 0 < size)
    (hb0 : X.w0.heap.size ≤ base) (hbase : base ≤ u.heap.size) (hown : u.ownsRow base e size v n xs) (hx : ∀ w, KnownV X u ow bl w → SlAt w x m ys) (hl : ys.length = m * size) (h1 : ∀ c ∈ ys, c.oneCell' = true)
    (hvo : ∀ g, v.ownBlock = some g → g ∉ ow) (hvb : ∀ w, KnownV X u ow bl w → ∀ g, v.ownBlock = some g → g ∉ bl.map (·.b))
    (h63 : n + m ≤ maxLen) (hbytes : (n + m) * bytes ≤ 140737488355328)
    (hK : ∀ v' w w', KnownV X u ow bl w → Kn X w' → Stp v.ownBlock.toList w w' → Stp (ow ++ v.ownBlock.toList) u w' → w'.ownsRow base e size v' (n + m) (xs ++ ys) → (v'.ownBlock = v.ownBlock ∨ v'.ownBlock = some w.heap.size) → KW v' w') :
    AskO X u ow bl true (appOp a b t) ty l KW := by
  subst hP
  obtain ⟨ie, hi, rfl, rfl, hz⟩ := hT.info
  have ht := hT.sl
  have key : ∀ w, KnownV X u ow bl w → ∃ v' w', (execOp (argsFn l) ⟨none, appOp a b t, ty, "", #[], none⟩).run X.P w = .ok (.value v') w' ∧
      w'.ownsRow base e ie.size v' (n + m) (xs ++ ys) ∧ w.grownBy w' v.ownBlock ∧ (v'.ownBlock = v.ownBlock ∨ v'.ownBlock = some w.heap.size) := fun w hw => by
    obtain ⟨v', w', hr, h2, h3, h4⟩ := app_run (P := X.P) w base t ty e ie z ie.bytes ht hi hz rfl hzs hsz v n xs (own_stp hown hw.stp hvo) x m ys (hx w hw) hl h1 h63 hbytes (Nat.le_trans hbase hw.size)
    refine ⟨v', w', ?_, h2, h3, h4⟩
    simp only [appOp, execOp, resolve, invoke, builtin, Sem.run_bind, Sem.run_pure, Result.andThen_ok, List.map_toArray, List.map_cons, List.map_nil, e1, e2, hr]
  have own0 : ∀ w, KnownV X u ow bl w → ∀ g, v.ownBlock = some g → X.mine g := fun w hw g hg => (hX g).2 (Nat.le_trans hb0 (hown.lt g hg).1)
  refine askE_intro (fun w hw => ?_) fun v' w' ⟨w, hw, hr⟩ => ?_
  · obtain ⟨v', w', hr, h2, h3, h4⟩ := key w hw
    refine ⟨v', w', hr, h3.os, h3.tape, h3.output, h3.size, fun g hg hm => h3.block g hg fun hh => ?_⟩
    rcases hm rfl with hm | hm
    · exact hm (own0 w hw g hh.symm)
    · exact hvb w hw g hh.symm hm
  · obtain ⟨v1, w1, hr1, h2, h3, h4⟩ := key w hw
    rw [hr1] at hr
    cases hr
    have hs : Stp v.ownBlock.toList w w' := ⟨h3.size, fun g hg hn => h3.block g hg fun hh => hn (by rw [← hh]; simp)⟩
    refine hK v' w w' hw ⟨fun _ _ _ => rfl, Nat.le_refl _, fun g hg => ?_, Nat.le_trans hw.sz0 h3.size, h3.os.trans hw.os, h3.tape.trans hw.tape, h3.output.trans hw.output, fun _ h => by cases h⟩ hs (hw.stp.trans hs) h2 h4
    rcases Nat.lt_or_ge g w.heap.size with hlt | hge
    · rw [h3.block g hlt fun hh => hg (own0 w hw g hh.symm)]; exact hw.keep g hg
    · exact absurd ((hX g).2 (Nat.le_trans hw.sz0 hge)) hg
end
/-- A list of the call's own lies in no variable of another type. -/
theorem own_not_kb {X : Ctx} {u w : World} {ow : List Nat} {bl : List KB} (hw : KnownV X u ow bl w) {base size n : Nat} {e : TypeId} {v : Value} {xs : List Value} (h : w.ownsRow base e size v n xs) (hne : bl.all (fun kb => kb.own && kb.ty != e) = true) :
    ∀ g, v.ownBlock = some g → g ∉ bl.map (·.b) := by
  intro g hg hm
  obtain ⟨kb, hkb, rfl⟩ := List.mem_map.1 hm
  have h1 := List.all_eq_true.1 hne kb hkb
  simp only [Bool.and_eq_true, bne_iff_ne, ne_eq] at h1
  have h2 := (hw.blk kb hkb).1
  rw [if_pos h1.1] at h2
  rcases h.2 with ⟨rfl, _⟩ | ⟨g', cap, cur, rfl, _, hg', _⟩
  · cases hg
  · cases hg
    rw [h2] at hg'
    simp only [Option.some.injEq, Obj.cells.injEq] at hg'
    exact h1.2 hg'.2.1
section
variable {X : Ctx} {u : World} {bl bl' : List KB} {KW : Value → World → Prop}
/-- A literal that is appended to a list of the call's own. -/
theorem a_push {P : Program} {t e ty ty' size bytes : Nat} {a b k : Nat} {z : Value} {base n : Nat} {v : Value} {xs : List Value} {parts : Array (Nat × Operand)} {args : List (Nat × Value)} (cells : Array Value)
    (hX : Std X) (hP : X.P = P) (hT : ElTy P t e size bytes z) (hab : (a == b) = false) (hzs : z.cells.size = size) (hsz : 0 < size)
    (hsmall : ¬ k * size > 2 ^ 24) (hpos : ¬ k * size = 0)
    (hf : Instr.fill (fun i => some (i * size, size)) ((Array.range (k * size)).map (z.cells[· % z.cells.size]!)) (parts.map fun (i, x) => (i, argsFn args x)).toList = some cells)
    (hcs : cells.size = k * size) (hone : cells.all (·.oneCell') = true) (hty : bl'.all (fun kb => kb.own && kb.ty != e) = true)
    (hb0 : X.w0.heap.size ≤ base) (hbase : base ≤ u.heap.size) (hown : u.ownsRow base e size v n xs)
    (h63 : n + k ≤ maxLen) (hbytes : (n + k) * bytes ≤ 140737488355328)
    (hK : ∀ v' w', Kn X w' → Stp v.ownBlock.toList u w' → w'.ownsRow base e size v' (n + k) (xs ++ cells.toList) → (v'.ownBlock = v.ownBlock ∨ ∃ g, v'.ownBlock = some g ∧ u.heap.size ≤ g) → KW v' w') :
    AskO X u [] bl false (.buildSlice t k parts) ty args fun x w => AskO X w [] bl' true (appOp (.tmp a) (.tmp b) t) ty' [(a, v), (b, x)] KW := by
  refine a_build cells hX hP hT hsmall hpos hf hcs (by omega) fun x w w1 hw hk1 hs1 hsu hown1 => ?_
  refine a_append hX hP hT (by simp [argsFn]) (by simp [argsFn, hab]) hzs hsz hb0 (Nat.le_trans hbase (Nat.le_trans hw.size hs1.size)) (own_stp0 hown hsu) (fun w2 hw2 => (own_slAt hown1).stp0 hw2.stp) (by simpa using hcs) (fun c hc => Array.all_eq_true_iff_forall_mem.1 hone c (by simpa using hc))
    (fun _ _ => List.not_mem_nil) (fun w2 hw2 => own_not_kb hw2 (own_stp0 (own_stp0 hown hsu) hw2.stp) hty) h63 hbytes fun v' w2 w' hw2 hk' hs2 hs3 hown' hbl => ?_
  refine hK v' w' hk' (by simpa using hsu.trans hs3) hown' (hbl.imp_right fun h => ⟨_, h, ?_⟩)
  exact Nat.le_trans hw.size (Nat.le_trans hs1.size hw2.size)
end
/-- A part of a slice. -/
def SubV (v : Value) (lo hi s : Nat) : Value := match v with | .slice a _ cap => sliced a lo hi cap s | _ => undef
theorem slAt_sub {w : World} {v : Value} {n lo hi s : Nat} {xs : List Value} (h : SlAt w v n xs) (h1 : lo ≤ hi) (h2 : hi ≤ n) : SlAt w (SubV v lo hi s) (hi - lo) ((xs.drop (lo * s)).take ((hi - lo) * s)) := by
  rcases h with ⟨rfl, hn, rfl⟩ | ⟨b, o, cap, rfl, ⟨hn, hm⟩, hc⟩
  · have : lo = 0 := by omega
    have : hi = 0 := by omega
    subst hn; subst lo; subst hi
    exact .inl ⟨by simp [SubV, sliced], rfl, by simp⟩
  · refine .inr ⟨b, if cap = lo then o else o + lo * s, cap - lo, ?_, ⟨by omega, by omega⟩, fun i x hx => ?_⟩
    · unfold SubV sliced
      by_cases he : cap = lo
      · simp [he]
      · simp only [he, if_false, Option.map_some, add_none]
    · rw [List.getElem?_take] at hx
      split at hx
      · rename_i hlt
        rw [List.getElem?_drop] at hx
        have hne : cap ≠ lo := fun he => by
          have : hi - lo = 0 := by omega
          rw [this, Nat.zero_mul] at hlt
          omega
        rw [if_neg hne, Nat.add_assoc]
        exact hc _ _ hx
      · cases hx
section
variable {X : Ctx} {P : Program} {K : Value → Prop}
theorem slAt_form {w : World} {v : Value} {n : Nat} {xs : List Value} (h : SlAt w v n xs) : ∃ a cap, v = .slice a n cap ∧ n ≤ cap := by
  rcases h with ⟨rfl, rfl, _⟩ | ⟨b, o, cap, rfl, hn, _⟩
  · exact ⟨_, _, rfl, Nat.le_refl _⟩
  · exact ⟨_, _, rfl, hn.1⟩
theorem ElTy.elem {t e s bytes : Nat} {z : Value} (h : ElTy P t e s bytes z) : P.elem t = e := by simp [Program.elem, h.sl]
theorem a_slcH {t e s bytes n hi : Nat} {z v : Value} {xs : List Value} {w : World} (hP : X.P = P) (hT : ElTy P t e s bytes z) (h : SlAt w v n xs) (h2 : hi ≤ n) (hK : K (SubV v 0 hi s)) : Ask (rSlc X.P t v none (some (J hi)) none) K := by
  obtain ⟨a, cap, rfl, hn⟩ := slAt_form h
  subst hP
  have hr : ∀ w, (Instr.sliceAt t (.slice a n cap) none (some (J hi)) none).run X.P w = .ok (SubV (.slice a n cap) 0 hi s) w := fun w => by
    have ht : X.P.underlying t = some (.slice (X.P.elem t)) := by rw [hT.elem]; exact hT.sl
    rw [run_sliceAt_slice w t _ _ _ _ ht, run_slice_h w t a n cap ht .i64 hi (by omega) (by omega), hT.elem, run_sz hT.sz w]
    simp [SubV]
  have e : Ask (rSlc X.P t (.slice a n cap) none (some (J hi)) none) K = K (SubV (.slice a n cap) 0 hi s) := ask_eq (runs_iff hr)
  rw [e]; exact hK
end
/-! ### how lists are read -/
theorem flat_at {α : Type} {enc : α → List Value} {s : Nat} (hlen : ∀ x, (enc x).length = s) : ∀ (l : List α) (k : Nat) (x : α), l[k]? = some x → ∀ (j : Nat) (c : Value), (enc x)[j]? = some c → (l.flatMap enc)[k * s + j]? = some c
  | [], k, x, h, _, _, _ => by simp at h
  | y :: r, 0, x, h, j, c, hj => by
    simp at h; subst h
    rw [List.flatMap_cons, Nat.zero_mul, Nat.zero_add, List.getElem?_append_left (by rw [List.getElem?_eq_some_iff] at hj; exact hj.1)]
    exact hj
  | y :: r, k + 1, x, h, j, c, hj => by
    rw [List.flatMap_cons, List.getElem?_append_right (by rw [hlen y, Nat.succ_mul]; omega), hlen y, show (k + 1) * s + j - s = k * s + j by rw [Nat.succ_mul]; omega]
    exact flat_at hlen r k x (by simpa using h) j c hj
theorem flat_len {α : Type} {enc : α → List Value} {s : Nat} (hlen : ∀ x, (enc x).length = s) (l : List α) : (l.flatMap enc).length = l.length * s := by
  induction l with
  | nil => simp
  | cons x r ih => rw [List.flatMap_cons, List.length_append, ih, hlen, List.length_cons, Nat.succ_mul]; omega
theorem flat_inj {α : Type} {enc : α → List Value} {ok : α → Prop} {s : Nat} (hlen : ∀ x, (enc x).length = s) (hinj : ∀ a b, ok a → ok b → enc a = enc b → a = b) : ∀ (l m : List α), (∀ x ∈ l, ok x) → (∀ x ∈ m, ok x) → l.length = m.length → l.flatMap enc = m.flatMap enc → l = m
  | [], [], _, _, _, _ => rfl
  | [], _ :: _, _, _, h, _ => by simp at h
  | _ :: _, [], _, _, h, _ => by simp at h
  | a :: l, b :: m, h1, h2, h3, h4 => by
    rw [List.flatMap_cons, List.flatMap_cons] at h4
    obtain ⟨e1, e2⟩ := List.append_inj h4 (by rw [hlen, hlen])
    rw [hinj a b (h1 a (by simp)) (h2 b (by simp)) e1, flat_inj hlen hinj l m (fun x hx => h1 x (by simp [hx])) (fun x hx => h2 x (by simp [hx])) (by simpa using h3) e2]
theorem slAt_inj {w : World} {v : Value} {n m : Nat} {xs ys : List Value} (hl : xs.length = ys.length) (h : SlAt w v n xs) (k : SlAt w v m ys) : n = m ∧ xs = ys := by
  rcases h with ⟨hv, hn, hx⟩ | ⟨b, o, cap, hv, hn, hc⟩
  · rcases k with ⟨_, kn, ky⟩ | ⟨b', o', cap', kv, _⟩
    · exact ⟨hn.trans kn.symm, hx.trans ky.symm⟩
    · rw [hv] at kv; cases kv
  · rcases k with ⟨kv, _⟩ | ⟨b', o', cap', kv, _, kc⟩
    · rw [hv] at kv; cases kv
    · rw [hv] at kv
      cases kv
      refine ⟨rfl, List.ext_getElem? fun i => ?_⟩
      rcases Nat.lt_or_ge i xs.length with hi | hi
      · have h1 := hc i xs[i] (List.getElem?_eq_getElem hi)
        have h2 := kc i ys[i] (List.getElem?_eq_getElem (by omega))
        rw [h1] at h2
        rw [List.getElem?_eq_getElem hi, List.getElem?_eq_getElem (by omega), ← h2]
      · rw [List.getElem?_eq_none hi, List.getElem?_eq_none (by omega)]
theorem slAt_len {w : World} {v : Value} {n m : Nat} {xs ys : List Value} (h : SlAt w v n xs) (k : SlAt w v m ys) : n = m := by
  rcases h with ⟨hv, hn, hx⟩ | ⟨b, o, cap, hv, _⟩
  · rcases k with ⟨_, kn, ky⟩ | ⟨b', o', cap', kv, _⟩
    · exact hn.trans kn.symm
    · rw [hv] at kv; cases kv
  · rcases k with ⟨kv, _⟩ | ⟨b', o', cap', kv, _⟩
    · rw [hv] at kv; cases kv
    · rw [hv] at kv; cases kv; rfl
/-- A slice of plain elements. -/
def Ls {α : Type} (enc : α → List Value) (ok : α → Prop) (w : World) (v : Value) (l : List α) : Prop := SlAt w v l.length (l.flatMap enc) ∧ ∀ x ∈ l, ok x
def cL {α : Type} (enc : α → List Value) (ok : α → Prop) (s : Nat) (hlen : ∀ x, (enc x).length = s) (hinj : ∀ a b, ok a → ok b → enc a = enc b → a = b) : Cod (List α) :=
  ⟨fun w v l => Ls enc ok w v l, fun w v a b h k => by
    have hl : a.length = b.length := slAt_len h.1 k.1
    exact flat_inj hlen hinj a b h.2 k.2 hl (slAt_inj (by rw [flat_len hlen, flat_len hlen, hl]) h.1 k.1).2⟩
/-- A slice of values that are read each by itself. -/
def LLs {α : Type} (c : Cod α) (w : World) (v : Value) (l : List α) : Prop := ∃ vs : List Value, SlAt w v l.length vs ∧ vs.length = l.length ∧ ∀ (i : Nat) (x : Value) (a : α), vs[i]? = some x → l[i]? = some a → c.rd w x a
def cLL {α : Type} (c : Cod α) : Cod (List α) := ⟨LLs c, fun w v a b ⟨vs, h1, h2, h3⟩ ⟨us, k1, k2, k3⟩ => by
  have hl : a.length = b.length := slAt_len h1 k1
  have hv : vs = us := (slAt_inj (by omega) h1 k1).2
  subst hv
  refine List.ext_getElem? fun i => ?_
  rcases Nat.lt_or_ge i a.length with hi | hi
  · have hi1 : i < vs.length := by omega
    have hi2 : i < b.length := by omega
    rw [List.getElem?_eq_getElem hi, List.getElem?_eq_getElem hi2,
      c.inj _ _ _ _ (h3 i vs[i] a[i] (List.getElem?_eq_getElem hi1) (List.getElem?_eq_getElem hi)) (k3 i vs[i] b[i] (List.getElem?_eq_getElem hi1) (List.getElem?_eq_getElem hi2))]
  · rw [List.getElem?_eq_none hi, List.getElem?_eq_none (by omega)]⟩
theorem Ls.stp {α : Type} {enc : α → List Value} {ok : α → Prop} {ex : List Nat} {u w : World} {v : Value} {l : List α} (h : Ls enc ok u v l) (hs : Stp ex u w) (hb : ∀ b, v.ownBlock = some b → b ∉ ex) : Ls enc ok w v l := ⟨h.1.stp hs hb, h.2⟩
theorem Ls.stp0 {α : Type} {enc : α → List Value} {ok : α → Prop} {u w : World} {v : Value} {l : List α} (h : Ls enc ok u v l) (hs : Stp [] u w) : Ls enc ok w v l := ⟨h.1.stp0 hs, h.2⟩
/-! ### lists of scalars -/
end Go.Vc
