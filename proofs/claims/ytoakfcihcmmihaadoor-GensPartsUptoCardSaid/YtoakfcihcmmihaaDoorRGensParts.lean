/-
  GensParts, where what it reads is of a bulk of at most 1048576: the law returns true, and each argument reads behind the call as it read before; the listed variable is tied to the program's text.
-/
import Derived.Test.YtoakfcihcmmihaaDoorDGen5
import Derived.Test.YtoakfcihcmmihaaDoorRBase
namespace Go.Proofs.YtoakfcihcmmihaaDoor
open Go.ChangeShapes Go.WideShapes Go.ChangeAt Go.WideMaps Go.WideElems Go.RowKit Go.Vc

set_option maxRecDepth 100000 in
theorem in_Set {H : Type} {enc : TypeId × Value → H} {W : World} {base : Nat} {spare : Nat → Bool} {held : Bool} {r : Reach} {b0 : Nat} {v : Value} {d : DataW H} {p : List MemPlace}
    (hv : Value.okWide Tryd.prog W r b0 61 v) (h : DataW.Trod enc Tryd.prog W base spare held 61 v d p) :
    ∃ (b bl q : Nat) (G K : List Nat), cSetL.rd W v (b, bl, q, G, K) ∧ G.length + K.length ≤ Rows.uptoBulk d := by
  obtain ⟨fuel, h⟩ := h
  obtain ⟨xs, n, _, hx, hl, hlen, hf⟩ := DataW.trod_struct Tryd.underlying61 h
  obtain ⟨cs, rfl, hcs⟩ := okWide_struct Tryd.underlying61 hv
  have hrow : Row.okWide Tryd.prog W r b0 61 cs := by
    unfold Value.okWide at hv
    rw [Tryd.underlying61] at hv
    obtain ⟨cs', e, _, hr⟩ := hv
    obtain rfl : cs = cs' := by simpa using e
    exact hr
  obtain ⟨ts, hts, _, hcell⟩ := hrow
  have hts' : Tryd.prog.cellTypes Tryd.prog.depth 61 = some [22, 22, 22, 22, 22, 22, 22, 22, 22, 22, 22, 22, 59, 59] := by kernel_rfl
  obtain rfl : ts = _ := Option.some.inj (hts.symm.trans hts')
  have hc14 : Tryd.prog.cellsOf 61 = 14 := by kernel_rfl
  rw [hc14] at hcs
  obtain ⟨cl⟩ := cs
  match cl, hcs with
  | [a0, a1, a2, a3, a4, a5, a6, a7, a8, a9, a10, a11, g, k], _ =>
  match xs, hlen with
  | [y0, y1, y2, y3, y4], _ =>
  have c1 : Tryd.prog.cellsOf 59 = 1 := by kernel_rfl
  have t0 : DataW.trod enc Tryd.prog W base spare held n 24 (([a0, a1, a2, a3, a4, a5, a6, a7, a8, a9, a10, a11, g, k].drop 0).take (Tryd.prog.cellsOf 24)) = some y0 := hf 0 _ rfl
  rw [cells_S] at t0
  have t1 : DataW.trod enc Tryd.prog W base spare held n 24 (([a0, a1, a2, a3, a4, a5, a6, a7, a8, a9, a10, a11, g, k].drop 4).take (Tryd.prog.cellsOf 24)) = some y1 := hf 1 _ rfl
  rw [cells_S] at t1
  have t2 : DataW.trod enc Tryd.prog W base spare held n 24 (([a0, a1, a2, a3, a4, a5, a6, a7, a8, a9, a10, a11, g, k].drop 8).take (Tryd.prog.cellsOf 24)) = some y2 := hf 2 _ rfl
  rw [cells_S] at t2
  have t3 : DataW.trod enc Tryd.prog W base spare held n 59 (([a0, a1, a2, a3, a4, a5, a6, a7, a8, a9, a10, a11, g, k].drop 12).take (Tryd.prog.cellsOf 59)) = some y3 := hf 3 _ rfl
  rw [c1] at t3
  have t4 : DataW.trod enc Tryd.prog W base spare held n 59 (([a0, a1, a2, a3, a4, a5, a6, a7, a8, a9, a10, a11, g, k].drop 13).take (Tryd.prog.cellsOf 59)) = some y4 := hf 4 _ rfl
  rw [c1] at t4
  obtain ⟨b, e0, o0⟩ := elem_S t0
  obtain ⟨bl, e1, o1⟩ := elem_S t1
  obtain ⟨q, e2, o2⟩ := elem_S t2
  obtain ⟨u12, k12, s12⟩ := hcell 12 g rfl
  obtain ⟨u13, k13, s13⟩ := hcell 13 k rfl
  obtain rfl : 59 = u12 := by simpa using k12
  obtain rfl : 59 = u13 := by simpa using k13
  obtain ⟨g', G, eg, hG, lG⟩ := in_LS (fun a l c e => spot_of s12 Tryd.underlying59 a l c (by simpa using e)) t3
  obtain ⟨k', K, ek, hK, lK⟩ := in_LS (fun a l c e => spot_of s13 Tryd.underlying59 a l c (by simpa using e)) t4
  obtain rfl : g = g' := by simpa using eg
  obtain rfl : k = k' := by simpa using ek
  refine ⟨b, bl, q, G, K, ⟨g, k, ?_, o0, o1, o2, hG, hK⟩, ?_⟩
  · unfold SetV
    dsimp only
    rw [← e0, ← e1, ← e2]
    rfl
  · obtain rfl : d = _ := (Prod.ext_iff.1 hx).1
    have := bulk_list y3.1
    have := bulk_list y4.1
    simp only [List.map_cons, List.map_nil, Rows.uptoBulk, Rows.uptoBulkAll]
    omega

/-- The witness: everything zero, both slices nil. -/
def set0 : Value := SetV 0 0 0 (.slice none 0 0) (.slice none 0 0)
theorem reads (os : Os) {H : Type} (enc : TypeId × Value → H) : ∃ ds places, DataW.whole enc Tryd.prog ((World.doorLaid Tryd.prog 400 os).forCall (fun _ _ => 0) ⟨#[], #[set0, .int .i64 0, .int .i64 0], []⟩).memory Tryd.f4.params.toList Rows.gensPartsSpec.vars false #[set0, Value.int .i64 0, Value.int .i64 0].toList 8 = some (ds, [], places) ∧ Rows.uptoSmall H ds = true :=
  ⟨[.agg [.agg [.lit (.int .u64 0), .lit (.int .u64 0), .lit (.int .u64 0), .lit (.int .u64 0)], .agg [.lit (.int .u64 0), .lit (.int .u64 0), .lit (.int .u64 0), .lit (.int .u64 0)], .agg [.lit (.int .u64 0), .lit (.int .u64 0), .lit (.int .u64 0), .lit (.int .u64 0)], .nil, .nil], .lit (.int .i64 0), .lit (.int .i64 0)], [], by kernel_rfl, by kernel_rfl⟩

set_option maxRecDepth 100000 in
theorem lifted (os : Os) (started : os.Started) (H : Type) (enc : TypeId × Value → H) (F : Stop.Interp) :
    ReturnsInHanded {} Tryd.checked os 4 .any ((Rows.OpenSpec.upto Rows.gensPartsSpec).preRow enc Tryd.prog Tryd.f4 Rows.gensPartsUptoRow.domain false Rows.gensPartsUptoRow.laid) (((Rows.OpenSpec.upto Rows.gensPartsSpec).at F).post enc Tryd.prog Tryd.f4 false true false false) := by
  obtain ⟨ds0, places, hx, hsm⟩ := reads os enc
  refine returnsInHanded_of_row (C := Tryd.checked) (s := Rows.OpenSpec.upto Rows.gensPartsSpec) own started (by kernel_rfl) Tryd.func4
    (witness_row_at (enc := enc) (C := Tryd.checked) false (World.doorLaid Tryd.prog 400 os) #[set0, .int .i64 0, .int .i64 0] rfl (by kernel_rfl) (by kernel_rfl) (by kernel_rfl)
      (OpenSpec.preRow_of_cond 8 hx (by kernel_rfl) (fun k hk => by cases hk; rw [List.append_nil]; exact hsm) (by kernel_rfl) (door_met os _))) ?_
  intro W base args ds gs before hval0 hW _ hcond _ hL _ _
  have hval : ∀ (j : Nat) t v, Tryd.f4.params[j]? = some t → args[j]? = some v → Value.okWide Tryd.prog W .any base t v := hval0
  have hW' := hW
  obtain ⟨p, q, hA0, hV, rfl, hfz, hnd⟩ := hW
  have hA : DataW.TrodAll enc Tryd.prog W 0 (fun _ => true) true Tryd.f4.params.toList args.toList ds p := hA0
  rw [Tryd.params4] at hA hval
  have hA1 := hA
  obtain ⟨v0, vs0, d0, ds0, p0, q0, hargs, rfl, rfl, h0, r0⟩ := trodAll_cons hA
  obtain ⟨v1, vs1, d1, ds1, p1, q1, rfl, rfl, rfl, h1, r1⟩ := trodAll_cons r0
  obtain ⟨v2, vs2, d2, ds2, p2, q2, rfl, rfl, rfl, h2, r2⟩ := trodAll_cons r1
  obtain ⟨rfl, rfl, rfl⟩ := trodAll_nil r2
  obtain rfl : args = #[v0, v1, v2] := by cases args; simp_all
  obtain ⟨rfl, rfl⟩ := trodVars_none hV
  have hb := bulk_bound (hcond _ rfl)
  obtain ⟨b, bl, qq, G, K, hrs, hlen⟩ := in_Set (hval 0 61 v0 rfl rfl) h0
  obtain ⟨a, rfl, rfl, rfl, _⟩ := open_int Tryd.underlying3 (hval 1 3 v1 rfl rfl) h1
  obtain ⟨n, rfl, rfl, rfl, _⟩ := open_int Tryd.underlying3 (hval 2 3 v2 rfl rfl) h2
  have hmx : G.length ≤ 1048576 ∧ K.length ≤ 1048576 := by
    have e : Rows.uptoBulkAll ([d0, .lit (.int .i64 a), .lit (.int .i64 n)] ++ ([] : List (DataW H))) = Rows.uptoBulk d0 + (1 + (1 + 0)) := rfl
    rw [e] at hb
    have : mx0 = 1048576 := rfl
    omega
  clear hA0 hval0
  have hrd : (Cods.cons cSetL (Cods.cons cI (Cods.cons cI Cods.nil))).rd W [v0, .int .i64 a, .int .i64 n] ((b, bl, qq, G, K), a, n, ()) := ⟨_, _, rfl, hrs, _, _, rfl, rfl, _, _, rfl, rfl, rfl⟩
  refine (keepsGensParts.callsW [v0, .int .i64 a, .int .i64 n] W ⟨((b, bl, qq, G, K), a, n, ()), hrd, hmx⟩ (of_laid hL)).mono fun e W' ⟨v, he, hv, bel0⟩ => ?_
  have bel : Below W.heap.size W W' := ⟨bel0.os, bel0.tape, bel0.output, bel0.size, fun b hb => bel0.block b hb id⟩
  have hv := hv.1 _ hrd
  subst hv
  subst he
  exact ⟨_, rfl, _, _, _, [], _, [], hW', trodAll_mk1 (shut_bool Tryd.underlying4 _), trodAll_below laidOut bel (by kernel_rfl) hA1, rfl, bel.frame _, fun h => by cases h⟩

theorem gensParts_said : Rows.GensPartsUptoSaid :=
  OpenClaim.holds_of_cond 4 Tryd.f4 rfl rfl rfl rfl rfl rfl rfl ⟨rfl, rfl, rfl, rfl, rfl⟩ rfl rfl rfl rfl rfl (by kernel_rfl) Tryd.func4 (by kernel_rfl)
    (of_decide_eq_true (by kernel_rfl)) (by unfold Func.isWrapper; first | (rw [if_pos (by decide +kernel)]; kernel_rfl) | (rw [if_neg (by decide +kernel)]; exact ⟨rfl, rfl⟩))
    (fun os started H enc _ F => by rw [OpenClaim.pre_eq_preRow]; exact lifted os started H enc F)

theorem plain (f : FuncId) (fn : Func) (hf : Tryd.pinned.checked.prog.funcNamed "veil/veillaw09.GensParts" = some f) (hfn : Tryd.pinned.checked.prog.funcs[f]? = some fn) :
    false = Tryd.pinned.checked.prog.looks [] ∧ ∀ (j : Nat) t, fn.params[j]? = some t → Tryd.pinned.checked.prog.wantsStandIn t = false := by
  obtain rfl : f = 4 := Option.some.inj ((show Tryd.prog.funcNamed "veil/veillaw09.GensParts" = some 4 by kernel_rfl).symm.trans hf) |>.symm
  obtain rfl : fn = Tryd.f4 := (Option.some.inj (Tryd.func4.symm.trans hfn)).symm
  refine ⟨by kernel_rfl, fun j t ht => ?_⟩
  rw [Tryd.params4] at ht
  have hm := Array.mem_of_getElem? ht
  have hall : (#[61, 3, 3].all fun u => !Tryd.prog.wantsStandIn u) = true := by kernel_rfl
  exact (show Tryd.prog.wantsStandIn t = false by simpa using Array.all_eq_true_iff_forall_mem.1 hall t hm)

theorem gensParts_holds : Rows.GensPartsUptoCardSaid :=
  Claim7.holds_tied_plain_at .later [] _ _ _ _ gensParts_said (fun _ h => by cases h) (by kernel_rfl) (fun _ h => by cases h) gensPartsUpto_row_tie rfl ⟨rfl, rfl⟩ (by kernel_rfl) rfl plain (by kernel_rfl)
#print axioms gensParts_holds
end Go.Proofs.YtoakfcihcmmihaaDoor
