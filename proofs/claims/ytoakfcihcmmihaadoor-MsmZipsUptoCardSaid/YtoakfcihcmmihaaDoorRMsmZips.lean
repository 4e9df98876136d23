/-
  MsmZips, where what it reads is of a bulk of at most 1048576: the law returns true, and each argument reads behind the call as it read before; the listed variable is tied to the program's text.
-/
import Derived.Test.YtoakfcihcmmihaaDoorDZip3
import Derived.Test.YtoakfcihcmmihaaDoorRBase
namespace Go.Proofs.YtoakfcihcmmihaaDoor
open Go.ChangeShapes Go.WideShapes Go.ChangeAt Go.WideMaps Go.WideElems Go.RowKit Go.Vc

theorem reads (os : Os) {H : Type} (enc : TypeId × Value → H) : ∃ ds places, DataW.whole enc Tryd.prog ((World.doorLaid Tryd.prog 400 os).forCall (fun _ _ => 0) ⟨#[], #[.slice none 0 0, .slice none 0 0, .int .i64 0], []⟩).memory Tryd.f6.params.toList Rows.msmZipsSpec.vars false #[Value.slice none 0 0, Value.slice none 0 0, Value.int .i64 0].toList 8 = some (ds, [], places) ∧ Rows.uptoSmall H ds = true :=
  ⟨[.nil, .nil, .lit (.int .i64 0)], [], by kernel_rfl, by kernel_rfl⟩

set_option maxRecDepth 100000 in
theorem lifted (os : Os) (started : os.Started) (H : Type) (enc : TypeId × Value → H) (F : Stop.Interp) :
    ReturnsInHanded {} Tryd.checked os 6 .any ((Rows.OpenSpec.upto Rows.msmZipsSpec).preRow enc Tryd.prog Tryd.f6 Rows.msmZipsUptoRow.domain false Rows.msmZipsUptoRow.laid) (((Rows.OpenSpec.upto Rows.msmZipsSpec).at F).post enc Tryd.prog Tryd.f6 false true false false) := by
  obtain ⟨ds0, places, hx, hsm⟩ := reads os enc
  refine returnsInHanded_of_row (C := Tryd.checked) (s := Rows.OpenSpec.upto Rows.msmZipsSpec) own started (by kernel_rfl) Tryd.func6
    (witness_row_at (enc := enc) (C := Tryd.checked) false (World.doorLaid Tryd.prog 400 os) #[.slice none 0 0, .slice none 0 0, .int .i64 0] rfl (by kernel_rfl) (by kernel_rfl) (by kernel_rfl)
      (OpenSpec.preRow_of_cond 8 hx (by kernel_rfl) (fun k hk => by cases hk; rw [List.append_nil]; exact hsm) (by kernel_rfl) (door_met os _))) ?_
  intro W base args ds gs before hval0 hW _ hcond _ hL _ _
  have hval : ∀ (j : Nat) t v, Tryd.f6.params[j]? = some t → args[j]? = some v → Value.okWide Tryd.prog W .any base t v := hval0
  have hW' := hW
  obtain ⟨p, q, hA0, hV, rfl, hfz, hnd⟩ := hW
  have hA : DataW.TrodAll enc Tryd.prog W 0 (fun _ => true) true Tryd.f6.params.toList args.toList ds p := hA0
  rw [Tryd.params6] at hA hval
  have hA1 := hA
  obtain ⟨v0, vs0, d0, ds0, p0, q0, hargs, rfl, rfl, h0, r0⟩ := trodAll_cons hA
  obtain ⟨v1, vs1, d1, ds1, p1, q1, rfl, rfl, rfl, h1, r1⟩ := trodAll_cons r0
  obtain ⟨v2, vs2, d2, ds2, p2, q2, rfl, rfl, rfl, h2, r2⟩ := trodAll_cons r1
  obtain ⟨rfl, rfl, rfl⟩ := trodAll_nil r2
  obtain rfl : args = #[v0, v1, v2] := by cases args; simp_all
  obtain ⟨rfl, rfl⟩ := trodVars_none hV
  have hb := bulk_bound (hcond _ rfl)
  obtain ⟨l0, hr0, hl0⟩ := in_LSv (hval 0 59 v0 rfl rfl) h0
  obtain ⟨l1, hr1, hl1⟩ := in_LSv (hval 1 59 v1 rfl rfl) h1
  obtain ⟨a2, rfl, rfl, rfl, _⟩ := open_int Tryd.underlying3 (hval 2 3 v2 rfl rfl) h2
  have hmx : l0.length ≤ 1048576 ∧ l1.length ≤ 1048576 := by
    have e : Rows.uptoBulkAll ([d0, d1, .lit (.int .i64 a2)] ++ ([] : List (DataW H))) = Rows.uptoBulk d0 + (Rows.uptoBulk d1 + (1 + 0)) := rfl
    rw [e] at hb
    have := bulk_list d0
    have := bulk_list d1
    have : mx0 = 1048576 := rfl
    omega
  clear hA0 hval0
  have hrd : (Cods.cons cLS (Cods.cons cLS (Cods.cons cI Cods.nil))).rd W [v0, v1, .int .i64 a2] (l0, l1, a2, ()) := ⟨_, _, rfl, hr0, _, _, rfl, hr1, _, _, rfl, rfl, rfl⟩
  refine (keepsMsmZips.callsW [v0, v1, .int .i64 a2] W ⟨(l0, l1, a2, ()), hrd, ⟨Nat.le_trans hmx.1 (by decide), Nat.le_trans hmx.2 (by decide)⟩⟩ (of_laid hL)).mono fun e W' ⟨v, he, hv, bel0⟩ => ?_
  have bel : Below W.heap.size W W' := ⟨bel0.os, bel0.tape, bel0.output, bel0.size, fun b hb => bel0.block b hb id⟩
  have hv := hv.1 _ hrd
  subst hv
  subst he
  exact ⟨_, rfl, _, _, _, [], _, [], hW', trodAll_mk1 (shut_bool Tryd.underlying4 _), trodAll_below laidOut bel (by kernel_rfl) hA1, rfl, bel.frame _, fun h => by cases h⟩

theorem msmZips_said : Rows.MsmZipsUptoSaid :=
  OpenClaim.holds_of_cond 6 Tryd.f6 rfl rfl rfl rfl rfl rfl rfl ⟨rfl, rfl, rfl, rfl, rfl⟩ rfl rfl rfl rfl rfl (by kernel_rfl) Tryd.func6 (by kernel_rfl)
    (of_decide_eq_true (by kernel_rfl)) (by unfold Func.isWrapper; first | (rw [if_pos (by decide +kernel)]; kernel_rfl) | (rw [if_neg (by decide +kernel)]; exact ⟨rfl, rfl⟩))
    (fun os started H enc _ F => by rw [OpenClaim.pre_eq_preRow]; exact lifted os started H enc F)

theorem plain (f : FuncId) (fn : Func) (hf : Tryd.pinned.checked.prog.funcNamed "veil/veillaw07.MsmZips" = some f) (hfn : Tryd.pinned.checked.prog.funcs[f]? = some fn) :
    false = Tryd.pinned.checked.prog.looks [] ∧ ∀ (j : Nat) t, fn.params[j]? = some t → Tryd.pinned.checked.prog.wantsStandIn t = false := by
  obtain rfl : f = 6 := Option.some.inj ((show Tryd.prog.funcNamed "veil/veillaw07.MsmZips" = some 6 by kernel_rfl).symm.trans hf) |>.symm
  obtain rfl : fn = Tryd.f6 := (Option.some.inj (Tryd.func6.symm.trans hfn)).symm
  refine ⟨by kernel_rfl, fun j t ht => ?_⟩
  rw [Tryd.params6] at ht
  have hm := Array.mem_of_getElem? ht
  have hall : (#[59, 59, 3].all fun u => !Tryd.prog.wantsStandIn u) = true := by kernel_rfl
  exact (show Tryd.prog.wantsStandIn t = false by simpa using Array.all_eq_true_iff_forall_mem.1 hall t hm)

theorem msmZips_holds : Rows.MsmZipsUptoCardSaid :=
  Claim7.holds_tied_plain_at .later [] _ _ _ _ msmZips_said (fun _ h => by cases h) (by kernel_rfl) (fun _ h => by cases h) msmZipsUpto_row_tie rfl ⟨rfl, rfl⟩ (by kernel_rfl) rfl plain (by kernel_rfl)
#print axioms msmZips_holds
end Go.Proofs.YtoakfcihcmmihaaDoor
