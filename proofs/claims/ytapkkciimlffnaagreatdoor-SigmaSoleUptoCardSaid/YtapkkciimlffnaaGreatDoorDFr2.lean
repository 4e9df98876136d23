/-
  Lists over the scalars (msm.Free): each, Neg, Double, Times, Add.
-/
import Derived.Test.YtapkkciimlffnaaGreatDoorDFr
namespace Go.Vc
open Go Go.Proofs Go.RowKit

/-- A function of values, as a function over memory. -/
def cEnc {α : Type} (enc : α → List Value) (dom : α → Prop) (hinj : ∀ a b, dom a → dom b → enc a = enc b → a = b) : Cods α := ⟨fun _ l a => dom a ∧ l = enc a, fun _ _ a b h k => hinj a b h.1 k.1 (h.2.symm.trans k.2)⟩
theorem Keeps1.toW {P : Program} {G : World → Prop} {f : Nat} {α : Type} {enc : α → List Value} {dom : α → Prop} {out : α → Value → Prop} (hinj : ∀ a b, dom a → dom b → enc a = enc b → a = b) (h : Keeps1 P G f (fnP enc dom out)) :
    Keeps1 P G f (fnW (cEnc enc dom hinj) (fun _ _ => True) (fun a _ v _ => out a v)) :=
  ⟨fun _ _ hp => hp.elim, fun args w ⟨a, hrd, _⟩ hg => (h.calls args w ⟨a, hrd.1, hrd.2⟩ hg).mono fun _ w' ⟨v, he, hp, hb⟩ =>
    have hk : KeepsM (fun _ => False) w w' := ⟨hb.os, hb.tape, hb.output, hb.size, fun b hlt _ => hb.block b hlt⟩
    ⟨v, he, ⟨fun a' hr => hp a' hr.1 hr.2, hk⟩, hk⟩⟩

def ann184 : Ann := ⟨[], [21], 70, [], [1, 2], none, [], []⟩
theorem vc184 (X : Ctx) (β : Nat → Nat) (x0 : Value) : (run Tryz.prog ann184 184 [.x (.v 0)] [] [] 2).den X (env0 [x0] X.w0) 2 β 0 (fun _ _ _ => False) = (
  Ask (rAgg 4 x0) fun x2 =>
  AskNew X.w0 fun _ =>
  Ask (rAgg 4 (.agg #[(U 0), (U 0), (U 0), (U 0)])) fun _ =>
  AskNew X.w0 fun b1 =>
  AskF X 21 [x2, x2] fun x4 =>
  Ask (rAgg 4 x4) fun x5 =>
  Ret X X.w0 [b1] [] x5) := by kernel_rfl
def cDbl : Contract := fnP enc1 (· < W256) (fun n v => v = S ((n + n) % lN))
def Tdb : Table := T0.add 21 cAddS
theorem keepTdb : AllKeep Tryz.prog GT Tdb := keepT0.add keepsAdd
theorem keepsDbl : Keeps1 Tryz.prog GT 184 cDbl := by
  refine keepsP (T := Tdb) (A := ann184) inj1 hMix keepTdb hGT (calls_of (by kernel_rfl)) (callsW_of (by kernel_rfl)) fun n w0 hn _ => ⟨[.x (.v 0)], [], [], 2, env0 [S n] w0, fun b => b, 0, rfl, rfl, fun X hX => mem_none hX rfl, fun X hP hS hw hX hR => ?_⟩
  subst hw
  rw [vc184 X]
  rw [ask_aggS]; intro _ _
  rw [ask_zero4]; intro _ _
  refine call_PE hS (T := Tdb) (f := 21) rfl (n, n) ⟨hn, hn⟩ ?_
  rw [ask_aggS]
  exact hR _ _ _ _ rfl

def wLeast : Contract := fnW (cEnc enc1 (· < W256) inj1) (fun _ _ => True) (fun n _ v _ => v = S (n % lN))
def wNeg : Contract := fnW (cEnc enc1 (· < W256) inj1) (fun _ _ => True) (fun n _ v _ => v = S (subL 0 (n % lN)))
def wDbl : Contract := fnW (cEnc enc1 (· < W256) inj1) (fun _ _ => True) (fun n _ v _ => v = S ((n + n) % lN))
def wMul : Contract := fnW (cEnc enc2 dom2 inj2) (fun _ _ => True) (fun p _ v _ => v = S (p.1 * p.2 % lN))
def Tea : Table := ((((T0.add 33 wLeast).add 50 wNeg).add 184 wDbl).add 49 wMul).add 182 cTrimmed
theorem keepTea : AllKeep Tryz.prog GT Tea := ((((keepT0.add (keepsLeast.toW inj1)).add (keepsNeg.toW inj1)).add (keepsDbl.toW inj1)).add (keepsMul.toW inj2)).add keepsTrimmed
theorem call_Fk {X : Ctx} {u : World} {ow : List Nat} {bl : List KB} {KW : Value → World → Prop} (hX : Std X) (hP : X.P = Tryz.prog) (hS : X.S = Tea.spec) (f : Fk) (hf : f.ok) (n : Nat) (hn : n < W256)
    (hK : ∀ w w', KnownV X u ow bl w → Kn X w' → Stp [] w w' → Stp ow u w' → KW (S (f.op n)) w') : AskV X u ow bl false f.val [S n] KW := by
  cases f with
  | least => exact call_V hX hS rfl (fun args w => by rw [hP]; exact enters_of (by kernel_rfl) args w) (T := Tea) (f := 33) rfl n (fun _ _ => ⟨⟨hn, rfl⟩, trivial⟩) fun v w w' hw hk hs hsu hp => by obtain rfl := hp; exact hK w w' hw hk hs hsu
  | neg => exact call_V hX hS rfl (fun args w => by rw [hP]; exact enters_of (by kernel_rfl) args w) (T := Tea) (f := 50) rfl n (fun _ _ => ⟨⟨hn, rfl⟩, trivial⟩) fun v w w' hw hk hs hsu hp => by obtain rfl := hp; exact hK w w' hw hk hs hsu
  | dbl => exact call_V hX hS rfl (fun args w => by rw [hP]; exact enters_of (by kernel_rfl) args w) (T := Tea) (f := 184) rfl n (fun _ _ => ⟨⟨hn, rfl⟩, trivial⟩) fun v w w' hw hk hs hsu hp => by obtain rfl := hp; exact hK w w' hw hk hs hsu
  | mul k => exact call_V hX hS rfl (fun args w => by rw [hP]; exact enters_of (by kernel_rfl) args w) (T := Tea) (f := 49) rfl (k, n) (fun _ _ => ⟨⟨⟨hf, hn⟩, rfl⟩, trivial⟩) fun v w w' hw hk hs hsu hp => by obtain rfl := hp; exact hK w w' hw hk hs hsu

/-- A list of the call's own, trimmed. -/
def Tr (lo : Nat) (w : World) (v : Value) (l : List Nat) : Prop := ∃ x, v = .agg #[x] ∧ w.ownsRow lo 25 4 x (trim l).length ((trim l).flatMap encS)
def cEach : Contract := fnW cEa (fun p _ => p.2.length ≤ mx) (fun p w v w' => Tr w.heap.size w' v (p.2.map p.1.op))
theorem zero_made (n : Nat) : (madeCells (Value.agg #[U 0, U 0, U 0, U 0]).cells (n * 4)).toList = (List.replicate n 0).flatMap encS := made_enc (α := Nat) (enc := encS) (a := 0) (s := 4) (by kernel_rfl) rfl (by decide) n
def ann183 : Ann := ⟨[(3, ([15], []))], [], 70, [(182, false)], [7], some false, [], []⟩
def kb183_0 (b0 b1 : Nat) (x4 : Value) : List KB := [⟨b0, true, 32, #[x4]⟩, ⟨b1, true, 32, #[(.slice none 0 0)]⟩]
def kb183_1 (b0 b1 b2 : Nat) (x4 x14 : Value) : List KB := [⟨b0, true, 32, #[x4]⟩, ⟨b1, true, 32, #[(.slice none 0 0)]⟩, ⟨b2, true, 25, (aggArr x14)⟩]
theorem vc183 (X : Ctx) (β : Nat → Nat) (x0 x1 : Value) : (run Tryz.prog ann183 183 [.x (.v 0), .x (.v 1)] [] [] 3).den X (env0 [x0, x1] X.w0) 3 β 0 (fun _ _ _ => False) = (
  Ask (rAgg 1 x0) fun x3 =>
  Ask (rSel (aggArr x3) 0 1 false) fun x4 =>
  AskNew X.w0 fun b0 =>
  AskNew X.w0 fun b1 =>
  Ask (rLen X.P 22 x4) fun x5 =>
  AskO X X.w0 [] (kb183_0 b0 b1 x4) false (Go.Op.makeSlice 22 (Go.Operand.tmp 10) (Go.Operand.tmp 10)) 22 [(10, x5), (10, x5)] fun x6 w6 =>
  Ask (rLen X.P 22 x4) fun x7 =>
  ∃ (I0 : List Value → World → Prop) (μ0 : List Value → World → Nat), (∀ w, KnownV X w6 [] (kb183_0 b0 b1 x4) w → I0 [(J 0)] w) ∧ ∀ x8 w9, I0 [x8] w9 →
    Ask (rBin X.P .lss 3 false false x8 x7) fun x10 =>
    (∃ t, x10 = .bool t) ∧ (x10 = .bool true →
      Ask (rIad X.P 22 x4 x8) fun x11 =>
      Ask (rLoad X w9 [] 25 x11) fun x12 =>
      Ask (rAgg 4 (.agg #[(U 0), (U 0), (U 0), (U 0)])) fun _ =>
      AskNew w9 fun b2 =>
      Ask (rAgg 4 x12) fun x14 =>
      AskV X w9 [b2] (kb183_1 b0 b1 b2 x4 x14) false x1 [x14] fun x15 w15 =>
      Ask (rIad X.P 22 x6 x8) fun x16 =>
      AskO X w15 [] (kb183_1 b0 b1 b2 x4 x14) true (Go.Op.store 25 (Go.Operand.tmp 25) (Go.Operand.tmp 24)) 0 [(25, x16), (24, x15)] fun _ w17 =>
      Ask (rBin X.P .add 3 false true x8 (J 1)) fun x18 =>
      Again X w17 [] [] fun w => I0 [x18] w ∧ μ0 [x18] w < μ0 [x8] w9) ∧ (x10 = .bool false →
      AskW X w9 [] (kb183_0 b0 b1 x4) false 182 [x6] fun x11 w11 =>
      Ask (rAgg 1 x11) fun x12 =>
      Ask (rSel (aggArr x12) 0 1 false) fun x13 =>
      Ret X w11 [b1] [] (.agg #[x13]))) := by kernel_rfl
theorem keepsEach : Keeps1 Tryz.prog GT 183 cEach := by
  refine keepsW (T := Tea) (A := ann183) hMix keepTea hGT (calls_of (by kernel_rfl)) (callsW_of (by kernel_rfl)) fun args ⟨f, l⟩ w0 hrd hpre hg => ?_
  obtain ⟨x, rfl, hl, hf⟩ := hrd
  dsimp only at hl hf hpre
  replace hl : Ls encS okS w0 x l := hl
  simp only [mx] at hpre
  refine ⟨[.x (.v 0), .x (.v 1)], [], [], 3, env0 [.agg #[x], f.val] w0, fun b => b, 0, rfl, rfl, fun X hX => mem_none hX rfl, fun X hP hS hw hX hR => ?_⟩
  subst hw; try dsimp only at hR
  rw [vc183 X]
  refine a_agg (cs := [x]) rfl (by simp [slAt_one hl.1]) (a_sel1 rfl ?_)
  intro b0 hb0 b1 hb1
  refine a_len hP tyS' hl.1 ?_
  refine a_make (n := l.length) hX hP tyS' rfl rfl (by omega) (by simp only [maxLen]; omega) fun g w6' w6 hw6 k6 s6 su6 o6 => ?_
  rw [zero_made] at o6
  have lo0 : b0 < w6'.heap.size := hw6.low (by simp [kb183_0])
  have lo1 : b1 < w6'.heap.size := hw6.low (by simp [kb183_0])
  have hg := o6.lt g rfl
  refine a_len hP tyS' hl.1 ?_
  have hsl : (l.map f.op).length = l.length := by simp
  refine ⟨fun a w => ∃ i, a = [J i] ∧ i ≤ l.length ∧ w.ownsRow w6'.heap.size 25 4 (.slice (some ⟨g, 0, none⟩) l.length l.length) l.length (((l.map f.op).take i ++ List.replicate (l.length - i) 0).flatMap encS) ∧ Kn X w, fun a _ => match a with | [i] => l.length - intNat i | _ => 0,
    fun w hw => ⟨0, rfl, Nat.zero_le _, own_stp0 o6 hw.stp, hw.kn⟩, ?_⟩
  rintro _ w9 ⟨i, he, hi, o9, k9⟩
  simp only [List.cons.injEq, and_true] at he
  subst he
  have hg9 := o9.lt g rfl
  rw [ask_lssN]
  refine a_ifD (fun hlt => ?_) fun hge => ?_
  · have hl9 := hl.1.stp0 (k9.stp0 hX)
    refine a_iadN hP tyS' hl9 hlt ?_
    refine a_load_agg (cs := encS l[i]) k9 hl9 (hP ▸ aggS) (by rw [hP]; exact szS) (fun _ _ => List.not_mem_nil) (by simp [encS]) (flat_at encS_len l i _ (List.getElem?_eq_getElem hlt)) ?_
    rw [ask_zero4]
    intro b2 hb2
    rw [agg_encS, ask_aggS]
    refine call_Fk hX hP hS f hf l[i] (hl.2 _ (List.getElem_mem hlt)) fun w15' w15 hw15 k15 s15 su15 => ?_
    have o15 := own_stp o9 su15 (own_off o9 (all1 hb2))
    refine a_iadN hP tyS' (own_slAt o15) hlt ?_
    refine a_store (vs := encS (f.op l[i])) hX hP szS rfl rfl rfl rfl (one_encS _) o15 hw6.sz0 (by omega) (by decide) (fun _ _ => List.not_mem_nil) (fun _ _ q hq => by cases hq; simp [kb183_1]; omega) fun _ w16 w17 hw16 k17 s17 su17 o17 => ?_
    rw [ask_succ (by omega)]
    intro w18 hw18
    refine ⟨⟨i + 1, rfl, hlt, ?_, hw18.kn⟩, by simp [intNat]; omega⟩
    have e : lset (((l.map f.op).take i ++ List.replicate (l.length - i) 0).flatMap encS) (i * 4) (encS (f.op l[i])) = ((l.map f.op).take (i + 1) ++ List.replicate (l.length - (i + 1)) 0).flatMap encS := by
      have hx : f.op l[i] = (l.map f.op).getD i 0 := by rw [List.getD_eq_getElem?_getD, List.getElem?_map, List.getElem?_eq_getElem hlt]; rfl
      rw [lset_flat encS_len _ _ _ (by simp; omega), hx, show l.length - i = l.length - (i + 1) + 1 by omega, out_set (by rw [hsl]; exact hlt)]
    rw [e] at o17
    exact own_stp0 o17 hw18.stp
  · obtain rfl : i = l.length := by omega
    rw [List.take_of_length_le (by omega), Nat.sub_self, List.replicate_zero, List.append_nil] at o9
    have o9' : w9.ownsRow w6'.heap.size 25 4 (.slice (some ⟨g, 0, none⟩) (l.map f.op).length l.length) (l.map f.op).length ((l.map f.op).flatMap encS) := by rw [hsl]; exact o9
    refine call_W hX hS (T := Tea) (f := 182) rfl (g, l.length, l.map f.op) (fun w hw => ⟨⟨by rw [hsl], by rw [hsl]; exact (own_slAt o9).stp0 hw.stp, fun y hy => ?_⟩, fun y hy => ?_⟩) fun v w11' w11 hw11 k11 s11 su11 hv => ?_
    · obtain ⟨z, _, rfl⟩ := List.mem_map.1 hy; exact Nat.lt_trans (f.lt z) (by decide)
    · obtain ⟨z, _, rfl⟩ := List.mem_map.1 hy; exact f.lt z
    obtain rfl := hv
    have o11 := own_tr (l := l.map f.op) (cap := l.length) (g := g) (own_stp0 o9' su11)
    have b1w : b1 < w6'.heap.size := lo1
    refine a_agg rfl (by simp [own_one o11]) (a_sel1 rfl ?_)
    refine hR _ _ _ _ fun w hw => ⟨_, rfl, own_mono (own_stp o11 hw.stp (off_own o11 (all1 b1w))) hw6.sz0⟩
#print axioms keepsEach
end Go.Vc
