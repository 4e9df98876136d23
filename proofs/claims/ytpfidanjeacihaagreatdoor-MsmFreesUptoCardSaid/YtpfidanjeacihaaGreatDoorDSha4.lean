import Derived.Test.YtpfidanjeacihaaGreatDoorDSha2
/-
  SHA-512: a hash that is written to, on the program's side.
-/
namespace Go.Vc
open Go Go.Proofs Go.RowKit

/-! ### blocks -/
def blk (p : List Nat) : Nat → List Nat
  | 0 => IV
  | j + 1 => cpr (blk p j) ((p.drop (128 * j)).take 128)
theorem blk_len (p : List Nat) : ∀ j, (blk p j).length = 8
  | 0 => rfl
  | j + 1 => cpr_len (blk_len p j)
theorem blk_app (p r : List Nat) : ∀ j, 128 * j ≤ p.length → blk (p ++ r) j = blk p j
  | 0, _ => rfl
  | j + 1, h => by
    rw [blk, blk, blk_app p r j (by omega), List.drop_append_of_le_length (by omega), List.take_append_of_le_length (by rw [List.length_drop]; omega)]
/-- What a state knows of the bytes p that were written. -/
structure Hl (p hs bs : List Nat) : Prop where
  hs : hs = blk p (p.length / 128)
  bs : bs.take (p.length % 128) = p.drop (128 * (p.length / 128))
theorem Hl.part {p hs bs bs' r : List Nat} {m : Nat} (h : Hl p hs bs) (hr : r.length = m) (hm : p.length % 128 + m < 128) (hb : bs'.take (p.length % 128 + m) = bs.take (p.length % 128) ++ r) : Hl (p ++ r) hs bs' := by
  have e1 : (p ++ r).length / 128 = p.length / 128 := by rw [List.length_append, hr]; omega
  have e2 : (p ++ r).length % 128 = p.length % 128 + m := by rw [List.length_append, hr]; omega
  refine ⟨by rw [e1, blk_app _ _ _ (by omega)]; exact h.hs, ?_⟩
  rw [e1, e2, hb, h.bs, List.drop_append_of_le_length (by omega)]
theorem Hl.full {p hs bs bs' r : List Nat} {m : Nat} (h : Hl p hs bs) (hr : r.length = m) (hm : p.length % 128 + m = 128) (hl : bs'.length = 128) (hb : bs'.take (p.length % 128 + m) = bs.take (p.length % 128) ++ r) : Hl (p ++ r) (cpr hs bs') bs' := by
  have e1 : (p ++ r).length / 128 = p.length / 128 + 1 := by rw [List.length_append, hr]; omega
  have e2 : (p ++ r).length % 128 = 0 := by rw [List.length_append, hr]; omega
  have e3 : bs' = ((p ++ r).drop (128 * (p.length / 128))).take 128 := by
    rw [List.drop_append_of_le_length (by omega), ← h.bs, ← hb, hm, List.take_take, Nat.min_self, List.take_of_length_le (by omega)]
  refine ⟨?_, ?_⟩
  · rw [e1, blk, blk_app _ _ _ (by omega), ← e3, h.hs]
  · rw [e1, e2, List.take_zero, List.drop_of_length_le (by rw [List.length_append, hr]; omega)]
theorem Hl.nil : Hl [] IV (List.replicate 128 0) := ⟨rfl, rfl⟩

/-! ### a new one -/
def TN : Table := T0
theorem keepTN : AllKeep Tryz.prog GH TN := keepH0
def ann103 : Ann := ⟨[], [], 70, [], [], none, [3], []⟩
theorem vc103 (X : Ctx) (β : Nat → Nat)  : (run Tryz.prog ann103 103 [] [] [] 1).den X (env0 [] X.w0) 1 β 0 (fun _ _ _ => False) = (
  Ask (rLoad X X.w0 [] 165 (.pointer (some ⟨2, 0, none⟩))) fun x1 =>
  Ask (rAgg 8 x1) fun x2 =>
  Ask (rSel (aggArr x2) 0 1 false) fun x3 =>
  Ask (rSel (aggArr x2) 1 1 false) fun x4 =>
  Ask (rSel (aggArr x2) 2 1 false) fun x5 =>
  Ask (rSel (aggArr x2) 3 1 false) fun x6 =>
  Ask (rSel (aggArr x2) 4 1 false) fun x7 =>
  Ask (rSel (aggArr x2) 5 1 false) fun x8 =>
  Ask (rSel (aggArr x2) 6 1 false) fun x9 =>
  Ask (rSel (aggArr x2) 7 1 false) fun x10 =>
  AskO X X.w0 [] [] false (Go.Op.box 203 (Go.Operand.tmp 2)) 171 [(2, (.agg #[x3, x4, x5, x6, x7, x8, x9, x10, (.int .u8 0), (.int .u8 0), (.int .u8 0), (.int .u8 0), (.int .u8 0), (.int .u8 0), (.int .u8 0), (.int .u8 0), (.int .u8 0), (.int .u8 0), (.int .u8 0), (.int .u8 0), (.int .u8 0), (.int .u8 0), (.int .u8 0), (.int .u8 0), (.int .u8 0), (.int .u8 0), (.int .u8 0), (.int .u8 0), (.int .u8 0), (.int .u8 0), (.int .u8 0), (.int .u8 0), (.int .u8 0), (.int .u8 0), (.int .u8 0), (.int .u8 0), (.int .u8 0), (.int .u8 0), (.int .u8 0), (.int .u8 0), (.int .u8 0), (.int .u8 0), (.int .u8 0), (.int .u8 0), (.int .u8 0), (.int .u8 0), (.int .u8 0), (.int .u8 0), (.int .u8 0), (.int .u8 0), (.int .u8 0), (.int .u8 0), (.int .u8 0), (.int .u8 0), (.int .u8 0), (.int .u8 0), (.int .u8 0), (.int .u8 0), (.int .u8 0), (.int .u8 0), (.int .u8 0), (.int .u8 0), (.int .u8 0), (.int .u8 0), (.int .u8 0), (.int .u8 0), (.int .u8 0), (.int .u8 0), (.int .u8 0), (.int .u8 0), (.int .u8 0), (.int .u8 0), (.int .u8 0), (.int .u8 0), (.int .u8 0), (.int .u8 0), (.int .u8 0), (.int .u8 0), (.int .u8 0), (.int .u8 0), (.int .u8 0), (.int .u8 0), (.int .u8 0), (.int .u8 0), (.int .u8 0), (.int .u8 0), (.int .u8 0), (.int .u8 0), (.int .u8 0), (.int .u8 0), (.int .u8 0), (.int .u8 0), (.int .u8 0), (.int .u8 0), (.int .u8 0), (.int .u8 0), (.int .u8 0), (.int .u8 0), (.int .u8 0), (.int .u8 0), (.int .u8 0), (.int .u8 0), (.int .u8 0), (.int .u8 0), (.int .u8 0), (.int .u8 0), (.int .u8 0), (.int .u8 0), (.int .u8 0), (.int .u8 0), (.int .u8 0), (.int .u8 0), (.int .u8 0), (.int .u8 0), (.int .u8 0), (.int .u8 0), (.int .u8 0), (.int .u8 0), (.int .u8 0), (.int .u8 0), (.int .u8 0), (.int .u8 0), (.int .u8 0), (.int .u8 0), (.int .u8 0), (.int .u8 0), (.int .u8 0), (.int .u8 0), (.int .u8 0), (.int .u8 0), (.int .u8 0), (.int .u8 0), (.int .u8 0), (.int .u8 0), (.int .u8 0), (.int .u8 0), (J 0), (.bool true)]))] fun x11 w11 =>
  Ret X w11 [] [] x11) := by kernel_rfl
def cNew : Contract := fnW Cods.nil (fun _ _ => True) (fun _ w v w' => ∃ b, v = PSt b ∧ w.heap.size ≤ b ∧ StAt w' b IV (List.replicate 128 0) 0)
theorem getU {l : List Nat} {j : Nat} {c : Value} (h : (l.map U)[j]? = some c) : j < l.length ∧ c = U (l.getD j 0) := by
  rw [List.getElem?_map] at h
  cases hj : l[j]? with
  | none => rw [hj] at h; cases h
  | some a =>
    rw [hj] at h
    refine ⟨(List.getElem?_eq_some_iff.1 hj).1, ?_⟩
    rw [List.getD_eq_getElem?_getD, hj]
    simpa using h.symm
theorem keepsNew : Keeps1 Tryz.prog GH 103 cNew := by
  refine keepsW (T := TN) (A := ann103) hMix keepTN hGH (calls_of (by kernel_rfl)) (callsW_of (by kernel_rfl)) fun args _ w0 hrd hpre hg => ?_
  obtain rfl : args = [] := hrd
  refine ⟨[], [], [], 1, env0 [] w0, fun b => b, 0, rfl, rfl, fun X hX => mem_none hX rfl, fun X hP hS hw hX hR => ?_⟩
  subst hw; try dsimp only at hR
  rw [vc103 X]
  rw [ask_load_agg (cs := IV.map U) (hP ▸ aggW8) (by rw [hP, szW8]; rfl) hg.i1.lt List.not_mem_nil (fun j c hj => by rw [(getU hj).2, Nat.zero_add]; exact hg.i1.at_ j (getU hj).1) (kn0 X).some]
  have foldU : Value.agg (IV.map U).toArray = UA IV := rfl
  rw [foldU]
  refine a_aggU rfl ?_
  iterate 8 refine a_selU rfl (by decide) ?_
  refine a_box hX.n rfl fun r w w' hw hk hs hsu hsz hrow hsz' => ?_
  refine hR _ _ _ _ fun w2 hw2 => ⟨r, rfl, by have := hw.size; omega, ?_⟩
  refine StAt.stp ?_ hw2.stp List.not_mem_nil
  exact ⟨hrow, rfl, by simp, by decide, fun x hx => by rw [List.eq_of_mem_replicate hx]; decide⟩

/-! ### is there one -/
theorem aggBo : agg? Tryz.prog 4 = some false := by kernel_rfl
theorem eq_nilptr {P : Program} {t e : TypeId} {a : Addr} {w : World} (hu : P.underlying t = some (.pointer e)) (d : Nat) : (Op.equalIn (d + 1) t (.pointer (some a)) (.pointer none)).run P w = .ok false w := by
  simp only [Op.equalIn]
  rw [Sem.run_bind, run_underlying hu]
  rfl
theorem ask_eq_nilptr {P : Program} {t e : TypeId} {cx cy : Bool} {a : Addr} {K : Value → Prop} (hu : P.underlying t = some (.pointer e)) : Ask (rBin P .eql t cx cy (.pointer (some a)) (.pointer none)) K = K (.bool false) :=
  ask_eq (runs_iff fun w => by
    have e : (Op.equal t (.pointer (some a)) (.pointer none)).run P w = .ok false w := eq_nilptr hu _
    simp [binSem, eqGuard, binOp, e])
theorem ptSt : Tryz.prog.underlying 171 = some (.pointer 203) := by kernel_rfl
def ann137 : Ann := ⟨[], [], 70, [], [], none, [], []⟩
theorem vc137 (X : Ctx) (β : Nat → Nat) (x0 : Value) : (run Tryz.prog ann137 137 [.x (.v 0)] [] [] 2).den X (env0 [x0] X.w0) 2 β 0 (fun _ _ _ => False) = (
  Ask (rBin X.P .eql 171 false true x0 (.pointer none)) fun x2 =>
  AskG [(x2, false)] (rGen X.P (Go.Op.nilCheck (Go.Operand.tmp 6)) 0 [(6, x0)]) fun x3 =>
  AskG [(x2, false)] (rFad X.P 203 x3 3) fun x4 =>
  AskG [(x2, false)] (rLoad X X.w0 [] 4 x4) fun x5 =>
  AskG [(x2, false)] (rUn X.P .not x5) fun x6 =>
  Ask (rPick x2 (.bool true) x6) fun x7 =>
  Ret X X.w0 [] [] x7) := by kernel_rfl
def cNone : Contract := fnW cSt (fun _ _ => True) (fun _ _ v _ => v = .bool false)
theorem keepsNone : Keeps1 Tryz.prog GH 137 cNone := by
  refine keepsW (T := TN) (A := ann137) hMix keepTN hGH (calls_of (by kernel_rfl)) (callsW_of (by kernel_rfl)) fun args ⟨b, hs, bs, n⟩ w0 hrd hpre hg => ?_
  obtain ⟨rfl, hst⟩ := hrd
  dsimp only at hst
  refine ⟨[.x (.v 0)], [], [], 2, env0 [PSt b] w0, fun b => b, 0, rfl, rfl, fun X hX => mem_none hX rfl, fun X hP hS hw hX hR => ?_⟩
  subst hw; try dsimp only at hR
  rw [vc137 X]
  rw [ask_eq_nilptr (hP ▸ ptSt)]
  refine a_G_on (by simp [condsV]) (a_nilCheck ?_)
  refine a_G_on (by simp [condsV]) (a_fadP hP fdMd ?_)
  refine a_G_on (by simp [condsV]) (a_ldP (kn0 X) (hP ▸ aggBo) hst.row List.not_mem_nil (by rw [List.getElem?_toArray]; exact (stC_n hst.l8 hst.l128).2) ?_)
  refine a_G_on (by simp [condsV]) ?_
  rw [ask_not, ask_pickF]
  exact hR _ _ _ _ fun _ _ => rfl
end Go.Vc

/-
  SHA-512: bytes are written, on the program's side.
-/
namespace Go.Vc
open Go Go.Proofs Go.RowKit

/-! ### bytes -/
def encC (c : Nat) : List Value := [B c]
def okBy (c : Nat) : Prop := c < 256
theorem encC_len (c : Nat) : (encC c).length = 1 := rfl
theorem encC_inj {a b : Nat} (h : encC a = encC b) : a = b := B_inj (by simpa [encC] using h)
def cBs : Cod (List Nat) := cL encC okBy 1 encC_len (fun _ _ _ _ h => encC_inj h)
theorem flatC (l : List Nat) : l.flatMap encC = l.map B := by
  induction l with
  | nil => rfl
  | cons a r ih => simp [encC, ih]
/-- Bytes that lie there. -/
structure Bs (w : World) (v : Value) (l : List Nat) : Prop where
  at_ : SlAt w v l.length (l.map B)
  lt : ∀ x ∈ l, x < 256
theorem bs_rd {w : World} {v : Value} {l : List Nat} : cBs.rd w v l ↔ Bs w v l :=
  ⟨fun h => ⟨by have := h.1; rwa [flatC] at this, h.2⟩, fun h => ⟨by rw [flatC]; exact h.1, h.2⟩⟩
theorem Bs.stp {u w : World} {v : Value} {l ex : List Nat} (h : Bs u v l) (hs : Stp ex u w) (hb : ∀ b, v.ownBlock = some b → b ∉ ex) : Bs w v l := ⟨h.at_.stp hs hb, h.lt⟩
theorem Bs.stp0 {u w : World} {v : Value} {l : List Nat} (h : Bs u v l) (hs : Stp [] u w) : Bs w v l := h.stp hs fun _ _ => List.not_mem_nil
theorem Bs.len {w : World} {v : Value} {l : List Nat} (h : Bs w v l) : l.length ≤ maxLen := by
  rcases h.1 with ⟨_, h, _⟩ | ⟨_, _, _, _, h, _⟩
  · rw [h]; exact Nat.zero_le _
  · omega
/-- What is left behind n bytes. -/
theorem Bs.rest {w : World} {v : Value} {l : List Nat} {m : Nat} (h : Bs w v l) (hm : m ≤ l.length) : Bs w (SubV v m l.length 1) (l.drop m) := by
  have := slAt_sub (s := 1) h.1 hm (Nat.le_refl _)
  refine ⟨?_, fun x hx => h.lt x (List.mem_of_mem_drop hx)⟩
  rw [List.length_drop, List.map_drop]
  rwa [Nat.mul_one, Nat.mul_one, List.take_of_length_le (by simp)] at this

/-! ### bytes are put into a state -/
def bput (bs : List Nat) (k : Nat) (ys : List Nat) : List Nat := bs.take k ++ ys ++ bs.drop (k + ys.length)
theorem bput_len {bs ys : List Nat} {k : Nat} (h : k + ys.length ≤ bs.length) : (bput bs k ys).length = bs.length := by
  simp only [bput, List.length_append, List.length_take, List.length_drop]; omega
theorem bput_take {bs ys : List Nat} {k : Nat} (h : k + ys.length ≤ bs.length) : (bput bs k ys).take (k + ys.length) = bs.take k ++ ys := by
  unfold bput
  rw [List.take_append_of_le_length (by simp only [List.length_append, List.length_take]; omega), List.take_of_length_le (by simp only [List.length_append, List.length_take]; omega)]
theorem bput_lt {bs ys : List Nat} {k : Nat} (h : ∀ x ∈ bs, x < 256) (hy : ∀ x ∈ ys, x < 256) : ∀ x ∈ bput bs k ys, x < 256 := fun x hx => by
  simp only [bput, List.mem_append] at hx
  rcases hx with (h1 | h1) | h1
  · exact h x (List.mem_of_mem_take h1)
  · exact hy x h1
  · exact h x (List.mem_of_mem_drop h1)
theorem splice_b {hs bs ys : List Nat} {n k : Nat} (h8 : hs.length = 8) (h : k + ys.length ≤ bs.length) : splice (stC hs bs n).toArray (8 + k) (ys.map B) = (stC hs (bput bs k ys) n).toArray := by
  unfold splice stC bput
  congr 1
  rw [List.append_assoc (hs.map U), List.take_append, List.drop_append, List.length_map, List.length_map, h8, Nat.add_sub_cancel_left, show 8 + k + ys.length - 8 = k + ys.length by omega, List.take_of_length_le (by simp [h8]), List.drop_of_length_le (by simp [h8]; omega),
    List.take_append_of_le_length (by simp; omega), List.drop_append_of_le_length (by simp; omega)]
  simp [List.map_take, List.map_drop]
theorem splice_n {hs bs : List Nat} {n n' : Nat} (h8 : hs.length = 8) (h128 : bs.length = 128) : splice (stC hs bs n).toArray 136 [J n'] = (stC hs bs n').toArray := by
  unfold splice stC
  congr 1
  have hl : (hs.map U ++ bs.map B).length = 136 := by simp [h8, h128]
  rw [List.take_append_of_le_length (by omega), List.take_of_length_le (by omega), List.drop_append, List.drop_of_length_le (by simp; omega), hl]
  simp
theorem StAt.bytes {u w : World} {b : Nat} {hs bs ys : List Nat} {n o k : Nat} (h : StAt u b hs bs n) (ho : o = 8 + k) (hr : w.heap[b]? = some (.cells (splice (stC hs bs n).toArray o (ys.map B)) 203 (0, 0))) (hk : k + ys.length ≤ 128) (hy : ∀ x ∈ ys, x < 256) : StAt w b hs (bput bs k ys) n := by
  have hk' : k + ys.length ≤ bs.length := by rw [h.l128]; exact hk
  subst ho
  exact ⟨by rw [hr, splice_b h.l8 hk'], h.l8, by rw [bput_len hk']; exact h.l128, h.hlt, bput_lt h.blt hy⟩
theorem StAt.num {u w : World} {b : Nat} {hs bs : List Nat} {n n' : Nat} (h : StAt u b hs bs n) (hr : w.heap[b]? = some (.cells (splice (stC hs bs n).toArray 136 [J n']) 203 (0, 0))) : StAt w b hs bs n' :=
  ⟨by rw [hr, splice_n h.l8 h.l128], h.l8, h.l128, h.hlt, h.blt⟩

/-! ### rules -/
section
variable {X : Ctx} {P : Program} {K : Value → Prop}
theorem a_slcL {t e s bytes n lo : Nat} {z v : Value} {xs : List Value} {w : World} (hP : X.P = P) (hT : ElTy P t e s bytes z) (h : SlAt w v n xs) (h1 : lo ≤ n) (hK : K (SubV v lo n s)) : Ask (rSlc X.P t v (some (J lo)) none none) K := by
  obtain ⟨a, cap, rfl, hn⟩ := slAt_form h
  subst hP
  have hr : ∀ w, (Instr.sliceAt t (.slice a n cap) (some (J lo)) none none).run X.P w = .ok (SubV (.slice a n cap) lo n s) w := fun w => by
    have ht : X.P.underlying t = some (.slice (X.P.elem t)) := by rw [hT.elem]; exact hT.sl
    rw [run_sliceAt_slice w t _ _ _ _ ht, run_slice_l w t a n cap ht .i64 lo (by omega) (by omega), hT.elem, run_sz hT.sz w]
    simp [SubV]
  have e : Ask (rSlc X.P t (.slice a n cap) (some (J lo)) none none) K = K (SubV (.slice a n cap) lo n s) := ask_eq (runs_iff hr)
  rw [e]; exact hK
theorem call_WN {α : Type} {T : Table} {f : Nat} {c : Cods α} {pre : α → World → Prop} {post : α → World → Value → World → Prop} {u : World} {ow : List Nat} {bl : List KB} {md : Bool} {args : List Value} {K : Value → World → Prop}
    (hX : StdN X) (hS : X.S = T.spec) (hT : T f = fnW c pre post) (a : α) (hrd : ∀ w, KnownV X u ow bl w → c.rd w args a ∧ pre a w)
    (hK : ∀ v w w', KnownV X u ow bl w → Kn X w' → Stp [] w w' → Stp ow u w' → post a w v w' → K v w') : AskW X u ow bl md f args K := by
  have h1 : ∀ w, X.S.preW f args w = (fnW c pre post).preW args w := fun w => by rw [hS]; show (T f).preW _ _ = _; rw [hT]
  have h2 : ∀ w v w', X.S.postW f args w v w' = (fnW c pre post).postW args w v w' := fun w v w' => by rw [hS]; show (T f).postW _ _ _ _ = _; rw [hT]
  have h3 : ∀ w b, X.S.modW f args w b = False := fun w b => by rw [hS]; show (T f).modW _ _ _ = _; rw [hT]; rfl
  refine ask_callW (fun w hw => ⟨by rw [h1]; exact ⟨a, hrd w hw⟩, fun b hb => by rw [h3] at hb; exact hb.elim⟩) fun w v w' hw hp => ?_
  rw [h2] at hp
  obtain ⟨hp, hk⟩ := hp
  have hs := KeepsM.stp hk
  exact hK v w w' hw (knN hX hw hs (fun _ h => by cases h) hk.os hk.tape hk.output) hs (by simpa using hw.stp.trans hs) (hp a (hrd w hw).1)
end

theorem szB1 : (Tryz.prog.info? 5).map (·.size) = some 1 := by kernel_rfl
theorem szI : sz Tryz.prog 3 = some 1 := by kernel_rfl
theorem aggI : agg? Tryz.prog 3 = some false := by kernel_rfl
def lenV : Value → Nat | .slice _ n _ => n | _ => 0
theorem lenV_of {w : World} {v : Value} {n : Nat} {xs : List Value} (h : SlAt w v n xs) : lenV v = n := by
  obtain ⟨a, cap, rfl, _⟩ := slAt_form h; rfl

/-! ### bytes are written -/
def ann104 : Ann := ⟨[(1, ([1], []))], [], 70, [(137, false), (138, true)], [], none, [], []⟩
theorem vc104 (X : Ctx) (β : Nat → Nat) (x0 x1 : Value) : (run Tryz.prog ann104 104 [.x (.v 0), .x (.v 1)] [] [] 3).den X (env0 [x0, x1] X.w0) 3 β 0 (fun _ _ _ => False) = (
  AskW X X.w0 [] [] false 137 [x0] fun x3 w3 =>
  AskG [(x3, false)] (rLen X.P 114 x1) fun x4 =>
  AskG [(x3, false)] (rGen X.P (Go.Op.nilCheck (Go.Operand.tmp 11)) 0 [(11, x0)]) fun x5 =>
  AskG [(x3, false)] (rFad X.P 203 x5 2) fun x6 =>
  AskG [(x3, false)] (rLoad X w3 [] 3 x6) fun x7 =>
  AskG [(x3, false)] (rBin X.P .sub 3 true false (J 1152921504606846976) x7) fun x8 =>
  AskG [(x3, false)] (rBin X.P .gtr 3 false false x4 x8) fun x9 =>
  Ask (rPick x3 (.bool true) x9) fun x10 =>
  (∃ t, x10 = .bool t) ∧ (x10 = .bool true →
    Ret X w3 [] [] (.tuple #[])) ∧ (x10 = .bool false →
    ∃ (I0 : List Value → World → Prop) (μ0 : List Value → World → Nat), (∀ w, KnownV X w3 [] [] w → I0 [x1] w) ∧ ∀ x11 w12, I0 [x11] w12 →
      Ask (rLen X.P 114 x11) fun x13 =>
      Ask (rBin X.P .gtr 3 false true x13 (J 0)) fun x14 =>
      (∃ t, x14 = .bool t) ∧ (x14 = .bool true →
        Ask (rGen X.P (Go.Op.nilCheck (Go.Operand.tmp 21)) 0 [(21, x0)]) fun x15 =>
        Ask (rFad X.P 203 x15 2) fun x16 =>
        Ask (rLoad X w12 [] 3 x16) fun x17 =>
        Ask (rBin X.P .rem 3 false true x17 (J 128)) fun x18 =>
        Ask (rGen X.P (Go.Op.nilCheck (Go.Operand.tmp 26)) 0 [(26, x0)]) fun x19 =>
        Ask (rFad X.P 203 x19 1) fun x20 =>
        Ask (rSlc X.P 201 x20 (some x18) none none) fun x21 =>
        AskO X w12 [] [] true (Go.Op.call { callee := Go.Callee.builtin Go.Builtin.copy, args := #[Go.Operand.tmp 30, Go.Operand.tmp 31], argTypes := #[114, 114] }) 3 [(30, x21), (31, x11)] fun x22 w22 =>
        Ask (rSlc X.P 114 x11 (some x22) none none) fun x23 =>
        Ask (rGen X.P (Go.Op.nilCheck (Go.Operand.tmp 36)) 0 [(36, x0)]) fun x24 =>
        Ask (rFad X.P 203 x24 2) fun x25 =>
        Ask (rLoad X w22 [] 3 x25) fun x26 =>
        Ask (rBin X.P .add 3 false false x26 x22) fun x27 =>
        Ask (rGen X.P (Go.Op.nilCheck (Go.Operand.tmp 36)) 0 [(36, x0)]) fun x28 =>
        Ask (rFad X.P 203 x28 2) fun x29 =>
        AskO X w22 [] [] true (Go.Op.store 3 (Go.Operand.tmp 43) (Go.Operand.tmp 41)) 0 [(43, x29), (41, x27)] fun _ w30 =>
        Ask (rBin X.P .add 3 false false x18 x22) fun x31 =>
        Ask (rBin X.P .eql 3 false true x31 (J 128)) fun x32 =>
        (∃ t, x32 = .bool t) ∧ (x32 = .bool true →
          AskW X w30 [] [] true 138 [x0] fun _ w33 =>
          Again X w33 [] [] fun w => I0 [x23] w ∧ μ0 [x23] w < μ0 [x11] w12) ∧ (x32 = .bool false →
          Again X w30 [] [] fun w => I0 [x23] w ∧ μ0 [x23] w < μ0 [x11] w12)) ∧ (x14 = .bool false →
        Ret X w12 [] [] (.tuple #[])))) := by kernel_rfl
def cWr : Cods ((Nat × List Nat × List Nat × Nat) × List Nat) := ⟨fun w l p => ∃ x, l = [PSt p.1.1, x] ∧ cSt.rd w [PSt p.1.1] p.1 ∧ Bs w x p.2 ∧ ∀ g, x.ownBlock = some g → p.2 ≠ [] → g ≠ p.1.1, fun w l ⟨a, r⟩ ⟨a', r'⟩ ⟨x, e, h, k, _⟩ ⟨x', e', h', k', _⟩ => by
  rw [e] at e'
  simp only [List.cons.injEq, Value.pointer.injEq, Option.some.injEq, Addr.mk.injEq, and_true] at e'
  obtain ⟨e1, rfl⟩ := e'
  dsimp only at h h' e1
  rw [← e1] at h'
  obtain rfl := cSt.inj _ _ _ _ h h'
  exact Prod.ext rfl (cBs.inj _ _ _ _ (bs_rd.2 k) (bs_rd.2 k'))⟩
def Twr : Table := (T0.add 137 cNone).add 138 cTake
theorem keepTwr : AllKeep Tryz.prog GH Twr := (keepH0.add keepsNone).add keepsTake
def cWrite : Contract := fnM cWr (fun p _ => p.1.1 ∉ tabs ∧ p.1.2.2.2 + p.2.length ≤ 2 ^ 60)
  (fun p _ v w' => v = .tuple #[] ∧ ∃ hs bs, StAt w' p.1.1 hs bs (p.1.2.2.2 + p.2.length) ∧ ∀ q, q.length = p.1.2.2.2 → Hl q p.1.2.1 p.1.2.2.1 → Hl (q ++ p.2) hs bs) (fun p b => b = p.1.1)
theorem keepsWrite : Keeps1 Tryz.prog GH 104 cWrite := by
  refine keepsM (T := Twr) (A := ann104) hMix keepTwr (fun a w0 w args _ hp h h1 h2 => hGHM (α := (Nat × List Nat × List Nat × Nat) × List Nat) (md := fun p b => b = p.1.1) (a := a) (fun _ hq => hq) hp.1 h h1 h2) (calls_of (by kernel_rfl)) (callsW_of (by kernel_rfl)) fun args ⟨⟨b, hs, bs, n⟩, l⟩ w0 hrd hpre hg => ?_
  obtain ⟨x, rfl, ⟨_, hst⟩, hx, hxb⟩ := hrd
  dsimp only at hst hx hxb hpre
  obtain ⟨hpt, hpn⟩ := hpre
  refine ⟨[.x (.v 0), .x (.v 1)], [], [], 3, env0 [PSt b, x] w0, fun b => b, 0, rfl, rfl, fun X hX => mem_none hX rfl, fun X hP hS hw hX hR => ?_⟩
  subst hw; try dsimp only at hR
  rw [vc104 X]
  have hbl := hst.low
  have mb : X.mine b := (hX b).2 (.inr rfl)
  have stp0 : ∀ {w}, Kn X w → Stp [b] X.w0 w := fun hk => hk.stpM hX (fun q hq => by simp [hq])
  refine call_WN hX.n hS (T := Twr) rfl (b, hs, bs, n) (fun w hw => ⟨⟨rfl, hst.stp hw.stp List.not_mem_nil⟩, trivial⟩) fun v w w' hw k' s1 s2 hv => ?_
  obtain rfl := hv
  have st0 := hst.stp s2 List.not_mem_nil
  have hc : condsV [(Value.bool false, false)] := by simp [condsV]
  refine a_G_on hc (a_len hP tyB hx.1 ?_)
  refine a_G_on hc (a_nilCheck ?_)
  refine a_G_on hc (a_fadP hP fdSz ?_)
  refine a_G_on hc (a_ldP k' (hP ▸ aggI) st0.row List.not_mem_nil (by rw [List.getElem?_toArray]; exact (stC_n st0.l8 st0.l128).1) ?_)
  refine a_G_on hc ?_
  rw [ask_subN (by omega) (by omega)]
  refine a_G_on hc ?_
  rw [ask_gtrN, ask_pickF]
  refine a_ifD (fun hgt => absurd hgt (by omega)) fun _ => ?_
  refine ⟨fun a w => ∃ v p r hs' bs', a = [v] ∧ l = p ++ r ∧ Bs w v r ∧ v.ownBlock = x.ownBlock ∧ StAt w b hs' bs' (n + p.length) ∧ (∀ q, q.length = n → Hl q hs bs → Hl (q ++ p) hs' bs') ∧ Kn X w, fun a _ => match a with | [v] => lenV v | _ => 0,
    fun w hw => ⟨x, [], l, hs, bs, rfl, rfl, hx.stp0 (by simpa using s2.trans hw.stp), rfl, st0.stp hw.stp List.not_mem_nil, fun q _ h => by rwa [List.append_nil], hw.kn⟩, ?_⟩
  rintro v w12 ⟨v0, p, r, hs', bs', he, hl, hv, hvo, st12, hH, k12⟩
  simp only [List.cons.injEq, and_true] at he
  subst he
  have hll : l.length = p.length + r.length := by rw [hl, List.length_append]
  refine a_len hP tyB hv.1 ?_
  rw [ask_gtrN]
  refine a_ifD (fun hlt => ?_) fun hge => ?_
  · refine a_nilCheck (a_fadP hP fdSz ?_)
    refine a_ldP k12 (hP ▸ aggI) st12.row List.not_mem_nil (by rw [List.getElem?_toArray]; exact (stC_n st12.l8 st12.l128).1) ?_
    rw [ask_remN (by decide)]
    have hk128 : (n + p.length) % 128 < 128 := Nat.mod_lt _ (by decide)
    generalize hk : (n + p.length) % 128 = k at *
    refine a_nilCheck (a_fadP hP fdBl ?_)
    refine a_slcPL hP arBl szU8 hk128 ?_
    have hvb : ∀ g, v.ownBlock = some g → g ∉ [b] := fun g hg hm => hxb g (hvo ▸ hg) (fun h => by rw [h] at hll; simp at hll; omega) (List.mem_singleton.1 hm)
    obtain ⟨m, hm⟩ : ∃ m, m = min r.length (128 - k) := ⟨_, rfl⟩
    have hmr : m ≤ r.length := by omega
    have hml : (r.take m).length = m := by rw [List.length_take]; omega
    refine a_copy (n := m) (xs := r.map B) hX.n hP tyB.sl szB1 rfl rfl (fun w hw => hv.1.stp0 hw.stp) (by simp) hm (fun c hc => by obtain ⟨y, _, rfl⟩ := List.mem_map.1 hc; rfl) st12.row List.not_mem_nil mb (by simp) (by simp [stC_len st12.l8 st12.l128]; omega) hlt fun w13 w22 hw13 k22 s22 su22 row22 sz22 => ?_
    rw [← List.map_take] at row22
    have st22 := st12.bytes (k := k) (by omega) row22 (by rw [hml]; omega) (fun y hy => hv.lt y (List.mem_of_mem_take hy))
    refine a_slcL hP tyB hv.1 hmr ?_
    refine a_nilCheck (a_fadP hP fdSz ?_)
    refine a_ldP k22 (hP ▸ aggI) st22.row List.not_mem_nil (by rw [List.getElem?_toArray]; exact (stC_n st22.l8 st22.l128).1) ?_
    rw [ask_addN (by omega)]
    refine a_nilCheck (a_fadP hP fdSz ?_)
    refine a_storeAt (x := J (n + p.length + m)) (vs := [J (n + p.length + m)]) hX.n hP szI rfl rfl rfl rfl rfl st22.row List.not_mem_nil mb (by simp) (by simp [stC_len st22.l8 st22.l128]) fun _ w23 w30 h23 k30 s30 su30 row30 sz30 => ?_
    have st30 := st22.num row30
    rw [ask_addN (by omega), ask_eqlN]
    have hv' : Bs w30 (SubV v m r.length 1) (r.drop m) := (hv.rest hmr).stp (ex := [b] ++ [b]) (by simpa using su22.trans su30) (fun g hg => by rw [sub_own] at hg; have := hvb g hg; simpa using this)
    have hvo' : (SubV v m r.length 1).ownBlock = x.ownBlock := by rw [sub_own, hvo]
    have hl' : l = (p ++ r.take m) ++ r.drop m := by rw [List.append_assoc, List.take_append_drop]; exact hl
    have hpl : (p ++ r.take m).length = p.length + m := by rw [List.length_append, hml]
    have hmu : lenV (SubV v m r.length 1) < lenV v := by rw [lenV_of hv'.1, lenV_of hv.1, List.length_drop]; omega
    have hbt : (bput bs' k (r.take m)).take (k + m) = bs'.take k ++ r.take m := by
      have := bput_take (bs := bs') (ys := r.take m) (k := k) (by rw [hml, st12.l128]; omega)
      rwa [hml] at this
    refine a_ifD (fun heq => ?_) fun hne => ?_
    · refine call_M hX.n hS (T := Twr) (f := 138) rfl (b, hs', bput bs' k (r.take m), n + p.length + m) (fun w hw => ⟨⟨rfl, st30.stp hw.stp List.not_mem_nil⟩, hpt⟩) [b] (fun _ h => List.mem_singleton.2 h) (fun g hg => by rw [List.mem_singleton.1 hg]; exact ⟨mb, by simp⟩) fun v2 w2 w33 hw2 k33 s33 su33 hp33 => ?_
      obtain ⟨_, st33⟩ := hp33
      dsimp only at st33
      intro w4 hw4
      refine ⟨⟨_, p ++ r.take m, r.drop m, _, _, rfl, hl', (hv'.stp su33 (fun g hg => hvb g (hvo.symm ▸ hvo' ▸ hg))).stp0 hw4.stp, hvo', by rw [hpl, ← Nat.add_assoc]; exact st33.stp hw4.stp List.not_mem_nil, fun q hq hqh => ?_, hw4.kn⟩, hmu⟩
      have hql : (q ++ p).length % 128 = k := by rw [List.length_append, hq]; exact hk
      rw [← List.append_assoc]
      exact (hH q hq hqh).full hml (by rw [hql]; exact heq) st30.l128 (by rw [hql]; exact hbt)
    · intro w4 hw4
      refine ⟨⟨_, p ++ r.take m, r.drop m, _, _, rfl, hl', hv'.stp0 hw4.stp, hvo', by rw [hpl, ← Nat.add_assoc]; exact st30.stp hw4.stp List.not_mem_nil, fun q hq hqh => ?_, hw4.kn⟩, hmu⟩
      have hql : (q ++ p).length % 128 = k := by rw [List.length_append, hq]; exact hk
      rw [← List.append_assoc]
      exact (hH q hq hqh).part hml (by rw [hql]; omega) (by rw [hql]; exact hbt)
  · have hr0 : r = [] := List.eq_nil_of_length_eq_zero (by omega)
    subst hr0
    rw [List.append_nil] at hl
    subst hl
    exact hR _ _ _ _ fun w hw => ⟨rfl, hs', bs', st12.stp hw.stp List.not_mem_nil, hH⟩
#print axioms keepsWrite
end Go.Vc
