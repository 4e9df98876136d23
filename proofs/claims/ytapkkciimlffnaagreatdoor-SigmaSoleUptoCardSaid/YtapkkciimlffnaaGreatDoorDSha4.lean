import Derived.Test.YtapkkciimlffnaaGreatDoorDSha2
/-
  SHA-512: a hash that is written to, on the program's side.
-/
namespace Go.Vc
open Go Go.Proofs Go.RowKit

/-! ### blocks -/
def blk (p : List Nat) : Nat → List Nat
  | 0 => IV
  | j + 1 => cpr (blk p j) ((p.drop (128 * j)).take 128)
theorem blk_len (p : List Nat) : ∀ j, (blk p j).length = 8
  | 0 => rfl
  | j + 1 => cpr_len (blk_len p j)
theorem blk_app (p r : List Nat) : ∀ j, 128 * j ≤ p.length → blk (p ++ r) j = blk p j
  | 0, _ => rfl
  | j + 1, h => by
    rw [blk, blk, blk_app p r j (by omega), List.drop_append_of_le_length (by omega), List.take_append_of_le_length (by rw [List.length_drop]; omega)]
/-- What a state knows of the bytes p that were written. -/
structure Hl (p hs bs : List Nat) : Prop where
  hs : hs = blk p (p.length / 128)
  bs : bs.take (p.length % 128) = p.drop (128 * (p.length / 128))
theorem Hl.part {p hs bs bs' r : List Nat} {m : Nat} (h : Hl p hs bs) (hr : r.length = m) (hm : p.length % 128 + m < 128) (hb : bs'.take (p.length % 128 + m) = bs.take (p.length % 128) ++ r) : Hl (p ++ r) hs bs' := by
  have e1 : (p ++ r).length / 128 = p.length / 128 := by rw [List.length_append, hr]; omega
  have e2 : (p ++ r).length % 128 = p.length % 128 + m := by rw [List.length_append, hr]; omega
  refine ⟨by rw [e1, blk_app _ _ _ (by omega)]; exact h.hs, ?_⟩
  rw [e1, e2, hb, h.bs, List.drop_append_of_le_length (by omega)]
theorem Hl.full {p hs bs bs' r : List Nat} {m : Nat} (h : Hl p hs bs) (hr : r.length = m) (hm : p.length % 128 + m = 128) (hl : bs'.length = 128) (hb : bs'.take (p.length % 128 + m) = bs.take (p.length % 128) ++ r) : Hl (p ++ r) (cpr hs bs') bs' := by
  have e1 : (p ++ r).length / 128 = p.length / 128 + 1 := by rw [List.length_append, hr]; omega
  have e2 : (p ++ r).length % 128 = 0 := by rw [List.length_append, hr]; omega
  have e3 : bs' = ((p ++ r).drop (128 * (p.length / 128))).take 128 := by
    rw [List.drop_append_of_le_length (by omega), ← h.bs, ← hb, hm, List.take_take, Nat.min_self, List.take_of_length_le (by omega)]
  refine ⟨?_, ?_⟩
  · rw [e1, blk, blk_app _ _ _ (by omega), ← e3, h.hs]
  · rw [e1, e2, List.take_zero, List.drop_of_length_le (by rw [List.length_append, hr]; omega)]
theorem Hl.nil : Hl [] IV (List.replicate 128 0) := ⟨rfl, rfl⟩

/-! ### a new one -/
def TN : Table := T0
theorem getU {l : List Nat} {j : Nat} {c : Value} (h : (l.map U)[j]? = some c) : j < l.length ∧ c = U (l.getD j 0) := by
  rw [List.getElem?_map] at h
  cases hj : l[j]? with
  | none => rw [hj] at h; cases h
  | some a =>
    rw [hj] at h
    refine ⟨(List.getElem?_eq_some_iff.1 hj).1, ?_⟩
    rw [List.getD_eq_getElem?_getD, hj]
    simpa using h.symm
/-! ### is there one -/
theorem aggBo : agg? Tryz.prog 4 = some false := by kernel_rfl
theorem eq_nilptr {P : Program} {t e : TypeId} {a : Addr} {w : World} (hu : P.underlying t = some (.pointer e)) (d : Nat) : (Op.equalIn (d + 1) t (.pointer (some a)) (.pointer none)).run P w = .ok false w := by
  simp only [Op.equalIn]
  rw [Sem.run_bind, run_underlying hu]
  rfl
theorem ask_eq_nilptr {P : Program} {t e : TypeId} {cx cy : Bool} {a : Addr} {K : Value → Prop} (hu : P.underlying t = some (.pointer e)) : Ask (rBin P .eql t cx cy (.pointer (some a)) (.pointer none)) K = K (.bool false) :=
  ask_eq (runs_iff fun w => by
    have e : (Op.equal t (.pointer (some a)) (.pointer none)).run P w = .ok false w := eq_nilptr hu _
    simp [binSem, eqGuard, binOp, e])
end Go.Vc

/-
  SHA-512: bytes are written, on the program's side.
-/
namespace Go.Vc
open Go Go.Proofs Go.RowKit

/-! ### bytes -/
def encC (c : Nat) : List Value := [B c]
def okBy (c : Nat) : Prop := c < 256
theorem encC_len (c : Nat) : (encC c).length = 1 := rfl
theorem encC_inj {a b : Nat} (h : encC a = encC b) : a = b := B_inj (by simpa [encC] using h)
def cBs : Cod (List Nat) := cL encC okBy 1 encC_len (fun _ _ _ _ h => encC_inj h)
theorem flatC (l : List Nat) : l.flatMap encC = l.map B := by
  induction l with
  | nil => rfl
  | cons a r ih => simp [encC, ih]
/-- Bytes that lie there. -/
structure Bs (w : World) (v : Value) (l : List Nat) : Prop where
  at_ : SlAt w v l.length (l.map B)
  lt : ∀ x ∈ l, x < 256
theorem bs_rd {w : World} {v : Value} {l : List Nat} : cBs.rd w v l ↔ Bs w v l :=
  ⟨fun h => ⟨by have := h.1; rwa [flatC] at this, h.2⟩, fun h => ⟨by rw [flatC]; exact h.1, h.2⟩⟩
theorem Bs.stp {u w : World} {v : Value} {l ex : List Nat} (h : Bs u v l) (hs : Stp ex u w) (hb : ∀ b, v.ownBlock = some b → b ∉ ex) : Bs w v l := ⟨h.at_.stp hs hb, h.lt⟩
theorem Bs.stp0 {u w : World} {v : Value} {l : List Nat} (h : Bs u v l) (hs : Stp [] u w) : Bs w v l := h.stp hs fun _ _ => List.not_mem_nil
theorem Bs.len {w : World} {v : Value} {l : List Nat} (h : Bs w v l) : l.length ≤ maxLen := by
  rcases h.1 with ⟨_, h, _⟩ | ⟨_, _, _, _, h, _⟩
  · rw [h]; exact Nat.zero_le _
  · omega
/-- What is left behind n bytes. -/
theorem Bs.rest {w : World} {v : Value} {l : List Nat} {m : Nat} (h : Bs w v l) (hm : m ≤ l.length) : Bs w (SubV v m l.length 1) (l.drop m) := by
  have := slAt_sub (s := 1) h.1 hm (Nat.le_refl _)
  refine ⟨?_, fun x hx => h.lt x (List.mem_of_mem_drop hx)⟩
  rw [List.length_drop, List.map_drop]
  rwa [Nat.mul_one, Nat.mul_one, List.take_of_length_le (by simp)] at this

/-! ### bytes are put into a state -/
def bput (bs : List Nat) (k : Nat) (ys : List Nat) : List Nat := bs.take k ++ ys ++ bs.drop (k + ys.length)
theorem bput_len {bs ys : List Nat} {k : Nat} (h : k + ys.length ≤ bs.length) : (bput bs k ys).length = bs.length := by
  simp only [bput, List.length_append, List.length_take, List.length_drop]; omega
theorem bput_take {bs ys : List Nat} {k : Nat} (h : k + ys.length ≤ bs.length) : (bput bs k ys).take (k + ys.length) = bs.take k ++ ys := by
  unfold bput
  rw [List.take_append_of_le_length (by simp only [List.length_append, List.length_take]; omega), List.take_of_length_le (by simp only [List.length_append, List.length_take]; omega)]
theorem bput_lt {bs ys : List Nat} {k : Nat} (h : ∀ x ∈ bs, x < 256) (hy : ∀ x ∈ ys, x < 256) : ∀ x ∈ bput bs k ys, x < 256 := fun x hx => by
  simp only [bput, List.mem_append] at hx
  rcases hx with (h1 | h1) | h1
  · exact h x (List.mem_of_mem_take h1)
  · exact hy x h1
  · exact h x (List.mem_of_mem_drop h1)
theorem splice_b {hs bs ys : List Nat} {n k : Nat} (h8 : hs.length = 8) (h : k + ys.length ≤ bs.length) : splice (stC hs bs n).toArray (8 + k) (ys.map B) = (stC hs (bput bs k ys) n).toArray := by
  unfold splice stC bput
  congr 1
  rw [List.append_assoc (hs.map U), List.take_append, List.drop_append, List.length_map, List.length_map, h8, Nat.add_sub_cancel_left, show 8 + k + ys.length - 8 = k + ys.length by omega, List.take_of_length_le (by simp [h8]), List.drop_of_length_le (by simp [h8]; omega),
    List.take_append_of_le_length (by simp; omega), List.drop_append_of_le_length (by simp; omega)]
  simp [List.map_take, List.map_drop]
theorem splice_n {hs bs : List Nat} {n n' : Nat} (h8 : hs.length = 8) (h128 : bs.length = 128) : splice (stC hs bs n).toArray 136 [J n'] = (stC hs bs n').toArray := by
  unfold splice stC
  congr 1
  have hl : (hs.map U ++ bs.map B).length = 136 := by simp [h8, h128]
  rw [List.take_append_of_le_length (by omega), List.take_of_length_le (by omega), List.drop_append, List.drop_of_length_le (by simp; omega), hl]
  simp
/-! ### rules -/
section
variable {X : Ctx} {P : Program} {K : Value → Prop}
theorem a_slcL {t e s bytes n lo : Nat} {z v : Value} {xs : List Value} {w : World} (hP : X.P = P) (hT : ElTy P t e s bytes z) (h : SlAt w v n xs) (h1 : lo ≤ n) (hK : K (SubV v lo n s)) : Ask (rSlc X.P t v (some (J lo)) none none) K := by
  obtain ⟨a, cap, rfl, hn⟩ := slAt_form h
  subst hP
  have hr : ∀ w, (Instr.sliceAt t (.slice a n cap) (some (J lo)) none none).run X.P w = .ok (SubV (.slice a n cap) lo n s) w := fun w => by
    have ht : X.P.underlying t = some (.slice (X.P.elem t)) := by rw [hT.elem]; exact hT.sl
    rw [run_sliceAt_slice w t _ _ _ _ ht, run_slice_l w t a n cap ht .i64 lo (by omega) (by omega), hT.elem, run_sz hT.sz w]
    simp [SubV]
  have e : Ask (rSlc X.P t (.slice a n cap) (some (J lo)) none none) K = K (SubV (.slice a n cap) lo n s) := ask_eq (runs_iff hr)
  rw [e]; exact hK
theorem call_WN {α : Type} {T : Table} {f : Nat} {c : Cods α} {pre : α → World → Prop} {post : α → World → Value → World → Prop} {u : World} {ow : List Nat} {bl : List KB} {md : Bool} {args : List Value} {K : Value → World → Prop}
    (hX : StdN X) (hS : X.S = T.spec) (hT : T f = fnW c pre post) (a : α) (hrd : ∀ w, KnownV X u ow bl w → c.rd w args a ∧ pre a w)
    (hK : ∀ v w w', KnownV X u ow bl w → Kn X w' → Stp [] w w' → Stp ow u w' → post a w v w' → K v w') : AskW X u ow bl md f args K := by
  have h1 : ∀ w, X.S.preW f args w = (fnW c pre post).preW args w := fun w => by rw [hS]; show (T f).preW _ _ = _; rw [hT]
  have h2 : ∀ w v w', X.S.postW f args w v w' = (fnW c pre post).postW args w v w' := fun w v w' => by rw [hS]; show (T f).postW _ _ _ _ = _; rw [hT]
  have h3 : ∀ w b, X.S.modW f args w b = False := fun w b => by rw [hS]; show (T f).modW _ _ _ = _; rw [hT]; rfl
  refine ask_callW (fun w hw => ⟨by rw [h1]; exact ⟨a, hrd w hw⟩, fun b hb => by rw [h3] at hb; exact hb.elim⟩) fun w v w' hw hp => ?_
  rw [h2] at hp
  obtain ⟨hp, hk⟩ := hp
  have hs := KeepsM.stp hk
  exact hK v w w' hw (knN hX hw hs (fun _ h => by cases h) hk.os hk.tape hk.output) hs (by simpa using hw.stp.trans hs) (hp a (hrd w hw).1)
end

theorem szB1 : (Tryz.prog.info? 5).map (·.size) = some 1 := by kernel_rfl
theorem szI : sz Tryz.prog 3 = some 1 := by kernel_rfl
theorem aggI : agg? Tryz.prog 3 = some false := by kernel_rfl
def lenV : Value → Nat | .slice _ n _ => n | _ => 0
theorem lenV_of {w : World} {v : Value} {n : Nat} {xs : List Value} (h : SlAt w v n xs) : lenV v = n := by
  obtain ⟨a, cap, rfl, _⟩ := slAt_form h; rfl

/-! ### bytes are written -/
end Go.Vc
