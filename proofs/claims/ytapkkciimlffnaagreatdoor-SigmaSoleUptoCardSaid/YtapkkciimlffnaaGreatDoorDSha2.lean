/-
  SHA-512: one block, on the program's side.
-/
import Derived.Test.YtapkkciimlffnaaGreatDoorDSha
namespace Go.Vc
open Go Go.Proofs Go.RowKit

/-! ### the tables -/
/-- A table of numbers lies there. -/
structure Tab (w : World) (g : Nat) (l : List Nat) : Prop where
  lt : g < w.heap.size
  at_ : ∀ i, i < l.length → w.cell? ⟨g, i, none⟩ = some (U (l.getD i 0))
theorem Tab.stp {u w : World} {g : Nat} {l : List Nat} {ex : List Nat} (h : Tab u g l) (hs : Stp ex u w) (hb : g ∉ ex) : Tab w g l :=
  ⟨Nat.lt_of_lt_of_le h.lt hs.size, fun i hi => by rw [World.cell?_of_block (w := u) (hs.past g h.lt hb)]; exact h.at_ i hi⟩
theorem GT.stp1 {u w : World} {ex : List Nat} (h : GT u) (hs : Stp ex u w) (hb : 0 ∉ ex) : GT w :=
  ⟨Nat.lt_of_lt_of_le h.1 hs.size, fun i v hi => by rw [World.cell?_of_block (w := u) (hs.past 0 h.1 hb)]; exact h.2 i v hi⟩
theorem Keeps1.inG {P : Program} {G G' : World → Prop} {f : Nat} {c : Contract} (h : Keeps1 P G f c) (hg : ∀ w, G' w → G w) : Keeps1 P G' f c :=
  ⟨fun args w hp hG => h.calls args w hp (hg w hG), fun args w hp hG => h.callsW args w hp (hg w hG)⟩
/-! ### a hash that is being written to -/
def stC (hs bs : List Nat) (n : Nat) : List Value := hs.map U ++ bs.map B ++ [J n, .bool true]
theorem stC_h {hs bs : List Nat} {n : Nat} (h8 : hs.length = 8) {i : Nat} (hi : i < 8) : (stC hs bs n)[i]? = some (U (hs.getD i 0)) := by
  unfold stC
  rw [List.append_assoc, List.getElem?_append_left (by simpa using (by omega : i < hs.length)), List.getElem?_map, List.getElem?_eq_getElem (by omega), List.getD_eq_getElem?_getD, List.getElem?_eq_getElem (by omega)]; rfl
theorem stC_b {hs bs : List Nat} {n : Nat} (h8 : hs.length = 8) (h128 : bs.length = 128) {i : Nat} (hi : i < 128) : (stC hs bs n)[8 + i]? = some (B (bs.getD i 0)) := by
  unfold stC
  rw [List.append_assoc, List.getElem?_append_right (by simp [h8]), List.length_map, h8, Nat.add_sub_cancel_left, List.getElem?_append_left (by simpa using (by omega : i < bs.length)), List.getElem?_map, List.getElem?_eq_getElem (by omega), List.getD_eq_getElem?_getD, List.getElem?_eq_getElem (by omega)]; rfl
theorem stC_n {hs bs : List Nat} {n : Nat} (h8 : hs.length = 8) (h128 : bs.length = 128) : (stC hs bs n)[136]? = some (J n) ∧ (stC hs bs n)[137]? = some (.bool true) := by
  unfold stC
  have hl : (hs.map U ++ bs.map B).length = 136 := by simp [h8, h128]
  exact ⟨by rw [List.getElem?_append_right (by omega), hl]; rfl, by rw [List.getElem?_append_right (by omega), hl]; rfl⟩
theorem stC_len {hs bs : List Nat} {n : Nat} (h8 : hs.length = 8) (h128 : bs.length = 128) : (stC hs bs n).length = 138 := by simp [stC, h8, h128]
theorem stC_inj {hs bs hs' bs' : List Nat} {n n' : Nat} (h8 : hs.length = 8) (h8' : hs'.length = 8) (hb : bs.length = bs'.length) (h : stC hs bs n = stC hs' bs' n') : hs = hs' ∧ bs = bs' ∧ n = n' := by
  unfold stC at h
  rw [List.append_assoc, List.append_assoc] at h
  obtain ⟨e1, h⟩ := List.append_inj h (by simp [h8, h8'])
  obtain ⟨e2, h⟩ := List.append_inj h (by simp [hb])
  simp only [List.cons.injEq, and_true] at h
  exact ⟨mapU_inj e1, mapB_inj e2, J_inj0 h⟩
theorem words_step {cs hs : List Nat} {i : Nat} (hc : cs.length = 8) (hh : hs.length = 8) (hi : i < 8) : (cs.take i ++ hs.drop i).set i (cs.getD i 0) = cs.take (i + 1) ++ hs.drop (i + 1) := by
  rw [List.set_append_right _ _ (by rw [List.length_take, hc]; omega), List.length_take, hc, Nat.min_eq_left (by omega), Nat.sub_self, List.take_succ_eq_append_getElem (by rw [hc]; omega), List.drop_eq_getElem_cons (by rw [hh]; omega), List.set_cons_zero, List.getD_eq_getElem?_getD, List.getElem?_eq_getElem (by rw [hc]; omega)]
  rw [List.append_assoc]; rfl
theorem words_at {cs hs : List Nat} {i : Nat} (hc : cs.length = 8) (hi : i < 8) : (cs.take i ++ hs.drop i).getD i 0 = hs.getD i 0 := by
  rw [List.getD_eq_getElem?_getD, List.getElem?_append_right (by rw [List.length_take, hc]; omega), List.length_take, hc, Nat.min_eq_left (by omega), Nat.sub_self, List.getElem?_drop, Nat.add_zero, List.getD_eq_getElem?_getD]
theorem cpr_at {hs bs : List Nat} {i : Nat} (h8 : hs.length = 8) (hi : i < 8) : (cpr hs bs).getD i 0 = ad (hs.getD i 0) ((rnds (sch (wordAt bs) 80) 80 (V8.of hs)).l.getD i 0) := by
  unfold cpr
  generalize rnds (sch (wordAt bs) 80) 80 (V8.of hs) = v
  rw [List.getD_eq_getElem?_getD, List.getElem?_zipWith, List.getD_eq_getElem?_getD, List.getD_eq_getElem?_getD, List.getElem?_eq_getElem (by rw [h8]; exact hi), List.getElem?_eq_getElem (show i < v.l.length from hi)]
  rfl
abbrev PSt (b : Nat) : Value := .pointer (some ⟨b, 0, none⟩)
section
variable {X : Ctx} {P : Program} {K : Value → Prop}
theorem a_iadV {t elem s bytes b o n cap i : Nat} {z : Value} (hP : X.P = P) (hu : ElTy P t elem s bytes z) (h1 : i < n) (hK : K (.pointer (some ⟨b, o + i * s, none⟩))) : Ask (rIad X.P t (.slice (some ⟨b, o, none⟩) n cap) (J i)) K := by
  subst hP
  rw [ask_iad_sl hu.sl hu.sz (by omega) (by omega)]
  simpa using hK
/-- An element of an array value. -/
theorem a_idx {t n e i : Nat} {cs : List Value} {v : Value} (hP : X.P = P) (hu : P.underlying t = some (.array n e)) (hs : sz P e = some 1) (ha : agg? P e = some false) (hi : i < n) (hv : cs[i]? = some v) (hK : K v) : Ask (rIdx X.P t (.agg cs.toArray) (J i)) K := by
  subst hP
  have e' : Ask (rIdx X.P t (.agg cs.toArray) (J i)) K = K v := ask_eq (runs_iff fun w => by
    have h1 : (0 : Int) ≤ (i : Int) ∧ (i : Int) < (n : Int) := by omega
    have hag := run_agg (X := X) ha w
    simp only [Instr.index, asIntOf, Sem.run_bind, run_underlying hu, Result.andThen_ok]
    simp [run_sz hs, part, hag, hv]
    omega)
  rw [e']; exact hK
end
theorem aggU8 : agg? Tryz.prog 5 = some false := by kernel_rfl
theorem aggU64 : agg? Tryz.prog 23 = some false := by kernel_rfl
theorem szU8 : sz Tryz.prog 5 = some 1 := by kernel_rfl
theorem szU64 : sz Tryz.prog 23 = some 1 := by kernel_rfl
theorem arW : Tryz.prog.underlying 298 = some (.array 8 23) := by kernel_rfl
theorem aggW8 : agg? Tryz.prog 298 = some true := by kernel_rfl
theorem szW8 : sz Tryz.prog 298 = some 8 := by kernel_rfl
theorem sched_set {m : Nat → Nat} {t k : Nat} : (sch m t ++ List.replicate (k + 1) 0).set t (nx m (sch m t) t) = sch m (t + 1) ++ List.replicate k 0 := by
  rw [List.set_append_right _ _ (by rw [sch_len]; exact Nat.le_refl _), sch_len, Nat.sub_self, List.replicate_succ, List.set_cons_zero, sch]
  simp
theorem sched_get {m : Nat → Nat} {t k i : Nat} (hi : i < t) : (sch m t ++ List.replicate k 0).getD i 0 = (sch m t).getD i 0 := by
  rw [List.getD_eq_getElem?_getD, List.getD_eq_getElem?_getD, List.getElem?_append_left (by rw [sch_len]; exact hi)]
theorem getD_lt {l : List Nat} {n : Nat} (h : ∀ x ∈ l, x < n) (h0 : 0 < n) (i : Nat) : l.getD i 0 < n := by
  rw [List.getD_eq_getElem?_getD]
  rcases Nat.lt_or_ge i l.length with hi | hi
  · rw [List.getElem?_eq_getElem hi]; exact h _ (List.getElem_mem hi)
  · rw [List.getElem?_eq_none hi]; exact h0
theorem zeros80 : Value.agg #[U 0, U 0, U 0, U 0, U 0, U 0, U 0, U 0, U 0, U 0, U 0, U 0, U 0, U 0, U 0, U 0, U 0, U 0, U 0, U 0, U 0, U 0, U 0, U 0, U 0, U 0, U 0, U 0, U 0, U 0, U 0, U 0, U 0, U 0, U 0, U 0, U 0, U 0, U 0, U 0, U 0, U 0, U 0, U 0, U 0, U 0, U 0, U 0, U 0, U 0, U 0, U 0, U 0, U 0, U 0, U 0, U 0, U 0, U 0, U 0, U 0, U 0, U 0, U 0, U 0, U 0, U 0, U 0, U 0, U 0, U 0, U 0, U 0, U 0, U 0, U 0, U 0, U 0, U 0, U 0] = UA (sch (fun _ => 0) 0 ++ List.replicate 80 0) := by kernel_rfl

/-- One place of the schedule, as both sides work it out. -/
theorem nx_ge {m : Nat → Nat} {t : Nat} (ht : 16 ≤ t) (l : List Nat) : nx m l t = ad (ad (ad ((rr (l.getD (t - 2) 0) 19 ^^^ rr (l.getD (t - 2) 0) 61) ^^^ l.getD (t - 2) 0 / 2 ^ 6) (l.getD (t - 7) 0)) ((rr (l.getD (t - 15) 0) 1 ^^^ rr (l.getD (t - 15) 0) 8) ^^^ l.getD (t - 15) 0 / 2 ^ 7)) (l.getD (t - 16) 0) := by
  unfold nx
  rw [if_neg (by omega)]

end Go.Vc
