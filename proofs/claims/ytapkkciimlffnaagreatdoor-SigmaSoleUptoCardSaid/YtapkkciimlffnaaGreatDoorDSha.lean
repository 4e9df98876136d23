/-
  SHA-512 as a function of lists; arrays as lists; rotations, on both sides.
-/
import Derived.Test.YtapkkciimlffnaaGreatDoorDBy
import Derived.Test.YtapkkciimlffnaaGreatDoorVcMut
namespace Go.Vc
open Go Go.Proofs Go.RowKit

/-! ### the hash -/
/-- The round constants; the first state. -/
def Ks : List Nat := [4794697086780616226, 8158064640168781261, 13096744586834688815, 16840607885511220156, 4131703408338449720, 6480981068601479193, 10538285296894168987, 12329834152419229976, 15566598209576043074, 1334009975649890238, 2608012711638119052, 6128411473006802146, 8268148722764581231, 9286055187155687089, 11230858885718282805, 13951009754708518548, 16472876342353939154, 17275323862435702243, 1135362057144423861, 2597628984639134821, 3308224258029322869, 5365058923640841347, 6679025012923562964, 8573033837759648693, 10970295158949994411, 12119686244451234320, 12683024718118986047, 13788192230050041572, 14330467153632333762, 15395433587784984357, 489312712824947311, 1452737877330783856, 2861767655752347644, 3322285676063803686, 5560940570517711597, 5996557281743188959, 7280758554555802590, 8532644243296465576, 9350256976987008742, 10552545826968843579, 11727347734174303076, 12113106623233404929, 14000437183269869457, 14369950271660146224, 15101387698204529176, 15463397548674623760, 17586052441742319658, 1182934255886127544, 1847814050463011016, 2177327727835720531, 2830643537854262169, 3796741975233480872, 4115178125766777443, 5681478168544905931, 6601373596472566643, 7507060721942968483, 8399075790359081724, 8693463985226723168, 9568029438360202098, 10144078919501101548, 10430055236837252648, 11840083180663258601, 13761210420658862357, 14299343276471374635, 14566680578165727644, 15097957966210449927, 16922976911328602910, 17689382322260857208, 500013540394364858, 748580250866718886, 1242879168328830382, 1977374033974150939, 2944078676154940804, 3659926193048069267, 4368137639120453308, 4836135668995329356, 5532061633213252278, 6448918945643986474, 6902733635092675308, 7801388544844847127]
def IV : List Nat := [7640891576956012808, 13503953896175478587, 4354685564936845355, 11912009170470909681, 5840696475078001361, 11170449401992604703, 2270897969802886507, 6620516959819538809]
def rr (x n : Nat) : Nat := x / 2 ^ n ||| x * 2 ^ (64 - n) % B64
def ad (a b : Nat) : Nat := (a + b) % B64
def nx (m : Nat → Nat) (l : List Nat) (t : Nat) : Nat :=
  if t < 16 then m t else ad (ad (ad ((rr (l.getD (t - 2) 0) 19 ^^^ rr (l.getD (t - 2) 0) 61) ^^^ l.getD (t - 2) 0 / 2 ^ 6) (l.getD (t - 7) 0)) ((rr (l.getD (t - 15) 0) 1 ^^^ rr (l.getD (t - 15) 0) 8) ^^^ l.getD (t - 15) 0 / 2 ^ 7)) (l.getD (t - 16) 0)
def sch (m : Nat → Nat) : Nat → List Nat
  | 0 => []
  | t + 1 => sch m t ++ [nx m (sch m t) t]
structure V8 where
  a : Nat
  b : Nat
  c : Nat
  d : Nat
  e : Nat
  f : Nat
  g : Nat
  h : Nat
def V8.l (v : V8) : List Nat := [v.a, v.b, v.c, v.d, v.e, v.f, v.g, v.h]
def V8.of (l : List Nat) : V8 := ⟨l.getD 0 0, l.getD 1 0, l.getD 2 0, l.getD 3 0, l.getD 4 0, l.getD 5 0, l.getD 6 0, l.getD 7 0⟩
def V8.ok (v : V8) : Prop := v.a < B64 ∧ v.b < B64 ∧ v.c < B64 ∧ v.d < B64 ∧ v.e < B64 ∧ v.f < B64 ∧ v.g < B64 ∧ v.h < B64
def ru (k w : Nat) (v : V8) : Nat := ad (ad (ad (ad v.h ((rr v.e 14 ^^^ rr v.e 18) ^^^ rr v.e 41)) ((v.e &&& v.f) ^^^ ((B64 - 1 - v.e) &&& v.g))) k) w
def rnd (k w : Nat) (v : V8) : V8 := ⟨ad (ad (ru k w v) ((rr v.a 28 ^^^ rr v.a 34) ^^^ rr v.a 39)) (((v.a &&& v.b) ^^^ (v.a &&& v.c)) ^^^ (v.b &&& v.c)), v.a, v.b, v.c, ad v.d (ru k w v), v.e, v.f, v.g⟩
def rnds (ws : List Nat) : Nat → V8 → V8
  | 0, v => v
  | t + 1, v => rnd (Ks.getD t 0) (ws.getD t 0) (rnds ws t v)
/-- The number of bytes, the highest first. -/
def beW (l : List Nat) : Nat := l.foldl (fun x c => x * 256 + c) 0
def wordAt (bs : List Nat) (t : Nat) : Nat := beW ((bs.drop (8 * t)).take 8)
/-- The state behind one block. -/
def cpr (hs bs : List Nat) : List Nat := List.zipWith ad hs (rnds (sch (wordAt bs) 80) 80 (V8.of hs)).l

theorem sch_len (m : Nat → Nat) (t : Nat) : (sch m t).length = t := by
  induction t with
  | zero => rfl
  | succ t ih => simp [sch, ih]
theorem ad_lt (a b : Nat) : ad a b < B64 := Nat.mod_lt _ (by decide)
theorem nx_lt {m : Nat → Nat} (hm : ∀ t, m t < B64) (l : List Nat) (t : Nat) : nx m l t < B64 := by
  unfold nx
  split
  · exact hm t
  · exact ad_lt _ _
theorem sch_lt {m : Nat → Nat} (hm : ∀ t, m t < B64) (t : Nat) : ∀ x ∈ sch m t, x < B64 := by
  induction t with
  | zero => intro x h; cases h
  | succ t ih =>
    intro x h
    simp only [sch, List.mem_append, List.mem_singleton] at h
    rcases h with h | rfl
    · exact ih x h
    · exact nx_lt hm _ _
theorem xor_lt {a b : Nat} (ha : a < B64) (hb : b < B64) : a ^^^ b < B64 := Nat.xor_lt_two_pow (n := 64) ha hb
theorem and_lt {a : Nat} (b : Nat) (ha : a < B64) : a &&& b < B64 := Nat.lt_of_le_of_lt Nat.and_le_left ha
theorem div_lt {a : Nat} (n : Nat) (ha : a < B64) : a / 2 ^ n < B64 := Nat.lt_of_le_of_lt (Nat.div_le_self _ _) ha
theorem rr_lt {x : Nat} (n : Nat) (hx : x < B64) : rr x n < B64 := Nat.or_lt_two_pow (n := 64) (div_lt n hx) (Nat.mod_lt _ (by decide))
theorem rnd_ok {k w : Nat} {v : V8} (h : v.ok) : (rnd k w v).ok := ⟨ad_lt _ _, h.1, h.2.1, h.2.2.1, ad_lt _ _, h.2.2.2.2.1, h.2.2.2.2.2.1, h.2.2.2.2.2.2.1⟩
theorem rnds_ok {ws : List Nat} {v : V8} (h : v.ok) : ∀ t, (rnds ws t v).ok
  | 0 => h
  | t + 1 => rnd_ok (rnds_ok h t)
theorem of_ok {l : List Nat} (h : ∀ x ∈ l, x < B64) : (V8.of l).ok := by
  have g : ∀ i, l.getD i 0 < B64 := fun i => by
    rw [List.getD_eq_getElem?_getD]
    rcases Nat.lt_or_ge i l.length with hi | hi
    · rw [List.getElem?_eq_getElem hi]; exact h _ (List.getElem_mem hi)
    · rw [List.getElem?_eq_none hi]; decide
  exact ⟨g 0, g 1, g 2, g 3, g 4, g 5, g 6, g 7⟩
theorem beW_snoc (l : List Nat) (c : Nat) : beW (l ++ [c]) = beW l * 256 + c := by simp [beW]
theorem beW_lt (l : List Nat) (h : ∀ x ∈ l, x < 256) : beW l < 256 ^ l.length := by
  induction hn : l.length generalizing l with
  | zero => obtain rfl := List.eq_nil_of_length_eq_zero hn; simp [beW]
  | succ n ih =>
    obtain ⟨r, a, rfl⟩ : ∃ r a, l = r ++ [a] := ⟨l.dropLast, l.getLast (by intro e; rw [e] at hn; simp at hn), (List.dropLast_concat_getLast _).symm⟩
    have hr : r.length = n := by simpa using hn
    have h1 := ih r (fun x hx => h x (by simp [hx])) hr
    have h2 := h a (by simp)
    rw [beW_snoc, Nat.pow_succ]
    omega
theorem wordAt_lt {bs : List Nat} (h : ∀ x ∈ bs, x < 256) (t : Nat) : wordAt bs t < B64 := by
  have h1 := beW_lt ((bs.drop (8 * t)).take 8) (fun x hx => h x (List.mem_of_mem_drop (List.mem_of_mem_take hx)))
  have h2 : ((bs.drop (8 * t)).take 8).length ≤ 8 := by rw [List.length_take]; omega
  exact Nat.lt_of_lt_of_le h1 (Nat.le_trans (Nat.pow_le_pow_right (by decide) h2) (by decide))
theorem cpr_len {hs bs : List Nat} (h : hs.length = 8) : (cpr hs bs).length = 8 := by simp [cpr, h, V8.l]
theorem cpr_lt {hs bs : List Nat} : ∀ x ∈ cpr hs bs, x < B64 := fun x hx => by
  unfold cpr at hx
  obtain ⟨i, hi⟩ := List.getElem?_of_mem hx
  rw [List.getElem?_zipWith] at hi
  split at hi
  · simp only [Option.some.injEq] at hi
    rw [← hi]; exact ad_lt _ _
  · cases hi

/-! ### arrays as lists -/
def UA (l : List Nat) : Value := .agg (l.map U).toArray
def BA (l : List Nat) : Value := .agg (l.map B).toArray
theorem oneU (l : List Nat) : (l.map U).all (·.oneCell') = true := by simp [U, Value.oneCell']
theorem oneB (l : List Nat) : (l.map B).all (·.oneCell') = true := by simp [B, Value.oneCell']
theorem intNatJ (k : Nat) : intNat (J k) = k := by simp [intNat]
theorem mapU_inj {a b : List Nat} (h : a.map U = b.map U) : a = b := (List.map_inj_right fun _ _ h => U_inj' h).1 h
theorem mapB_inj {a b : List Nat} (h : a.map B = b.map B) : a = b := (List.map_inj_right fun _ _ h => B_inj h).1 h
section
variable {P : Program} {K : Value → Prop} {l : List Nat} {n k x : Nat}
theorem a_aggU (h : l.length = n) (hK : K (UA l)) : Ask (rAgg n (UA l)) K := a_agg (by simpa using h) (oneU l) hK
theorem a_aggB (h : l.length = n) (hK : K (BA l)) : Ask (rAgg n (BA l)) K := a_agg (by simpa using h) (oneB l) hK
theorem a_selU {pos : Nat} (hp : pos = k) (hk : k < l.length) (hK : K (U (l.getD k 0))) : Ask (rSel (aggArr (UA l)) pos 1 false) K := by
  subst hp
  refine a_sel1 (cs := l.map U) (v := U (l.getD pos 0)) ?_ hK
  rw [List.getElem?_map, List.getElem?_eq_getElem hk, List.getD_eq_getElem?_getD, List.getElem?_eq_getElem hk]; rfl
theorem a_selBA {pos : Nat} (hp : pos = k) (hk : k < l.length) (hK : K (B (l.getD k 0))) : Ask (rSel (aggArr (BA l)) pos 1 false) K := by
  subst hp
  refine a_sel1 (cs := l.map B) (v := B (l.getD pos 0)) ?_ hK
  rw [List.getElem?_map, List.getElem?_eq_getElem hk, List.getD_eq_getElem?_getD, List.getElem?_eq_getElem hk]; rfl
theorem splice_set {cs : List Value} {v : Value} (hk : k < cs.length) : splice cs.toArray k [v] = (cs.set k v).toArray := by
  unfold splice
  simp only [List.length_singleton]
  congr 1
  rw [List.set_eq_take_append_cons_drop, if_pos hk]
  simp
theorem a_updU {pos : Nat} (hp : pos = k) (hk : k < l.length) (hK : K (UA (l.set k x))) : Ask (rUpd (aggArr (UA l)) pos 1 (U x)) K := by
  subst hp
  have e : Ask (rUpd (aggArr (UA l)) pos 1 (U x)) K = K (UA (l.set pos x)) := ask_eq fun v => by
    unfold rUpd
    have hs : UA (l.set pos x) = .agg (splice (aggArr (UA l)) pos (U x).cells.toList) := by
      show Value.agg ((l.set pos x).map U).toArray = .agg (splice (l.map U).toArray pos [U x])
      rw [splice_set (by simpa using hk), List.map_set]
    rw [hs]
    exact ⟨fun h => h.2.2.2, fun h => ⟨by show pos + 1 ≤ (l.map U).toArray.size; simp; omega, rfl, by simp [U, Value.cells, Value.oneCell'], h⟩⟩
  rw [e]; exact hK
theorem a_updBA {pos : Nat} (hp : pos = k) (hk : k < l.length) (hK : K (BA (l.set k x))) : Ask (rUpd (aggArr (BA l)) pos 1 (B x)) K := by
  subst hp
  have e : Ask (rUpd (aggArr (BA l)) pos 1 (B x)) K = K (BA (l.set pos x)) := ask_eq fun v => by
    unfold rUpd
    have hs : BA (l.set pos x) = .agg (splice (aggArr (BA l)) pos (B x).cells.toList) := by
      show Value.agg ((l.set pos x).map B).toArray = .agg (splice (l.map B).toArray pos [B x])
      rw [splice_set (by simpa using hk), List.map_set]
    rw [hs]
    exact ⟨fun h => h.2.2.2, fun h => ⟨by show pos + 1 ≤ (l.map B).toArray.size; simp; omega, rfl, by simp [B, Value.cells, Value.oneCell'], h⟩⟩
  rw [e]; exact hK
theorem ask_uxor {t : TypeId} {cx cy : Bool} {a b : Nat} (ha : a < B64) (hb : b < B64) : Ask (rBin P .xor t cx cy (U a) (U b)) K = K (U (a ^^^ b)) := by
  unfold U; rw [ask_xor]
  congr 2
  have : (BitVec.ofInt IntKind.u64.bits (a : Int) ^^^ BitVec.ofInt IntKind.u64.bits (b : Int)).toNat = a ^^^ b := by
    rw [BitVec.toNat_xor]
    simp only [BitVec.ofInt_natCast, BitVec.toNat_ofNat, IntKind.bits]
    rw [Nat.mod_eq_of_lt ha, Nat.mod_eq_of_lt hb]
  rw [this, wrap_u64, Nat.mod_eq_of_lt (xor_lt ha hb)]
theorem not64 {a : Nat} (ha : a < B64) : (BitVec.ofInt 64 (18446744073709551615 : Int) ^^^ BitVec.ofInt 64 (a : Int)).toNat = B64 - 1 - a := by
  have e : BitVec.ofInt 64 (18446744073709551615 : Int) = BitVec.allOnes 64 := by decide
  rw [e, BitVec.ofInt_natCast, BitVec.allOnes_xor, BitVec.toNat_not, BitVec.toNat_ofNat, Nat.mod_eq_of_lt (show a < 2 ^ 64 from ha)]
theorem ask_unot {a : Nat} (ha : a < B64) : Ask (rUn P .xor (U a)) K = K (U (B64 - 1 - a)) :=
  ask_eq (runs_iff fun w => by
    have h1 : (BitVec.ofInt IntKind.u64.bits (18446744073709551615 : Int) ^^^ BitVec.ofInt IntKind.u64.bits (a : Int)).toNat = B64 - 1 - a := by
      exact not64 ha
    have h2 : IntKind.u64.wrap ((B64 - 1 - a : Nat) : Int) = ((B64 - 1 - a : Nat) : Int) := by
      rw [wrap_u64, Nat.mod_eq_of_lt (by simp only [B64] at *; omega)]
    have h3 : IntKind.max .u64 = 18446744073709551615 := by decide
    simp only [Op.unary, U, IntKind.signed, Bool.false_eq_true, if_false, h3, Op.intBits]
    rw [h1, h2]
    rfl)
theorem ask_uaddA {t : TypeId} {cx cy : Bool} {a b : Nat} : Ask (rBin P .add t cx cy (U a) (U b)) K = K (U (ad a b)) := ask_uadd
end

theorem J_inj0 {a b : Nat} (h : J a = J b) : a = b := by
  simp only [Value.int.injEq, true_and] at h
  omega
/-! ### rotations -/
/-- To the right, by n. -/
def cRot : Contract := fnP (fun p : Nat × Nat => [U p.1, .int .i64 (-(p.2 : Int))]) (fun p => p.1 < B64 ∧ 0 < p.2 ∧ p.2 < 64) (fun p v => v = U (rr p.1 p.2))
theorem inj_rot (p q : Nat × Nat) (_ : p.1 < B64 ∧ 0 < p.2 ∧ p.2 < 64) (_ : q.1 < B64 ∧ 0 < q.2 ∧ q.2 < 64) (h : [U p.1, .int .i64 (-(p.2 : Int))] = [U q.1, .int .i64 (-(q.2 : Int))]) : p = q := by
  simp only [List.cons.injEq, Value.int.injEq, true_and, and_true] at h
  exact Prod.ext (U_inj' h.1) (by omega)
theorem inj_rotr (p q : Nat × Nat) (_ : p.1 < B64 ∧ 0 < p.2 ∧ p.2 < 64) (_ : q.1 < B64 ∧ 0 < q.2 ∧ q.2 < 64) (h : [U p.1, J p.2] = [U q.1, J q.2]) : p = q := by
  simp only [List.cons.injEq, and_true] at h
  exact Prod.ext (U_inj' h.1) (J_inj0 h.2)
theorem ask_i2w {k : Nat} (h0 : 0 < k) (hk : k < 64) {K : Value → Prop} : Ask (rConv Tryz.prog 3 145 (.int .i64 (-(k : Int)))) K = K (U (B64 - k)) :=
  ask_eq (runs_iff fun w => by
    have h : (convert 3 145 (.int .i64 (-(k : Int)))).run Tryz.prog w = .ok (.int .u64 (IntKind.u64.wrap (-(k : Int)))) w := by kernel_rfl
    rw [h]
    have e : IntKind.u64.wrap (-(k : Int)) = ((B64 - k : Nat) : Int) := by
      simp only [IntKind.wrap, IntKind.bits, IntKind.signed, B64]
      simp
      omega
    rw [e]; rfl)
def cRotr : Contract := fnP (fun p : Nat × Nat => [U p.1, J p.2]) (fun p => p.1 < B64 ∧ 0 < p.2 ∧ p.2 < 64) (fun p v => v = U (rr p.1 p.2))
end Go.Vc
