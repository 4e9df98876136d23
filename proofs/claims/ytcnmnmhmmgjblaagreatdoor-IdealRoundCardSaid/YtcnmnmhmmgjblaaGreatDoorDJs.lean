import Derived.Test.YtcnmnmhmmgjblaaGreatDoorDJq
/-
  There and back, in plain words.
-/
namespace Go.Vc
open Go Go.Proofs Go.RowKit
section
variable (q : Mt)
/-- Back, asked what Match answers. -/
def bkOf : BkP := ⟨q.d.p, q.d.m, q.d.n, q.d.vs, q.y, q.z, q.x, q.out⟩
variable (hx : rF q.x ≠ 0) (hy : rF q.y ≠ 0) (hb : rF q.d.p.2.1 ≠ 0)
theorem bk_m : (bkOf q).m = q.d.m := Int.toNat_natCast _
theorem bk_n : (bkOf q).n = q.d.n := Int.toNat_natCast _
theorem bk_N : (bkOf q).N = q.d.N := by rw [BkP.N, bk_m, bk_n]; rfl
theorem bk_bit (k : Nat) : (bkOf q).bit k = q.d.bit k := by rw [BkP.bit, bk_m]; rfl
theorem bk_wt (k : Nat) : (bkOf q).wt k = q.md.wt k := by rw [BkP.wt, bk_m]; rfl
include hx in
theorem bk_dsl {k : Nat} (hk : k < q.d.N) : (bkOf q).dsl k = q.md.sl k := by
  have h1 : rF q.x * finv (rF q.x) = 1 := finv_mul hx
  have h2 : rF ((bkOf q).t.2.2.2.2.1.getD k 0) = q.l k := by
    show rF (((mapN q.l q.d.N).map (fun f : F => f.val)).getD k 0) = _
    rw [getD_val, mapN_get _ 0 hk]
  rw [BkP.dsl, h2, bk_bit, Mt.l, Md.l0]
  show (q.d.bit k - rF q.z + rF q.x * q.md.sl k - q.d.bit k + rF q.z) * finv (rF q.x) = _
  grind
include hx hy in
theorem bk_dsr {k : Nat} (hk : k < q.d.N) : (bkOf q).dsr k = q.md.sr k := by
  have h1 : rF q.x * finv (rF q.x) = 1 := finv_mul hx
  have h3 : fp (rF q.y) k * finv (fp (rF q.y) k) = 1 := finv_mul (fp_ne0 hy k)
  have h2 : rF ((bkOf q).t.2.2.2.2.2.getD k 0) = q.r k := by
    show rF (((mapN q.r q.d.N).map (fun f : F => f.val)).getD k 0) = _
    rw [getD_val, mapN_get _ 0 hk]
  rw [BkP.dsr, h2, bk_bit, bk_wt, Mt.r, Md.r0, Md.r1]
  show ((fp (rF q.y) k * (q.d.bit k - 1 + rF q.z) + q.md.wt k + rF q.x * (fp (rF q.y) k * q.md.sr k) - q.md.wt k) * finv (fp (rF q.y) k) - (q.d.bit k - 1) - rF q.z) * finv (rF q.x) = _
  generalize fp (rF q.y) k = a at *
  generalize finv a = b at *
  generalize finv (rF q.x) = c at *
  have e1 : (a * (q.d.bit k - 1 + rF q.z) + q.md.wt k + rF q.x * (a * q.md.sr k) - q.md.wt k) * b = (a * b) * (q.d.bit k - 1 + rF q.z) + (a * b) * (rF q.x * q.md.sr k) := by grind
  rw [e1, h3]
  have e2 : (1 * (q.d.bit k - 1 + rF q.z) + 1 * (rF q.x * q.md.sr k) - (q.d.bit k - 1) - rF q.z) * c = (rF q.x * c) * q.md.sr k := by grind
  rw [e2, h1]; grind
include hx hy in
theorem bk_t2 : (bkOf q).t2 q.d.N = q.md.t2 := by
  rw [BkP.t2, Md.t2]
  refine sumF'_congr _ fun i hi => ?_
  rw [bk_dsl q hx hi, bk_dsr q hx hy hi, Md.r1]
  show q.md.sl i * q.md.sr i * fp (rF q.y) i = q.md.sl i * (fp (rF q.y) i * q.md.sr i)
  grind
include hx hy hb in
theorem bk_rho : (bkOf q).rho = rF q.d.t.2.1 := by
  have h1 : rF q.d.p.2.1 * finv (rF q.d.p.2.1) = 1 := finv_mul hb
  have e1 : logF q.d.p.2.2.2.1 (bkOf q).dsl q.d.N = prF q.d.t.2.2.2.2.1 q.d.p.2.2.2.1 q.d.N := sumF'_congr _ fun i hi => by rw [bk_dsl q hx hi]; rfl
  have e2 : logF q.d.p.2.2.2.2 (bkOf q).dsr q.d.N = prF q.d.t.2.2.2.2.2 q.d.p.2.2.2.2 q.d.N := sumF'_congr _ fun i hi => by rw [bk_dsr q hx hy hi]; rfl
  rw [BkP.rho, bk_N]
  show (rF q.d.Sg.val - logF q.d.p.2.2.2.1 (bkOf q).dsl q.d.N - logF q.d.p.2.2.2.2 (bkOf q).dsr q.d.N) * finv (rF q.d.p.2.1) = _
  rw [rF_val, e1, e2, Pq.Sg]
  generalize finv (rF q.d.p.2.1) = c at *
  grind
include hx hy hb in
theorem bk_alpha : (bkOf q).alpha = rF q.d.t.1 := by
  rw [BkP.alpha, bk_rho q hx hy hb]
  show rF q.mu.val - rF q.d.t.2.1 * rF q.x = _
  rw [rF_val, Mt.mu]; grind
include hx hy hb in
theorem bk_tau2 : (bkOf q).tau2 = rF q.d.t.2.2.2.1 := by
  have h1 : rF q.d.p.2.1 * finv (rF q.d.p.2.1) = 1 := finv_mul hb
  rw [BkP.tau2, bk_N, bk_t2 q hx hy]
  show (rF q.md.T2.val - q.md.t2 * rF q.d.p.1) * finv (rF q.d.p.2.1) = _
  rw [rF_val, Md.T2]
  show (q.md.t2 * rF q.d.p.1 + rF q.d.t.2.2.2.1 * rF q.d.p.2.1 - q.md.t2 * rF q.d.p.1) * finv (rF q.d.p.2.1) = _
  generalize finv (rF q.d.p.2.1) = c at *
  grind
include hx hy hb in
theorem bk_tau1 : (bkOf q).tau1 = rF q.d.t.2.2.1 := by
  have h1 : rF q.x * finv (rF q.x) = 1 := finv_mul hx
  rw [BkP.tau1, bk_n, bk_tau2 q hx hy hb]
  show (rF q.tx.val - rF q.d.t.2.2.2.1 * (rF q.x * rF q.x) - sumF' (fun j => fp (rF q.z) (2 + j) * rF (bAt q.d.vs j)) q.d.n) * finv (rF q.x) = _
  rw [rF_val, Mt.tx]
  generalize sumF' (fun j => fp (rF q.z) (2 + j) * rF (bAt q.d.vs j)) q.d.n = s
  generalize finv (rF q.x) = c at *
  grind
end
section
variable (p : SetN) (m n : Nat) (vs : List (Nat × Nat)) (y z x : Nat) (al ro t1 t2 : F) (L R : Nat → F)
def mt2 : Mt := ⟨⟨p, m, n, vs, (al.val, ro.val, t1.val, t2.val, (mapN L (m * n)).map (fun f : F => f.val), (mapN R (m * n)).map (fun f : F => f.val))⟩, y, z, x⟩
theorem mt2_Sg : (mt2 p m n vs y z x al ro t1 t2 L R).d.Sg = ro * rF p.2.1 + sumF' (fun i => L i * rF (p.2.2.2.1.getD i 0)) (m * n) + sumF' (fun i => R i * rF (p.2.2.2.2.getD i 0)) (m * n) := by
  have h : (mt2 p m n vs y z x al ro t1 t2 L R).d.Sg = rF ro.val * rF p.2.1 + prF ((mapN L (m * n)).map (fun f : F => f.val)) p.2.2.2.1 (m * n) + prF ((mapN R (m * n)).map (fun f : F => f.val)) p.2.2.2.2 (m * n) := rfl
  rw [h, rF_val, prF_mapN, prF_mapN]
theorem mt2_mu : (mt2 p m n vs y z x al ro t1 t2 L R).mu = al + ro * rF x := by
  have h : (mt2 p m n vs y z x al ro t1 t2 L R).mu = rF al.val + rF ro.val * rF x := rfl
  rw [h, rF_val, rF_val]
theorem mt2_T2 : (mt2 p m n vs y z x al ro t1 t2 L R).md.T2 = (mt2 p m n vs y z x al ro t1 t2 L R).md.t2 * rF p.1 + t2 * rF p.2.1 := by
  have h : (mt2 p m n vs y z x al ro t1 t2 L R).md.T2 = (mt2 p m n vs y z x al ro t1 t2 L R).md.t2 * rF p.1 + rF t2.val * rF p.2.1 := rfl
  rw [h, rF_val]
theorem mt2_tx : (mt2 p m n vs y z x al ro t1 t2 L R).tx = t1 * rF x + t2 * rF x * rF x + sumF' (fun j => fp (rF z) (2 + j) * rF (bAt vs j)) n := by
  have h : (mt2 p m n vs y z x al ro t1 t2 L R).tx = rF t1.val * rF x + rF t2.val * rF x * rF x + sumF' (fun j => fp (rF z) (2 + j) * rF (bAt vs j)) n := rfl
  rw [h, rF_val, rF_val]
end
section
variable (q : BkP) (m n : Nat) (em : q.b = m) (en : q.c = n)
/-- Match, asked what Back answers. -/
def mtOf : Mt := mt2 q.p m n q.vs q.y q.z q.x q.alpha q.rho q.tau1 q.tau2 q.dsl q.dsr
variable (hx : rF q.x ≠ 0) (hy : rF q.y ≠ 0) (hb : rF q.p.2.1 ≠ 0)
include em in
theorem mt_m : q.m = m := by rw [BkP.m, em]; rfl
include en in
theorem mt_n : q.n = n := by rw [BkP.n, en]; rfl
include em en in
theorem mt_N : q.N = m * n := by rw [BkP.N, mt_m q m em, mt_n q n en]
theorem mt_sl {k : Nat} (hk : k < m * n) : (mtOf q m n).md.sl k = q.dsl k := by
  show rF (((mapN q.dsl (m * n)).map (fun f : F => f.val)).getD k 0) = _
  rw [getD_val, mapN_get _ 0 hk]
theorem mt_sr {k : Nat} (hk : k < m * n) : (mtOf q m n).md.sr k = q.dsr k := by
  show rF (((mapN q.dsr (m * n)).map (fun f : F => f.val)).getD k 0) = _
  rw [getD_val, mapN_get _ 0 hk]
include em in
theorem mt_bit (k : Nat) : (mtOf q m n).d.bit k = q.bit k := by rw [BkP.bit, mt_m q m em]; rfl
include em in
theorem mt_wt (k : Nat) : (mtOf q m n).md.wt k = q.wt k := by rw [BkP.wt, mt_m q m em]; rfl
include em hx in
theorem mt_l {k : Nat} (hk : k < m * n) : (mtOf q m n).l k = rF (q.t.2.2.2.2.1.getD k 0) := by
  have h1 : rF q.x * finv (rF q.x) = 1 := finv_mul hx
  rw [Mt.l, mt_sl q m n hk, Md.l0]
  show (mtOf q m n).d.bit k - rF q.z + rF q.x * q.dsl k = _
  rw [mt_bit q m n em, BkP.dsl]
  generalize finv (rF q.x) = c at *
  generalize rF (q.t.2.2.2.2.1.getD k 0) = L
  have e : rF q.x * ((L - q.bit k + rF q.z) * c) = (rF q.x * c) * (L - q.bit k + rF q.z) := by grind
  rw [e, h1]; grind
include em hx hy in
theorem mt_r {k : Nat} (hk : k < m * n) : (mtOf q m n).r k = rF (q.t.2.2.2.2.2.getD k 0) := by
  have h1 : rF q.x * finv (rF q.x) = 1 := finv_mul hx
  have h3 : fp (rF q.y) k * finv (fp (rF q.y) k) = 1 := finv_mul (fp_ne0 hy k)
  rw [Mt.r, Md.r0, Md.r1, mt_sr q m n hk]
  show fp (rF q.y) k * ((mtOf q m n).d.bit k - 1 + rF q.z) + (mtOf q m n).md.wt k + rF q.x * (fp (rF q.y) k * q.dsr k) = _
  rw [mt_bit q m n em, mt_wt q m n em, BkP.dsr]
  generalize fp (rF q.y) k = a at *
  generalize finv a = b at *
  generalize finv (rF q.x) = c at *
  generalize rF (q.t.2.2.2.2.2.getD k 0) = R
  have e : rF q.x * (a * (((R - q.wt k) * b - (q.bit k - 1) - rF q.z) * c)) = (rF q.x * c) * ((a * b) * (R - q.wt k) - a * (q.bit k - 1 + rF q.z)) := by grind
  rw [e, h1, h3]; grind
theorem mt_t2 (eN : q.N = m * n) : (mtOf q m n).md.t2 = q.t2 q.N := by
  rw [BkP.t2, Md.t2, eN]
  refine sumF'_congr _ fun i hi => ?_
  rw [mt_sl q m n hi, Md.r1, mt_sr q m n hi]
  show q.dsl i * (fp (rF q.y) i * q.dsr i) = _
  grind
include hb in
theorem mt_Sg (eN : q.N = m * n) : (mtOf q m n).d.Sg = rF q.t.2.2.1 := by
  have h1 : rF q.p.2.1 * finv (rF q.p.2.1) = 1 := finv_mul hb
  rw [mtOf, mt2_Sg, BkP.rho, eN, logF, logF]
  generalize sumF' (fun i => q.dsl i * rF (q.p.2.2.2.1.getD i 0)) (m * n) = s
  generalize sumF' (fun i => q.dsr i * rF (q.p.2.2.2.2.getD i 0)) (m * n) = t
  generalize finv (rF q.p.2.1) = c at *
  have e : (rF q.t.2.2.1 - s - t) * c * rF q.p.2.1 = (rF q.p.2.1 * c) * (rF q.t.2.2.1 - s - t) := by grind
  rw [e, h1]; grind
theorem mt_mu : (mtOf q m n).mu = rF q.t.2.1 := by
  rw [mtOf, mt2_mu, BkP.alpha]; grind
include hb in
theorem mt_T2 (eN : q.N = m * n) : (mtOf q m n).md.T2 = rF q.t.2.2.2.1 := by
  have h1 : rF q.p.2.1 * finv (rF q.p.2.1) = 1 := finv_mul hb
  have h0 := mt_t2 q m n eN
  unfold mtOf at h0 ⊢
  rw [mt2_T2, h0, BkP.tau2]
  generalize q.t2 q.N = s
  generalize finv (rF q.p.2.1) = c at *
  have e : (rF q.t.2.2.2.1 - s * rF q.p.1) * c * rF q.p.2.1 = (rF q.p.2.1 * c) * (rF q.t.2.2.2.1 - s * rF q.p.1) := by grind
  rw [e, h1]; grind
include en hx in
theorem mt_tx : (mtOf q m n).tx = rF q.t.1 := by
  have h1 : rF q.x * finv (rF q.x) = 1 := finv_mul hx
  rw [mtOf, mt2_tx, BkP.tau1, mt_n q n en, BkP.blinds]
  generalize sumF' (fun j => fp (rF q.z) (2 + j) * rF (bAt q.vs j)) n = s
  generalize q.tau2 = t
  generalize finv (rF q.x) = c at *
  have e : (rF q.t.1 - t * (rF q.x * rF q.x) - s) * c * rF q.x = (rF q.x * c) * (rF q.t.1 - t * (rF q.x * rF q.x) - s) := by grind
  rw [e, h1]; grind
end
#print axioms mt_tx
end Go.Vc

/-
  The law: there and back.
-/
namespace Go.Vc
open Go Go.Proofs Go.RowKit
def ann5 : Ann := ⟨[], [26, 19, 34, 36, 23, 24], 70, [(20, false), (32, false), (33, false), (8, false), (35, false), (22, false)], [], none, [1000014], []⟩
def kb5_0 (b0 b1 : Nat) (x2 x7 x8 : Value) : List KB := [⟨b0, true, 27, (aggArr x2)⟩, ⟨b1, true, 45, #[x7, x8]⟩]
def kb5_1 (b0 b1 b2 : Nat) (x2 x7 x8 x11 x12 x13 x14 x32 x33 x34 x35 x19 x20 x21 x22 x23 x24 : Value) : List KB := [⟨b0, true, 27, (aggArr x2)⟩, ⟨b1, true, 45, #[x7, x8]⟩, ⟨b2, true, 42, #[x11, x12, x13, x14, x32, x33, x34, x35, x19, x20, x21, x22, x23, x24]⟩]
def kb5_2 (b0 b1 b2 b3 b4 b5 b6 : Nat) (x2 x7 x8 x11 x12 x13 x14 x32 x33 x34 x35 x19 x20 x21 x22 x23 x24 x39 x43 x44 x45 x46 x50 x51 x52 x53 x57 x58 x59 x60 : Value) : List KB := [⟨b0, true, 27, (aggArr x2)⟩, ⟨b1, true, 45, #[x7, x8]⟩, ⟨b2, true, 42, #[x11, x12, x13, x14, x32, x33, x34, x35, x19, x20, x21, x22, x23, x24]⟩, ⟨b3, true, 36, (aggArr x39)⟩, ⟨b4, true, 29, #[x43, x44, x45, x46]⟩, ⟨b5, true, 29, #[x50, x51, x52, x53]⟩, ⟨b6, true, 29, #[x57, x58, x59, x60]⟩]
def kb5_3 (b0 b1 b2 b3 b4 b5 b6 b7 : Nat) (x2 x7 x8 x11 x12 x13 x14 x32 x33 x34 x35 x19 x20 x21 x22 x23 x24 x39 x43 x44 x45 x46 x50 x51 x52 x53 x57 x58 x59 x60 x64 : Value) : List KB := [⟨b0, true, 27, (aggArr x2)⟩, ⟨b1, true, 45, #[x7, x8]⟩, ⟨b2, true, 42, #[x11, x12, x13, x14, x32, x33, x34, x35, x19, x20, x21, x22, x23, x24]⟩, ⟨b3, true, 36, (aggArr x39)⟩, ⟨b4, true, 29, #[x43, x44, x45, x46]⟩, ⟨b5, true, 29, #[x50, x51, x52, x53]⟩, ⟨b6, true, 29, #[x57, x58, x59, x60]⟩, ⟨b7, true, 33, (aggArr x64)⟩]
def kb5_4 (b0 b1 b2 b3 b4 b5 b6 b7 b8 : Nat) (x2 x7 x8 x11 x12 x13 x14 x32 x33 x34 x35 x19 x20 x21 x22 x23 x24 x39 x43 x44 x45 x46 x50 x51 x52 x53 x57 x58 x59 x60 x64 x68 : Value) : List KB := [⟨b0, true, 27, (aggArr x2)⟩, ⟨b1, true, 45, #[x7, x8]⟩, ⟨b2, true, 42, #[x11, x12, x13, x14, x32, x33, x34, x35, x19, x20, x21, x22, x23, x24]⟩, ⟨b3, true, 36, (aggArr x39)⟩, ⟨b4, true, 29, #[x43, x44, x45, x46]⟩, ⟨b5, true, 29, #[x50, x51, x52, x53]⟩, ⟨b6, true, 29, #[x57, x58, x59, x60]⟩, ⟨b7, true, 33, (aggArr x64)⟩, ⟨b8, true, 36, (aggArr x68)⟩]
def kb5_5 (b0 b1 b2 b3 b4 b5 b6 b7 b8 b9 : Nat) (x2 x7 x8 x11 x12 x13 x14 x32 x33 x34 x35 x19 x20 x21 x22 x23 x24 x39 x43 x44 x45 x46 x50 x51 x52 x53 x57 x58 x59 x60 x64 x68 x136 x137 x138 x139 x140 x141 x142 x143 x144 x145 x146 x147 x148 x149 x150 x151 x152 x153 : Value) : List KB := [⟨b0, true, 27, (aggArr x2)⟩, ⟨b1, true, 45, #[x7, x8]⟩, ⟨b2, true, 42, #[x11, x12, x13, x14, x32, x33, x34, x35, x19, x20, x21, x22, x23, x24]⟩, ⟨b3, true, 36, (aggArr x39)⟩, ⟨b4, true, 29, #[x43, x44, x45, x46]⟩, ⟨b5, true, 29, #[x50, x51, x52, x53]⟩, ⟨b6, true, 29, #[x57, x58, x59, x60]⟩, ⟨b7, true, 33, (aggArr x64)⟩, ⟨b8, true, 36, (aggArr x68)⟩, ⟨b9, true, 33, #[x136, x137, x138, x139, x140, x141, x142, x143, x144, x145, x146, x147, x148, x149, x150, x151, x152, x153]⟩]
def kb5_6 (b0 b1 b2 b3 b4 b5 b6 b7 b8 b9 : Nat) (x2 x7 x8 x11 x12 x13 x14 x32 x33 x34 x35 x19 x20 x21 x22 x23 x24 x39 x43 x44 x45 x46 x50 x51 x52 x53 x57 x58 x59 x60 x64 x157 x136 x137 x138 x139 x140 x141 x142 x143 x144 x145 x146 x147 x148 x149 x150 x151 x152 x153 : Value) : List KB := [⟨b0, true, 27, (aggArr x2)⟩, ⟨b1, true, 45, #[x7, x8]⟩, ⟨b2, true, 42, #[x11, x12, x13, x14, x32, x33, x34, x35, x19, x20, x21, x22, x23, x24]⟩, ⟨b3, true, 36, (aggArr x39)⟩, ⟨b4, true, 29, #[x43, x44, x45, x46]⟩, ⟨b5, true, 29, #[x50, x51, x52, x53]⟩, ⟨b6, true, 29, #[x57, x58, x59, x60]⟩, ⟨b7, true, 33, (aggArr x64)⟩, ⟨b8, true, 36, (aggArr x157)⟩, ⟨b9, true, 33, #[x136, x137, x138, x139, x140, x141, x142, x143, x144, x145, x146, x147, x148, x149, x150, x151, x152, x153]⟩]
def kb5_7 (b0 b1 b2 b3 b4 b5 b6 b7 b8 b9 : Nat) (x2 x7 x8 x11 x12 x13 x14 x32 x33 x34 x35 x19 x20 x21 x22 x23 x24 x39 x43 x44 x45 x46 x50 x51 x52 x53 x57 x58 x59 x60 x161 x157 x136 x137 x138 x139 x140 x141 x142 x143 x144 x145 x146 x147 x148 x149 x150 x151 x152 x153 : Value) : List KB := [⟨b0, true, 27, (aggArr x2)⟩, ⟨b1, true, 45, #[x7, x8]⟩, ⟨b2, true, 42, #[x11, x12, x13, x14, x32, x33, x34, x35, x19, x20, x21, x22, x23, x24]⟩, ⟨b3, true, 36, (aggArr x39)⟩, ⟨b4, true, 29, #[x43, x44, x45, x46]⟩, ⟨b5, true, 29, #[x50, x51, x52, x53]⟩, ⟨b6, true, 29, #[x57, x58, x59, x60]⟩, ⟨b7, true, 33, (aggArr x161)⟩, ⟨b8, true, 36, (aggArr x157)⟩, ⟨b9, true, 33, #[x136, x137, x138, x139, x140, x141, x142, x143, x144, x145, x146, x147, x148, x149, x150, x151, x152, x153]⟩]
def kb5_8 (b0 b1 b2 b3 b4 b5 b6 b7 b8 b9 : Nat) (x2 x7 x8 x11 x12 x13 x14 x19 x20 x21 x22 x23 x24 x39 x43 x44 x45 x46 x50 x51 x52 x53 x57 x58 x59 x60 x161 x157 x136 x137 x138 x139 x140 x141 x142 x143 x144 x145 x146 x147 x148 x149 x150 x151 x152 x153 : Value) : List KB := [⟨b0, true, 27, (aggArr x2)⟩, ⟨b1, true, 45, #[x7, x8]⟩, ⟨b2, true, 42, #[x11, x12, x13, x14, (U 0), (U 0), (U 0), (U 0), x19, x20, x21, x22, x23, x24]⟩, ⟨b3, true, 36, (aggArr x39)⟩, ⟨b4, true, 29, #[x43, x44, x45, x46]⟩, ⟨b5, true, 29, #[x50, x51, x52, x53]⟩, ⟨b6, true, 29, #[x57, x58, x59, x60]⟩, ⟨b7, true, 33, (aggArr x161)⟩, ⟨b8, true, 36, (aggArr x157)⟩, ⟨b9, true, 33, #[x136, x137, x138, x139, x140, x141, x142, x143, x144, x145, x146, x147, x148, x149, x150, x151, x152, x153]⟩]
def kb5_9 (b0 b1 b2 b3 b4 b5 b6 b7 b8 b9 : Nat) (x2 x7 x8 x11 x12 x13 x14 x32 x33 x34 x35 x19 x20 x21 x22 x23 x24 x39 x43 x44 x45 x46 x50 x51 x52 x53 x57 x58 x59 x60 x64 x68 : Value) : List KB := [⟨b0, true, 27, (aggArr x2)⟩, ⟨b1, true, 45, #[x7, x8]⟩, ⟨b2, true, 42, #[x11, x12, x13, x14, x32, x33, x34, x35, x19, x20, x21, x22, x23, x24]⟩, ⟨b3, true, 36, (aggArr x39)⟩, ⟨b4, true, 29, #[x43, x44, x45, x46]⟩, ⟨b5, true, 29, #[x50, x51, x52, x53]⟩, ⟨b6, true, 29, #[x57, x58, x59, x60]⟩, ⟨b7, true, 33, (aggArr x64)⟩, ⟨b8, true, 36, (aggArr x68)⟩, ⟨b9, true, 33, #[(.slice none 0 0), (.slice none 0 0), (U 0), (U 0), (U 0), (U 0), (U 0), (U 0), (U 0), (U 0), (U 0), (U 0), (U 0), (U 0), (U 0), (U 0), (U 0), (U 0)]⟩]
theorem vc5 (X : Ctx) (β : Nat → Nat) (x0 : Value) : (run Tryz.prog ann5 5 [.x (.v 0)] [] [] 2).den X (env0 [x0] X.w0) 2 β 0 (fun _ _ _ => False) = (
 Ask (rAgg 67 x0) fun x2 =>
 AskNew X.w0 fun b0 =>
 Ask (rSel (aggArr x2) 0 1 false) fun x3 =>
 Ask (rSel (aggArr x2) 1 1 false) fun x4 =>
 AskF X 19 [x3, x4, (J 32)] fun x5 =>
 AskNew X.w0 fun b1 =>
 Ask (rAgg 2 x5) fun x6 =>
 Ask (rSel (aggArr x6) 0 1 false) fun x7 =>
 Ask (rSel (aggArr x6) 1 1 false) fun x8 =>
 AskW X X.w0 [b1] (kb5_0 b0 b1 x2 x7 x8) false 20 [x2, (.agg #[x7, x8])] fun x9 w9 =>
 AskNew w9 fun b2 =>
 Ask (rAgg 14 x9) fun x10 =>
 Ask (rSel (aggArr x10) 0 1 false) fun x11 =>
 Ask (rSel (aggArr x10) 1 1 false) fun x12 =>
 Ask (rSel (aggArr x10) 2 1 false) fun x13 =>
 Ask (rSel (aggArr x10) 3 1 false) fun x14 =>
 Ask (rSel (aggArr x10) 4 1 false) fun _ =>
 Ask (rSel (aggArr x10) 5 1 false) fun _ =>
 Ask (rSel (aggArr x10) 6 1 false) fun _ =>
 Ask (rSel (aggArr x10) 7 1 false) fun _ =>
 Ask (rSel (aggArr x10) 8 1 false) fun x19 =>
 Ask (rSel (aggArr x10) 9 1 false) fun x20 =>
 Ask (rSel (aggArr x10) 10 1 false) fun x21 =>
 Ask (rSel (aggArr x10) 11 1 false) fun x22 =>
 Ask (rSel (aggArr x10) 12 1 false) fun x23 =>
 Ask (rSel (aggArr x10) 13 1 false) fun x24 =>
 Ask (rSel (aggArr x2) 6 4 true) fun x25 =>
 AskF X 26 [x25] fun x26 =>
 Ask (rAgg 4 x26) fun x27 =>
 Ask (rSel (aggArr x27) 0 1 false) fun x28 =>
 Ask (rSel (aggArr x27) 1 1 false) fun x29 =>
 Ask (rSel (aggArr x27) 2 1 false) fun x30 =>
 Ask (rSel (aggArr x27) 3 1 false) fun x31 =>
 Ask (rPlain x28) fun x32 =>
 Ask (rPlain x29) fun x33 =>
 Ask (rPlain x30) fun x34 =>
 Ask (rPlain x31) fun x35 =>
 AskW X w9 [b2, b2] (kb5_1 b0 b1 b2 x2 x7 x8 x11 x12 x13 x14 x32 x33 x34 x35 x19 x20 x21 x22 x23 x24) false 32 [x2, (.agg #[x7, x8])] fun x36 w36 =>
 Ask (rExt X.P x36 0) fun x37 =>
 Ask (rExt X.P x36 1) fun x38 =>
 AskNew w36 fun b3 =>
 Ask (rAgg 18 x38) fun x39 =>
 Ask (rSel (aggArr x2) 19 4 true) fun x40 =>
 AskF X 26 [x40] fun x41 =>
 AskNew w36 fun b4 =>
 Ask (rAgg 4 x41) fun x42 =>
 Ask (rSel (aggArr x42) 0 1 false) fun x43 =>
 Ask (rSel (aggArr x42) 1 1 false) fun x44 =>
 Ask (rSel (aggArr x42) 2 1 false) fun x45 =>
 Ask (rSel (aggArr x42) 3 1 false) fun x46 =>
 Ask (rSel (aggArr x2) 23 4 true) fun x47 =>
 AskF X 26 [x47] fun x48 =>
 AskNew w36 fun b5 =>
 Ask (rAgg 4 x48) fun x49 =>
 Ask (rSel (aggArr x49) 0 1 false) fun x50 =>
 Ask (rSel (aggArr x49) 1 1 false) fun x51 =>
 Ask (rSel (aggArr x49) 2 1 false) fun x52 =>
 Ask (rSel (aggArr x49) 3 1 false) fun x53 =>
 Ask (rSel (aggArr x2) 27 4 true) fun x54 =>
 AskF X 26 [x54] fun x55 =>
 AskNew w36 fun b6 =>
 Ask (rAgg 4 x55) fun x56 =>
 Ask (rSel (aggArr x56) 0 1 false) fun x57 =>
 Ask (rSel (aggArr x56) 1 1 false) fun x58 =>
 Ask (rSel (aggArr x56) 2 1 false) fun x59 =>
 Ask (rSel (aggArr x56) 3 1 false) fun x60 =>
 AskW X w36 [b6, b5, b4, b3] (kb5_2 b0 b1 b2 b3 b4 b5 b6 x2 x7 x8 x11 x12 x13 x14 x32 x33 x34 x35 x19 x20 x21 x22 x23 x24 x39 x43 x44 x45 x46 x50 x51 x52 x53 x57 x58 x59 x60) false 33 [(.agg #[x11, x12, x13, x14, x32, x33, x34, x35, x19, x20, x21, x22, x23, x24]), (.agg #[x7, x8]), x37, (.agg #[x43, x44, x45, x46]), (.agg #[x50, x51, x52, x53]), (.agg #[x57, x58, x59, x60]), x39] fun x61 w61 =>
 Ask (rExt X.P x61 0) fun x62 =>
 Ask (rExt X.P x61 1) fun x63 =>
 AskNew w61 fun b7 =>
 Ask (rAgg 18 x62) fun x64 =>
 AskW X w61 [b7] (kb5_3 b0 b1 b2 b3 b4 b5 b6 b7 x2 x7 x8 x11 x12 x13 x14 x32 x33 x34 x35 x19 x20 x21 x22 x23 x24 x39 x43 x44 x45 x46 x50 x51 x52 x53 x57 x58 x59 x60 x64) false 8 [(.agg #[x11, x12, x13, x14, x32, x33, x34, x35, x19, x20, x21, x22, x23, x24]), (.agg #[x7, x8]), x37, (.agg #[x43, x44, x45, x46]), (.agg #[x50, x51, x52, x53]), (.agg #[x57, x58, x59, x60]), x64] fun x65 w65 =>
 Ask (rExt X.P x65 0) fun x66 =>
 Ask (rExt X.P x65 1) fun x67 =>
 AskNew w65 fun b8 =>
 Ask (rAgg 18 x66) fun x68 =>
 Ask (rBin X.P .neq 37 false true x63 (J 0)) fun x69 =>
 AskG [(x69, false)] (rBin X.P .neq 37 false true x67 (J 0)) fun x70 =>
 Ask (rPick x69 (.bool true) x70) fun x71 =>
 AskG [(x71, false)] (rSel (aggArr x68) 0 4 true) fun x72 =>
 AskG [(x71, false)] (rSel (aggArr x39) 0 4 true) fun x73 =>
 AskGF X [(x71, false)] 34 [x72, x73] fun x74 =>
 AskG [(x71, false)] (rUn X.P .not x74) fun x75 =>
 Ask (rPick x71 (.bool true) x75) fun x76 =>
 AskG [(x76, false)] (rSel (aggArr x68) 4 4 true) fun x77 =>
 AskG [(x76, false)] (rSel (aggArr x39) 4 4 true) fun x78 =>
 AskGF X [(x76, false)] 34 [x77, x78] fun x79 =>
 AskG [(x76, false)] (rUn X.P .not x79) fun x80 =>
 Ask (rPick x76 (.bool true) x80) fun x81 =>
 AskG [(x81, false)] (rSel (aggArr x68) 8 4 true) fun x82 =>
 AskG [(x81, false)] (rSel (aggArr x39) 8 4 true) fun x83 =>
 AskGF X [(x81, false)] 34 [x82, x83] fun x84 =>
 AskG [(x81, false)] (rUn X.P .not x84) fun x85 =>
 Ask (rPick x81 (.bool true) x85) fun x86 =>
 AskG [(x86, false)] (rSel (aggArr x68) 12 4 true) fun x87 =>
 AskG [(x86, false)] (rSel (aggArr x39) 12 4 true) fun x88 =>
 AskGF X [(x86, false)] 34 [x87, x88] fun x89 =>
 AskG [(x86, false)] (rUn X.P .not x89) fun x90 =>
 Ask (rPick x86 (.bool true) x90) fun x91 =>
 AskG [(x91, false)] (rSel (aggArr x68) 16 1 false) fun x92 =>
 AskG [(x91, false)] (rSel (aggArr x39) 16 1 false) fun x93 =>
 AskGW X [(x91, false)] w65 [b8] (kb5_4 b0 b1 b2 b3 b4 b5 b6 b7 b8 x2 x7 x8 x11 x12 x13 x14 x32 x33 x34 x35 x19 x20 x21 x22 x23 x24 x39 x43 x44 x45 x46 x50 x51 x52 x53 x57 x58 x59 x60 x64 x68) false 35 [x92, x93] fun x94 w94 =>
 AskG [(x91, false)] (rUn X.P .not x94) fun x95 =>
 Ask (rPick x91 (.bool true) x95) fun x96 =>
 AskG [(x96, false)] (rSel (aggArr x68) 17 1 false) fun x97 =>
 AskG [(x96, false)] (rSel (aggArr x39) 17 1 false) fun x98 =>
 AskGW X [(x96, false)] w94 [b8] (kb5_4 b0 b1 b2 b3 b4 b5 b6 b7 b8 x2 x7 x8 x11 x12 x13 x14 x32 x33 x34 x35 x19 x20 x21 x22 x23 x24 x39 x43 x44 x45 x46 x50 x51 x52 x53 x57 x58 x59 x60 x64 x68) false 35 [x97, x98] fun x99 w99 =>
 AskG [(x96, false)] (rUn X.P .not x99) fun x100 =>
 Ask (rPick x96 (.bool true) x100) fun x101 =>
 (∃ t, x101 = .bool t) ∧ (x101 = .bool true →
 Ret X w99 [b8] [] (.bool false)) ∧ (x101 = .bool false →
 ((
 ((
 Ask (rSel (aggArr x2) 49 1 false) fun x102 =>
 AskF X 23 [(.agg #[x7, x8])] fun x103 =>
 AskW X w99 [b8] (kb5_4 b0 b1 b2 b3 b4 b5 b6 b7 b8 x2 x7 x8 x11 x12 x13 x14 x32 x33 x34 x35 x19 x20 x21 x22 x23 x24 x39 x43 x44 x45 x46 x50 x51 x52 x53 x57 x58 x59 x60 x64 x68) false 22 [x102, x103] fun x104 w104 =>
 Ask (rSel (aggArr x2) 50 1 false) fun x105 =>
 AskF X 23 [(.agg #[x7, x8])] fun x106 =>
 AskW X w104 [] (kb5_4 b0 b1 b2 b3 b4 b5 b6 b7 b8 x2 x7 x8 x11 x12 x13 x14 x32 x33 x34 x35 x19 x20 x21 x22 x23 x24 x39 x43 x44 x45 x46 x50 x51 x52 x53 x57 x58 x59 x60 x64 x68) false 22 [x105, x106] fun x107 w107 =>
 Ask (rSel (aggArr x2) 51 4 true) fun x108 =>
 Ask (rSel (aggArr x2) 55 4 true) fun x109 =>
 Ask (rSel (aggArr x2) 59 4 true) fun x110 =>
 AskF X 24 [x110] fun x111 =>
 Ask (rSel (aggArr x2) 63 4 true) fun x112 =>
 AskF X 24 [x112] fun x113 =>
 Ask (rPlain x104) fun x114 =>
 Ask (rPlain x107) fun x115 =>
 Ask (rAgg 4 x108) fun x116 =>
 Ask (rSel (aggArr x116) 0 1 false) fun x117 =>
 Ask (rSel (aggArr x116) 1 1 false) fun x118 =>
 Ask (rSel (aggArr x116) 2 1 false) fun x119 =>
 Ask (rSel (aggArr x116) 3 1 false) fun x120 =>
 Ask (rAgg 4 x109) fun x121 =>
 Ask (rSel (aggArr x121) 0 1 false) fun x122 =>
 Ask (rSel (aggArr x121) 1 1 false) fun x123 =>
 Ask (rSel (aggArr x121) 2 1 false) fun x124 =>
 Ask (rSel (aggArr x121) 3 1 false) fun x125 =>
 Ask (rAgg 4 x111) fun x126 =>
 Ask (rSel (aggArr x126) 0 1 false) fun x127 =>
 Ask (rSel (aggArr x126) 1 1 false) fun x128 =>
 Ask (rSel (aggArr x126) 2 1 false) fun x129 =>
 Ask (rSel (aggArr x126) 3 1 false) fun x130 =>
 Ask (rAgg 4 x113) fun x131 =>
 Ask (rSel (aggArr x131) 0 1 false) fun x132 =>
 Ask (rSel (aggArr x131) 1 1 false) fun x133 =>
 Ask (rSel (aggArr x131) 2 1 false) fun x134 =>
 Ask (rSel (aggArr x131) 3 1 false) fun x135 =>
 AskNew w107 fun b9 =>
 Ask (rPlain x114) fun x136 =>
 Ask (rPlain x115) fun x137 =>
 Ask (rPlain x117) fun x138 =>
 Ask (rPlain x118) fun x139 =>
 Ask (rPlain x119) fun x140 =>
 Ask (rPlain x120) fun x141 =>
 Ask (rPlain x122) fun x142 =>
 Ask (rPlain x123) fun x143 =>
 Ask (rPlain x124) fun x144 =>
 Ask (rPlain x125) fun x145 =>
 Ask (rPlain x127) fun x146 =>
 Ask (rPlain x128) fun x147 =>
 Ask (rPlain x129) fun x148 =>
 Ask (rPlain x130) fun x149 =>
 Ask (rPlain x132) fun x150 =>
 Ask (rPlain x133) fun x151 =>
 Ask (rPlain x134) fun x152 =>
 Ask (rPlain x135) fun x153 =>
 AskW X w107 [b9] (kb5_5 b0 b1 b2 b3 b4 b5 b6 b7 b8 b9 x2 x7 x8 x11 x12 x13 x14 x32 x33 x34 x35 x19 x20 x21 x22 x23 x24 x39 x43 x44 x45 x46 x50 x51 x52 x53 x57 x58 x59 x60 x64 x68 x136 x137 x138 x139 x140 x141 x142 x143 x144 x145 x146 x147 x148 x149 x150 x151 x152 x153) false 8 [(.agg #[x11, x12, x13, x14, x32, x33, x34, x35, x19, x20, x21, x22, x23, x24]), (.agg #[x7, x8]), x37, (.agg #[x43, x44, x45, x46]), (.agg #[x50, x51, x52, x53]), (.agg #[x57, x58, x59, x60]), (.agg #[x136, x137, x138, x139, x140, x141, x142, x143, x144, x145, x146, x147, x148, x149, x150, x151, x152, x153])] fun x154 w154 =>
 Ask (rExt X.P x154 0) fun x155 =>
 Ask (rExt X.P x154 1) fun x156 =>
 Ask (rAgg 18 x155) fun x157 =>
 AskW X w154 [b8] (kb5_6 b0 b1 b2 b3 b4 b5 b6 b7 b8 b9 x2 x7 x8 x11 x12 x13 x14 x32 x33 x34 x35 x19 x20 x21 x22 x23 x24 x39 x43 x44 x45 x46 x50 x51 x52 x53 x57 x58 x59 x60 x64 x157 x136 x137 x138 x139 x140 x141 x142 x143 x144 x145 x146 x147 x148 x149 x150 x151 x152 x153) false 33 [(.agg #[x11, x12, x13, x14, x32, x33, x34, x35, x19, x20, x21, x22, x23, x24]), (.agg #[x7, x8]), x37, (.agg #[x43, x44, x45, x46]), (.agg #[x50, x51, x52, x53]), (.agg #[x57, x58, x59, x60]), x157] fun x158 w158 =>
 Ask (rExt X.P x158 0) fun x159 =>
 Ask (rExt X.P x158 1) fun x160 =>
 Ask (rAgg 18 x159) fun x161 =>
 Ask (rBin X.P .neq 37 false true x156 (J 0)) fun x162 =>
 AskG [(x162, false)] (rBin X.P .neq 37 false true x160 (J 0)) fun x163 =>
 Ask (rPick x162 (.bool true) x163) fun x164 =>
 AskG [(x164, false)] (rSel (aggArr x161) 2 4 true) fun x165 =>
 AskGF X [(x164, false)] 34 [x165, (.agg #[x138, x139, x140, x141])] fun x166 =>
 AskG [(x164, false)] (rUn X.P .not x166) fun x167 =>
 Ask (rPick x164 (.bool true) x167) fun x168 =>
 AskG [(x168, false)] (rSel (aggArr x161) 6 4 true) fun x169 =>
 AskGF X [(x168, false)] 34 [x169, (.agg #[x142, x143, x144, x145])] fun x170 =>
 AskG [(x168, false)] (rUn X.P .not x170) fun x171 =>
 Ask (rPick x168 (.bool true) x171) fun x172 =>
 AskG [(x172, false)] (rSel (aggArr x161) 10 4 true) fun x173 =>
 AskGF X [(x172, false)] 36 [x173, (.agg #[x146, x147, x148, x149])] fun x174 =>
 AskG [(x172, false)] (rUn X.P .not x174) fun x175 =>
 Ask (rPick x172 (.bool true) x175) fun x176 =>
 AskG [(x176, false)] (rSel (aggArr x161) 14 4 true) fun x177 =>
 AskGF X [(x176, false)] 36 [x177, (.agg #[x150, x151, x152, x153])] fun x178 =>
 AskG [(x176, false)] (rUn X.P .not x178) fun x179 =>
 Ask (rPick x176 (.bool true) x179) fun x180 =>
 AskG [(x180, false)] (rSel (aggArr x161) 0 1 false) fun x181 =>
 AskGW X [(x180, false)] w158 [b7] (kb5_7 b0 b1 b2 b3 b4 b5 b6 b7 b8 b9 x2 x7 x8 x11 x12 x13 x14 x32 x33 x34 x35 x19 x20 x21 x22 x23 x24 x39 x43 x44 x45 x46 x50 x51 x52 x53 x57 x58 x59 x60 x161 x157 x136 x137 x138 x139 x140 x141 x142 x143 x144 x145 x146 x147 x148 x149 x150 x151 x152 x153) false 35 [x181, x136] fun x182 w182 =>
 AskG [(x180, false)] (rUn X.P .not x182) fun x183 =>
 Ask (rPick x180 (.bool true) x183) fun x184 =>
 AskG [(x184, false)] (rSel (aggArr x161) 1 1 false) fun x185 =>
 AskGW X [(x184, false)] w182 [b7] (kb5_7 b0 b1 b2 b3 b4 b5 b6 b7 b8 b9 x2 x7 x8 x11 x12 x13 x14 x32 x33 x34 x35 x19 x20 x21 x22 x23 x24 x39 x43 x44 x45 x46 x50 x51 x52 x53 x57 x58 x59 x60 x161 x157 x136 x137 x138 x139 x140 x141 x142 x143 x144 x145 x146 x147 x148 x149 x150 x151 x152 x153) false 35 [x185, x137] fun x186 w186 =>
 AskG [(x184, false)] (rUn X.P .not x186) fun x187 =>
 Ask (rPick x184 (.bool true) x187) fun x188 =>
 (∃ t, x188 = .bool t) ∧ (x188 = .bool true →
 Ret X w186 [b7] [] (.bool false)) ∧ (x188 = .bool false →
 AskW X w186 [b2, b7] (kb5_8 b0 b1 b2 b3 b4 b5 b6 b7 b8 b9 x2 x7 x8 x11 x12 x13 x14 x19 x20 x21 x22 x23 x24 x39 x43 x44 x45 x46 x50 x51 x52 x53 x57 x58 x59 x60 x161 x157 x136 x137 x138 x139 x140 x141 x142 x143 x144 x145 x146 x147 x148 x149 x150 x151 x152 x153) false 8 [(.agg #[x11, x12, x13, x14, (U 0), (U 0), (U 0), (U 0), x19, x20, x21, x22, x23, x24]), (.agg #[x7, x8]), x37, (.agg #[x43, x44, x45, x46]), (.agg #[x50, x51, x52, x53]), (.agg #[x57, x58, x59, x60]), (.agg #[x136, x137, x138, x139, x140, x141, x142, x143, x144, x145, x146, x147, x148, x149, x150, x151, x152, x153])] fun x189 w189 =>
 Ask (rExt X.P x189 0) fun _ =>
 Ask (rExt X.P x189 1) fun x191 =>
 Ask (rBin X.P .eql 37 false true x191 (J 61)) fun x192 =>
 Ret X w189 [] [] x192)) ∧ (
 Ask (rSel (aggArr x2) 49 1 false) fun x102 =>
 AskF X 23 [(.agg #[x7, x8])] fun x103 =>
 AskW X w99 [b8] (kb5_4 b0 b1 b2 b3 b4 b5 b6 b7 b8 x2 x7 x8 x11 x12 x13 x14 x32 x33 x34 x35 x19 x20 x21 x22 x23 x24 x39 x43 x44 x45 x46 x50 x51 x52 x53 x57 x58 x59 x60 x64 x68) false 22 [x102, x103] fun x104 w104 =>
 AskNew w104 fun b9 =>
 Ask (rSel (aggArr x2) 50 1 false) fun x105 =>
 AskF X 23 [(.agg #[x7, x8])] fun x106 =>
 AskW X w104 [] (kb5_9 b0 b1 b2 b3 b4 b5 b6 b7 b8 b9 x2 x7 x8 x11 x12 x13 x14 x32 x33 x34 x35 x19 x20 x21 x22 x23 x24 x39 x43 x44 x45 x46 x50 x51 x52 x53 x57 x58 x59 x60 x64 x68) false 22 [x105, x106] fun x107 w107 =>
 Ask (rSel (aggArr x2) 51 4 true) fun x108 =>
 Ask (rSel (aggArr x2) 55 4 true) fun x109 =>
 Ask (rSel (aggArr x2) 59 4 true) fun x110 =>
 AskF X 24 [x110] fun x111 =>
 Ask (rSel (aggArr x2) 63 4 true) fun x112 =>
 AskF X 24 [x112] fun x113 =>
 Ask (rPlain x104) fun x114 =>
 Ask (rPlain x107) fun x115 =>
 Ask (rAgg 4 x108) fun x116 =>
 Ask (rSel (aggArr x116) 0 1 false) fun x117 =>
 Ask (rSel (aggArr x116) 1 1 false) fun x118 =>
 Ask (rSel (aggArr x116) 2 1 false) fun x119 =>
 Ask (rSel (aggArr x116) 3 1 false) fun x120 =>
 Ask (rAgg 4 x109) fun x121 =>
 Ask (rSel (aggArr x121) 0 1 false) fun x122 =>
 Ask (rSel (aggArr x121) 1 1 false) fun x123 =>
 Ask (rSel (aggArr x121) 2 1 false) fun x124 =>
 Ask (rSel (aggArr x121) 3 1 false) fun x125 =>
 Ask (rAgg 4 x111) fun x126 =>
 Ask (rSel (aggArr x126) 0 1 false) fun x127 =>
 Ask (rSel (aggArr x126) 1 1 false) fun x128 =>
 Ask (rSel (aggArr x126) 2 1 false) fun x129 =>
 Ask (rSel (aggArr x126) 3 1 false) fun x130 =>
 Ask (rAgg 4 x113) fun x131 =>
 Ask (rSel (aggArr x131) 0 1 false) fun x132 =>
 Ask (rSel (aggArr x131) 1 1 false) fun x133 =>
 Ask (rSel (aggArr x131) 2 1 false) fun x134 =>
 Ask (rSel (aggArr x131) 3 1 false) fun x135 =>
 Ask (rPlain x114) fun x136 =>
 Ask (rPlain x115) fun x137 =>
 Ask (rPlain x117) fun x138 =>
 Ask (rPlain x118) fun x139 =>
 Ask (rPlain x119) fun x140 =>
 Ask (rPlain x120) fun x141 =>
 Ask (rPlain x122) fun x142 =>
 Ask (rPlain x123) fun x143 =>
 Ask (rPlain x124) fun x144 =>
 Ask (rPlain x125) fun x145 =>
 Ask (rPlain x127) fun x146 =>
 Ask (rPlain x128) fun x147 =>
 Ask (rPlain x129) fun x148 =>
 Ask (rPlain x130) fun x149 =>
 Ask (rPlain x132) fun x150 =>
 Ask (rPlain x133) fun x151 =>
 Ask (rPlain x134) fun x152 =>
 Ask (rPlain x135) fun x153 =>
 AskW X w107 [b9] (kb5_5 b0 b1 b2 b3 b4 b5 b6 b7 b8 b9 x2 x7 x8 x11 x12 x13 x14 x32 x33 x34 x35 x19 x20 x21 x22 x23 x24 x39 x43 x44 x45 x46 x50 x51 x52 x53 x57 x58 x59 x60 x64 x68 x136 x137 x138 x139 x140 x141 x142 x143 x144 x145 x146 x147 x148 x149 x150 x151 x152 x153) false 8 [(.agg #[x11, x12, x13, x14, x32, x33, x34, x35, x19, x20, x21, x22, x23, x24]), (.agg #[x7, x8]), x37, (.agg #[x43, x44, x45, x46]), (.agg #[x50, x51, x52, x53]), (.agg #[x57, x58, x59, x60]), (.agg #[x136, x137, x138, x139, x140, x141, x142, x143, x144, x145, x146, x147, x148, x149, x150, x151, x152, x153])] fun x154 w154 =>
 Ask (rExt X.P x154 0) fun x155 =>
 Ask (rExt X.P x154 1) fun x156 =>
 Ask (rAgg 18 x155) fun x157 =>
 AskW X w154 [b8] (kb5_6 b0 b1 b2 b3 b4 b5 b6 b7 b8 b9 x2 x7 x8 x11 x12 x13 x14 x32 x33 x34 x35 x19 x20 x21 x22 x23 x24 x39 x43 x44 x45 x46 x50 x51 x52 x53 x57 x58 x59 x60 x64 x157 x136 x137 x138 x139 x140 x141 x142 x143 x144 x145 x146 x147 x148 x149 x150 x151 x152 x153) false 33 [(.agg #[x11, x12, x13, x14, x32, x33, x34, x35, x19, x20, x21, x22, x23, x24]), (.agg #[x7, x8]), x37, (.agg #[x43, x44, x45, x46]), (.agg #[x50, x51, x52, x53]), (.agg #[x57, x58, x59, x60]), x157] fun x158 w158 =>
 Ask (rExt X.P x158 0) fun x159 =>
 Ask (rExt X.P x158 1) fun x160 =>
 Ask (rAgg 18 x159) fun x161 =>
 Ask (rBin X.P .neq 37 false true x156 (J 0)) fun x162 =>
 AskG [(x162, false)] (rBin X.P .neq 37 false true x160 (J 0)) fun x163 =>
 Ask (rPick x162 (.bool true) x163) fun x164 =>
 AskG [(x164, false)] (rSel (aggArr x161) 2 4 true) fun x165 =>
 AskGF X [(x164, false)] 34 [x165, (.agg #[x138, x139, x140, x141])] fun x166 =>
 AskG [(x164, false)] (rUn X.P .not x166) fun x167 =>
 Ask (rPick x164 (.bool true) x167) fun x168 =>
 AskG [(x168, false)] (rSel (aggArr x161) 6 4 true) fun x169 =>
 AskGF X [(x168, false)] 34 [x169, (.agg #[x142, x143, x144, x145])] fun x170 =>
 AskG [(x168, false)] (rUn X.P .not x170) fun x171 =>
 Ask (rPick x168 (.bool true) x171) fun x172 =>
 AskG [(x172, false)] (rSel (aggArr x161) 10 4 true) fun x173 =>
 AskGF X [(x172, false)] 36 [x173, (.agg #[x146, x147, x148, x149])] fun x174 =>
 AskG [(x172, false)] (rUn X.P .not x174) fun x175 =>
 Ask (rPick x172 (.bool true) x175) fun x176 =>
 AskG [(x176, false)] (rSel (aggArr x161) 14 4 true) fun x177 =>
 AskGF X [(x176, false)] 36 [x177, (.agg #[x150, x151, x152, x153])] fun x178 =>
 AskG [(x176, false)] (rUn X.P .not x178) fun x179 =>
 Ask (rPick x176 (.bool true) x179) fun x180 =>
 AskG [(x180, false)] (rSel (aggArr x161) 0 1 false) fun x181 =>
 AskGW X [(x180, false)] w158 [b7] (kb5_7 b0 b1 b2 b3 b4 b5 b6 b7 b8 b9 x2 x7 x8 x11 x12 x13 x14 x32 x33 x34 x35 x19 x20 x21 x22 x23 x24 x39 x43 x44 x45 x46 x50 x51 x52 x53 x57 x58 x59 x60 x161 x157 x136 x137 x138 x139 x140 x141 x142 x143 x144 x145 x146 x147 x148 x149 x150 x151 x152 x153) false 35 [x181, x136] fun x182 w182 =>
 AskG [(x180, false)] (rUn X.P .not x182) fun x183 =>
 Ask (rPick x180 (.bool true) x183) fun x184 =>
 AskG [(x184, false)] (rSel (aggArr x161) 1 1 false) fun x185 =>
 AskGW X [(x184, false)] w182 [b7] (kb5_7 b0 b1 b2 b3 b4 b5 b6 b7 b8 b9 x2 x7 x8 x11 x12 x13 x14 x32 x33 x34 x35 x19 x20 x21 x22 x23 x24 x39 x43 x44 x45 x46 x50 x51 x52 x53 x57 x58 x59 x60 x161 x157 x136 x137 x138 x139 x140 x141 x142 x143 x144 x145 x146 x147 x148 x149 x150 x151 x152 x153) false 35 [x185, x137] fun x186 w186 =>
 AskG [(x184, false)] (rUn X.P .not x186) fun x187 =>
 Ask (rPick x184 (.bool true) x187) fun x188 =>
 (∃ t, x188 = .bool t) ∧ (x188 = .bool true →
 Ret X w186 [b7] [] (.bool false)) ∧ (x188 = .bool false →
 AskW X w186 [b2, b7] (kb5_8 b0 b1 b2 b3 b4 b5 b6 b7 b8 b9 x2 x7 x8 x11 x12 x13 x14 x19 x20 x21 x22 x23 x24 x39 x43 x44 x45 x46 x50 x51 x52 x53 x57 x58 x59 x60 x161 x157 x136 x137 x138 x139 x140 x141 x142 x143 x144 x145 x146 x147 x148 x149 x150 x151 x152 x153) false 8 [(.agg #[x11, x12, x13, x14, (U 0), (U 0), (U 0), (U 0), x19, x20, x21, x22, x23, x24]), (.agg #[x7, x8]), x37, (.agg #[x43, x44, x45, x46]), (.agg #[x50, x51, x52, x53]), (.agg #[x57, x58, x59, x60]), (.agg #[x136, x137, x138, x139, x140, x141, x142, x143, x144, x145, x146, x147, x148, x149, x150, x151, x152, x153])] fun x189 w189 =>
 Ask (rExt X.P x189 0) fun _ =>
 Ask (rExt X.P x189 1) fun x191 =>
 Ask (rBin X.P .eql 37 false true x191 (J 61)) fun x192 =>
 Ret X w189 [] [] x192)))) ∧ (
 AskNew w99 fun b9 =>
 Ask (rSel (aggArr x2) 49 1 false) fun x102 =>
 AskF X 23 [(.agg #[x7, x8])] fun x103 =>
 AskW X w99 [b8] (kb5_9 b0 b1 b2 b3 b4 b5 b6 b7 b8 b9 x2 x7 x8 x11 x12 x13 x14 x32 x33 x34 x35 x19 x20 x21 x22 x23 x24 x39 x43 x44 x45 x46 x50 x51 x52 x53 x57 x58 x59 x60 x64 x68) false 22 [x102, x103] fun x104 w104 =>
 Ask (rSel (aggArr x2) 50 1 false) fun x105 =>
 AskF X 23 [(.agg #[x7, x8])] fun x106 =>
 AskW X w104 [] (kb5_9 b0 b1 b2 b3 b4 b5 b6 b7 b8 b9 x2 x7 x8 x11 x12 x13 x14 x32 x33 x34 x35 x19 x20 x21 x22 x23 x24 x39 x43 x44 x45 x46 x50 x51 x52 x53 x57 x58 x59 x60 x64 x68) false 22 [x105, x106] fun x107 w107 =>
 Ask (rSel (aggArr x2) 51 4 true) fun x108 =>
 Ask (rSel (aggArr x2) 55 4 true) fun x109 =>
 Ask (rSel (aggArr x2) 59 4 true) fun x110 =>
 AskF X 24 [x110] fun x111 =>
 Ask (rSel (aggArr x2) 63 4 true) fun x112 =>
 AskF X 24 [x112] fun x113 =>
 Ask (rPlain x104) fun x114 =>
 Ask (rPlain x107) fun x115 =>
 Ask (rAgg 4 x108) fun x116 =>
 Ask (rSel (aggArr x116) 0 1 false) fun x117 =>
 Ask (rSel (aggArr x116) 1 1 false) fun x118 =>
 Ask (rSel (aggArr x116) 2 1 false) fun x119 =>
 Ask (rSel (aggArr x116) 3 1 false) fun x120 =>
 Ask (rAgg 4 x109) fun x121 =>
 Ask (rSel (aggArr x121) 0 1 false) fun x122 =>
 Ask (rSel (aggArr x121) 1 1 false) fun x123 =>
 Ask (rSel (aggArr x121) 2 1 false) fun x124 =>
 Ask (rSel (aggArr x121) 3 1 false) fun x125 =>
 Ask (rAgg 4 x111) fun x126 =>
 Ask (rSel (aggArr x126) 0 1 false) fun x127 =>
 Ask (rSel (aggArr x126) 1 1 false) fun x128 =>
 Ask (rSel (aggArr x126) 2 1 false) fun x129 =>
 Ask (rSel (aggArr x126) 3 1 false) fun x130 =>
 Ask (rAgg 4 x113) fun x131 =>
 Ask (rSel (aggArr x131) 0 1 false) fun x132 =>
 Ask (rSel (aggArr x131) 1 1 false) fun x133 =>
 Ask (rSel (aggArr x131) 2 1 false) fun x134 =>
 Ask (rSel (aggArr x131) 3 1 false) fun x135 =>
 Ask (rPlain x114) fun x136 =>
 Ask (rPlain x115) fun x137 =>
 Ask (rPlain x117) fun x138 =>
 Ask (rPlain x118) fun x139 =>
 Ask (rPlain x119) fun x140 =>
 Ask (rPlain x120) fun x141 =>
 Ask (rPlain x122) fun x142 =>
 Ask (rPlain x123) fun x143 =>
 Ask (rPlain x124) fun x144 =>
 Ask (rPlain x125) fun x145 =>
 Ask (rPlain x127) fun x146 =>
 Ask (rPlain x128) fun x147 =>
 Ask (rPlain x129) fun x148 =>
 Ask (rPlain x130) fun x149 =>
 Ask (rPlain x132) fun x150 =>
 Ask (rPlain x133) fun x151 =>
 Ask (rPlain x134) fun x152 =>
 Ask (rPlain x135) fun x153 =>
 AskW X w107 [b9] (kb5_5 b0 b1 b2 b3 b4 b5 b6 b7 b8 b9 x2 x7 x8 x11 x12 x13 x14 x32 x33 x34 x35 x19 x20 x21 x22 x23 x24 x39 x43 x44 x45 x46 x50 x51 x52 x53 x57 x58 x59 x60 x64 x68 x136 x137 x138 x139 x140 x141 x142 x143 x144 x145 x146 x147 x148 x149 x150 x151 x152 x153) false 8 [(.agg #[x11, x12, x13, x14, x32, x33, x34, x35, x19, x20, x21, x22, x23, x24]), (.agg #[x7, x8]), x37, (.agg #[x43, x44, x45, x46]), (.agg #[x50, x51, x52, x53]), (.agg #[x57, x58, x59, x60]), (.agg #[x136, x137, x138, x139, x140, x141, x142, x143, x144, x145, x146, x147, x148, x149, x150, x151, x152, x153])] fun x154 w154 =>
 Ask (rExt X.P x154 0) fun x155 =>
 Ask (rExt X.P x154 1) fun x156 =>
 Ask (rAgg 18 x155) fun x157 =>
 AskW X w154 [b8] (kb5_6 b0 b1 b2 b3 b4 b5 b6 b7 b8 b9 x2 x7 x8 x11 x12 x13 x14 x32 x33 x34 x35 x19 x20 x21 x22 x23 x24 x39 x43 x44 x45 x46 x50 x51 x52 x53 x57 x58 x59 x60 x64 x157 x136 x137 x138 x139 x140 x141 x142 x143 x144 x145 x146 x147 x148 x149 x150 x151 x152 x153) false 33 [(.agg #[x11, x12, x13, x14, x32, x33, x34, x35, x19, x20, x21, x22, x23, x24]), (.agg #[x7, x8]), x37, (.agg #[x43, x44, x45, x46]), (.agg #[x50, x51, x52, x53]), (.agg #[x57, x58, x59, x60]), x157] fun x158 w158 =>
 Ask (rExt X.P x158 0) fun x159 =>
 Ask (rExt X.P x158 1) fun x160 =>
 Ask (rAgg 18 x159) fun x161 =>
 Ask (rBin X.P .neq 37 false true x156 (J 0)) fun x162 =>
 AskG [(x162, false)] (rBin X.P .neq 37 false true x160 (J 0)) fun x163 =>
 Ask (rPick x162 (.bool true) x163) fun x164 =>
 AskG [(x164, false)] (rSel (aggArr x161) 2 4 true) fun x165 =>
 AskGF X [(x164, false)] 34 [x165, (.agg #[x138, x139, x140, x141])] fun x166 =>
 AskG [(x164, false)] (rUn X.P .not x166) fun x167 =>
 Ask (rPick x164 (.bool true) x167) fun x168 =>
 AskG [(x168, false)] (rSel (aggArr x161) 6 4 true) fun x169 =>
 AskGF X [(x168, false)] 34 [x169, (.agg #[x142, x143, x144, x145])] fun x170 =>
 AskG [(x168, false)] (rUn X.P .not x170) fun x171 =>
 Ask (rPick x168 (.bool true) x171) fun x172 =>
 AskG [(x172, false)] (rSel (aggArr x161) 10 4 true) fun x173 =>
 AskGF X [(x172, false)] 36 [x173, (.agg #[x146, x147, x148, x149])] fun x174 =>
 AskG [(x172, false)] (rUn X.P .not x174) fun x175 =>
 Ask (rPick x172 (.bool true) x175) fun x176 =>
 AskG [(x176, false)] (rSel (aggArr x161) 14 4 true) fun x177 =>
 AskGF X [(x176, false)] 36 [x177, (.agg #[x150, x151, x152, x153])] fun x178 =>
 AskG [(x176, false)] (rUn X.P .not x178) fun x179 =>
 Ask (rPick x176 (.bool true) x179) fun x180 =>
 AskG [(x180, false)] (rSel (aggArr x161) 0 1 false) fun x181 =>
 AskGW X [(x180, false)] w158 [b7] (kb5_7 b0 b1 b2 b3 b4 b5 b6 b7 b8 b9 x2 x7 x8 x11 x12 x13 x14 x32 x33 x34 x35 x19 x20 x21 x22 x23 x24 x39 x43 x44 x45 x46 x50 x51 x52 x53 x57 x58 x59 x60 x161 x157 x136 x137 x138 x139 x140 x141 x142 x143 x144 x145 x146 x147 x148 x149 x150 x151 x152 x153) false 35 [x181, x136] fun x182 w182 =>
 AskG [(x180, false)] (rUn X.P .not x182) fun x183 =>
 Ask (rPick x180 (.bool true) x183) fun x184 =>
 AskG [(x184, false)] (rSel (aggArr x161) 1 1 false) fun x185 =>
 AskGW X [(x184, false)] w182 [b7] (kb5_7 b0 b1 b2 b3 b4 b5 b6 b7 b8 b9 x2 x7 x8 x11 x12 x13 x14 x32 x33 x34 x35 x19 x20 x21 x22 x23 x24 x39 x43 x44 x45 x46 x50 x51 x52 x53 x57 x58 x59 x60 x161 x157 x136 x137 x138 x139 x140 x141 x142 x143 x144 x145 x146 x147 x148 x149 x150 x151 x152 x153) false 35 [x185, x137] fun x186 w186 =>
 AskG [(x184, false)] (rUn X.P .not x186) fun x187 =>
 Ask (rPick x184 (.bool true) x187) fun x188 =>
 (∃ t, x188 = .bool t) ∧ (x188 = .bool true →
 Ret X w186 [b7] [] (.bool false)) ∧ (x188 = .bool false →
 AskW X w186 [b2, b7] (kb5_8 b0 b1 b2 b3 b4 b5 b6 b7 b8 b9 x2 x7 x8 x11 x12 x13 x14 x19 x20 x21 x22 x23 x24 x39 x43 x44 x45 x46 x50 x51 x52 x53 x57 x58 x59 x60 x161 x157 x136 x137 x138 x139 x140 x141 x142 x143 x144 x145 x146 x147 x148 x149 x150 x151 x152 x153) false 8 [(.agg #[x11, x12, x13, x14, (U 0), (U 0), (U 0), (U 0), x19, x20, x21, x22, x23, x24]), (.agg #[x7, x8]), x37, (.agg #[x43, x44, x45, x46]), (.agg #[x50, x51, x52, x53]), (.agg #[x57, x58, x59, x60]), (.agg #[x136, x137, x138, x139, x140, x141, x142, x143, x144, x145, x146, x147, x148, x149, x150, x151, x152, x153])] fun x189 w189 =>
 Ask (rExt X.P x189 0) fun _ =>
 Ask (rExt X.P x189 1) fun x191 =>
 Ask (rBin X.P .eql 37 false true x191 (J 61)) fun x192 =>
 Ret X w189 [] [] x192))))) := by kernel_rfl
def pRd (d : Cs) (N : Nat) : SetN := (d.B, othN d.Bl, d.Q, mapN (filV d.G) N, mapN (filV d.H) N)
def q1d (d : Cs) (m n : Nat) : Mt := ⟨⟨pRd d (m * n), m, n, rgtP d m n, rgtT d (m * n)⟩, othN d.y, othN d.z, othN d.x⟩
def anyT (d : Cs) (N : Nat) : StN := (d.taux, d.mu, d.S, d.T2, mapN (filV d.L) N, mapN (filV d.R) N)
def b2d (d : Cs) (m n : Nat) : BkP := ⟨pRd d (m * n), m, n, rgtP d m n, othN d.y, othN d.z, othN d.x, anyT d (m * n)⟩
def b3d (d : Cs) (m n : Nat) : BkP := ⟨(d.B, 0, d.Q, mapN (filV d.G) (m * n), mapN (filV d.H) (m * n)), m, n, rgtP d m n, othN d.y, othN d.z, othN d.x, anyT d (m * n)⟩
theorem rgt_bad (d : Cs) (m n : Nat) : badV m (rgtP d m n) = false := by
  unfold badV
  rw [List.any_eq_false]
  intro o ho
  simp only [rgtP, mapN, List.mem_map, List.mem_range] at ho
  obtain ⟨j, _, rfl⟩ := ho
  have h : (rgtO d m j).1 < 2 ^ m := Nat.mod_lt _ (Nat.pow_pos (by decide))
  simp only [Bool.and_eq_true, decide_eq_true_eq, not_and, Int.toNat_natCast]
  omega
theorem rgt_ok {d : Cs} {m n : Nat} (hm : m ≤ 32) (hn : n ≤ 16) (hB : ∀ x ∈ d.Bs, okS x) : ∀ o ∈ rgtP d m n, okO o := fun o ho => by
  simp only [rgtP, mapN, List.mem_map, List.mem_range] at ho
  obtain ⟨j, hj, rfl⟩ := ho
  have h : (rgtO d m j).1 < 2 ^ m := Nat.mod_lt _ (Nat.pow_pos (by decide))
  exact ⟨Nat.lt_of_lt_of_le h (Nat.le_trans (Nat.pow_le_pow_right (by decide) hm) (by decide)), filV_lt hB (by omega)⟩
theorem pq_ok {d : Cs} {m n : Nat} (h : okSm m n) (t : TpN) (h1 : t.2.2.2.2.1.length = m * n) (h2 : t.2.2.2.2.2.length = m * n) : (⟨pRd d (m * n), m, n, rgtP d m n, t⟩ : Pq).Ok := by
  obtain ⟨m0, m1, n0, n1, mn, hk⟩ := h
  refine ⟨m0, by show m ≤ 64; omega, n0, n1, hk, by show m * n ≤ 60; omega, mapN_len _ _, ?_, ?_, h1, h2, rgt_bad d m n⟩
  · show m * n ≤ (mapN _ _).length; rw [mapN_len]; exact Nat.le_refl _
  · show m * n ≤ (mapN _ _).length; rw [mapN_len]; exact Nat.le_refl _
theorem bk_fit {m n : Nat} {G H s r : Nat} {l : List (Nat × Nat)} (h : okSm m n) (hG : G = m * n) (hH : H = m * n) (hs : s = m * n) (hr : r = m * n) (hl : l.length = n) (hb : badV m l = false) : fitsE m n G H s r l = 0 := by
  obtain ⟨m0, m1, n0, n1, mn, hk⟩ := h
  have e : sizeI m n = ((m * n : Nat) : Int) := sizeI_nat (by omega)
  unfold fitsE enB
  rw [hk, hb, e, hG, hH, hs, hr, hl]
  simp
theorem zer_oth (a b c : Nat) : zerL [othN a, othN b, othN c] = false := by
  simp [zerL, othN_ne]
theorem anyF_map (f : Nat → F) (g : Nat → Nat) (N : Nat) (h : ∀ i, i < N → f i = rF (g i)) : ((mapN f N).map (fun f : F => f.val)).map rF = (mapN g N).map rF := by
  simp only [mapN, List.map_map]
  refine List.map_congr_left fun i hi => ?_
  have hi := List.mem_range.1 hi
  simp only [Function.comp]
  rw [rF_val, h i hi]
theorem set_zero (B Q : Nat) (G H : List Nat) (g h : Value) : (Value.agg (setL (B, 0, Q, G, H) g h).toArray) = .agg (encS B ++ [U 0, U 0, U 0, U 0] ++ encS Q ++ [g, h]).toArray := by kernel_rfl
theorem okSt_out (q : Mt) : okSt q.out := ⟨val_lt q.tx, val_lt q.mu, val_lt q.d.Sg, val_lt q.md.T2⟩
theorem rd_mt2 {w : World} {sv vv lo ro : Value} {p : SetN} {m n : Nat} {vs : List (Nat × Nat)} {y z x : Nat} {al rho t1 t2 : F} {L R : Nat → F} (hset : cSetN.rd w sv p) (hv : LsO w vv vs) (hy : y < W256) (hz : z < W256) (hx : x < W256) (h1 : LsS w lo ((mapN L (m * n)).map (fun f : F => f.val))) (h2 : LsS w ro ((mapN R (m * n)).map (fun f : F => f.val))) :
    cMt.rd w [sv, Pv m n, vv, S y, S z, S x, .agg (tpL (al, rho, t1, t2, mapN L (m * n), mapN R (m * n)) lo ro).toArray] (mt2 p m n vs y z x al rho t1 t2 L R) :=
  ⟨_, _, rfl, hset, _, _, rfl, rfl, _, _, rfl, hv, _, _, rfl, ⟨rfl, hy⟩, _, _, rfl, ⟨rfl, hz⟩, _, _, rfl, ⟨rfl, hx⟩, _, _, rfl, ⟨⟨val_lt al, val_lt rho, val_lt t1, val_lt t2⟩, lo, ro, rfl, h1, h2⟩, rfl⟩
section
variable (d : Cs) (m n : Nat)
theorem q1_x : rF (q1d d m n).x ≠ 0 := othN_ne d.x
theorem q1_y : rF (q1d d m n).y ≠ 0 := othN_ne d.y
theorem q1_b : rF (q1d d m n).d.p.2.1 ≠ 0 := othN_ne d.Bl
theorem q1_al : rF (bkOf (q1d d m n)).alpha.val = rF d.al := by rw [rF_val]; exact bk_alpha _ (q1_x d m n) (q1_y d m n) (q1_b d m n)
theorem q1_rho : rF (bkOf (q1d d m n)).rho.val = rF d.rho := by rw [rF_val]; exact bk_rho _ (q1_x d m n) (q1_y d m n) (q1_b d m n)
theorem q1_t1 : rF (bkOf (q1d d m n)).tau1.val = rF d.t1 := by rw [rF_val]; exact bk_tau1 _ (q1_x d m n) (q1_y d m n) (q1_b d m n)
theorem q1_t2 : rF (bkOf (q1d d m n)).tau2.val = rF d.t2 := by rw [rF_val]; exact bk_tau2 _ (q1_x d m n) (q1_y d m n) (q1_b d m n)
theorem q1_sl : ((mapN (bkOf (q1d d m n)).dsl (m * n)).map (fun f : F => f.val)).map rF = (mapN (filV d.SL) (m * n)).map rF := anyF_map _ _ _ fun i hi => by
  rw [bk_dsl _ (q1_x d m n) hi]
  show rF ((mapN (filV d.SL) (m * n)).getD i 0) = _
  rw [mapN_get _ 0 hi]
theorem q1_sr : ((mapN (bkOf (q1d d m n)).dsr (m * n)).map (fun f : F => f.val)).map rF = (mapN (filV d.SR) (m * n)).map rF := anyF_map _ _ _ fun i hi => by
  rw [bk_dsr _ (q1_x d m n) (q1_y d m n) hi]
  show rF ((mapN (filV d.SR) (m * n)).getD i 0) = _
  rw [mapN_get _ 0 hi]
theorem b2_x : rF (b2d d m n).x ≠ 0 := othN_ne d.x
theorem b2_y : rF (b2d d m n).y ≠ 0 := othN_ne d.y
theorem b2_b : rF (b2d d m n).p.2.1 ≠ 0 := othN_ne d.Bl
theorem b2_N : (b2d d m n).N = m * n := mt_N _ m n rfl rfl
theorem b2_tx : rF (mtOf (b2d d m n) m n).tx.val = rF d.taux := by rw [rF_val]; exact mt_tx _ m n rfl (b2_x d m n)
theorem b2_mu : rF (mtOf (b2d d m n) m n).mu.val = rF d.mu := by rw [rF_val]; exact mt_mu _ m n
theorem b2_Sg : rF (mtOf (b2d d m n) m n).d.Sg.val = rF d.S := by rw [rF_val]; exact mt_Sg _ m n (b2_b d m n) (b2_N d m n)
theorem b2_T2 : rF (mtOf (b2d d m n) m n).md.T2.val = rF d.T2 := by rw [rF_val]; exact mt_T2 _ m n (b2_b d m n) (b2_N d m n)
theorem b2_l : ((mapN (mtOf (b2d d m n) m n).l (m * n)).map (fun f : F => f.val)).map rF = (mapN (filV d.L) (m * n)).map rF := anyF_map _ _ _ fun i hi => by
  rw [mt_l _ m n rfl (b2_x d m n) hi]
  show rF ((mapN (filV d.L) (m * n)).getD i 0) = _
  rw [mapN_get _ 0 hi]
theorem b2_r : ((mapN (mtOf (b2d d m n) m n).r (m * n)).map (fun f : F => f.val)).map rF = (mapN (filV d.R) (m * n)).map rF := anyF_map _ _ _ fun i hi => by
  rw [mt_r _ m n rfl (b2_x d m n) (b2_y d m n) hi]
  show rF ((mapN (filV d.R) (m * n)).getD i 0) = _
  rw [mapN_get _ 0 hi]
theorem b2_err (h : okSm m n) : (b2d d m n).err = 0 := by
  have hf : (b2d d m n).fit = 0 := bk_fit h (mapN_len _ _) (mapN_len _ _) (mapN_len _ _) (mapN_len _ _) (mapN_len _ _) (rgt_bad d m n)
  unfold BkP.err
  rw [hf, if_neg (by decide), if_neg (by show ¬ zerL [othN d.y, othN d.z, othN d.x] = true; rw [zer_oth]; decide), if_neg (b2_b d m n)]
theorem b3_err (h : okSm m n) : (b3d d m n).err = 61 := by
  have hf : (b3d d m n).fit = 0 := bk_fit h (mapN_len _ _) (mapN_len _ _) (mapN_len _ _) (mapN_len _ _) (mapN_len _ _) (rgt_bad d m n)
  unfold BkP.err
  rw [hf, if_neg (by decide), if_neg (by show ¬ zerL [othN d.y, othN d.z, othN d.x] = true; rw [zer_oth]; decide), if_pos (show rF (b3d d m n).p.2.1 = 0 from rF_zero)]
theorem mt_ok (h : okSm m n) : (mtOf (b2d d m n) m n).d.Ok := pq_ok h _ (by show ((mapN _ _).map _).length = _; rw [List.length_map, mapN_len]) (by show ((mapN _ _).map _).length = _; rw [List.length_map, mapN_len])
end
def cRnd : Contract := fnW cCs (fun _ _ => True) (fun _ _ v _ => v = .bool true)
def Trd : Table := (((((((((((T0.add 26 cOth).add 19 cSmp).add 34 cqSame).add 36 cqSame).add 23 cSize).add 24 cSame1).add 20 cFul).add 32 cRgt).add 33 cMch).add 8 cBack).add 35 cSml).add 22 cFil
theorem keepTrd : AllKeep Tryz.prog GT Trd := (((((((((((keepT0.add keepsOth).add keepsSmp).add keepsqSame).add keepsLSm).add keepsSize).add keepsLn1).add keepsFul).add keepsRgt).add keepsMch).add keepsBack).add keepsSml).add keepsFil
theorem p_Same {X : Ctx} {K : Value → Prop} (hS : X.S = Trd.spec) {a b : Nat} (ha : a < W256) (hb : b < W256) (h : rF a = rF b) (hK : K (.bool true)) : AskF X 34 [S a, S b] K := call_PE hS (T := Trd) (f := 34) rfl (a, b) ⟨ha, hb⟩ (by dsimp only; rw [decide_eq_true h]; exact hK)
theorem p_LSame {X : Ctx} {K : Value → Prop} (hS : X.S = Trd.spec) {a b : Nat} (ha : a < W256) (hb : b < W256) (h : rF a = rF b) (hK : K (.bool true)) : AskF X 36 [S a, S b] K := call_PE hS (T := Trd) (f := 36) rfl (a, b) ⟨ha, hb⟩ (by dsimp only; rw [decide_eq_true h]; exact hK)
set_option maxRecDepth 100000 in
set_option maxHeartbeats 16000000 in
theorem keepsRnd : Keeps1 Tryz.prog GT 5 cRnd := by
  refine keepsW (T := Trd) (A := ann5) hMix keepTrd hGT (calls_of (by kernel_rfl)) (callsW_of (by kernel_rfl)) fun args d w0 hrd hpre hg => ?_
  obtain ⟨g', h', v', bl', c', sl', sr', l', r', rfl, ok, at0⟩ := hrd
  refine ⟨[.x (.v 0)], [], [], 2, env0 [.agg (csL d g' h' v' bl' c' sl' sr' l' r').toArray] w0, fun b => b, 0, rfl, rfl, fun X hX => mem_none hX rfl, fun X hP hS hw hX hR => ?_⟩
  subst hw; try dsimp only at hR
  rw [vc5 X]
  refine a_agg (csL_len _ _ _ _ _ _ _ _ _ _) at0.one ?_
  intro b0 hb0
  refine a_sel1 (v := .int .i64 d.b) rfl ?_
  refine a_sel1 (v := .int .i64 d.c) rfl ?_
  refine call_P hS (T := Trd) (f := 19) rfl (d.b, d.c) trivial fun v hv => ?_
  obtain ⟨m, n, rfl, hsm⟩ := hv
  obtain ⟨m0, m1, n0, n1, mn, hk⟩ := hsm
  have hsm : okSm m n := ⟨m0, m1, n0, n1, mn, hk⟩
  intro b1 hb1
  refine a_agg (cs := [J m, J n]) rfl rfl ?_
  refine a_sel1 (v := J m) rfl (a_sel1 (v := J n) rfl ?_)
  have caseRd : ∀ {w : World}, Stp [] X.w0 w → cCs.rd w [.agg (csL d g' h' v' bl' c' sl' sr' l' r').toArray] d := fun hs => ⟨_, _, _, _, _, _, _, _, _, rfl, ok, at0.stp0 hs⟩
  refine call_W hX hS (T := Trd) (f := 20) rfl (d, m, n) (fun w hw => ⟨⟨_, rfl, caseRd (hw.stp.drop (by simpa using hb1))⟩, hsm⟩) fun v u1 w9 h1 k1 s1 su1 hq => ?_
  obtain ⟨g, h, rfl, og0, oh0⟩ := hq
  dsimp only at og0 oh0
  have T9 : Stp [] X.w0 w9 := su1.drop (by simpa using hb1)
  intro b2 hb2
  have cg := own_one og0
  have ch := own_one oh0
  refine a_agg (setL_len _ _ _) (setL_one cg ch) ?_
  iterate 12 refine a_sel1 rfl ?_
  refine a_sel1 (v := g) rfl (a_sel1 (v := h) rfl ?_)
  refine a_selL (ds := encS d.Bl) (by kernel_rfl) (by rw [csL_len]; omega) ?_
  refine call_PE hS (T := Trd) (f := 26) rfl d.Bl ok.Bl ?_
  rw [ask_aggS, ask_selS0, ask_selS1, ask_selS2, ask_selS3, ask_uplain, ask_uplain, ask_uplain, ask_uplain]
  have ge2 : ∀ b ∈ [b2, b2], w9.heap.size ≤ b := by simpa using hb2
  refine call_W hX hS (T := Trd) (f := 32) rfl (d, m, n) (fun w hw => ⟨⟨_, rfl, caseRd (T9.trans0 (hw.stp.drop ge2))⟩, hsm⟩) fun v u2 w36 h2 k2 s2 su2 hq => ?_
  obtain ⟨vs, tl, tr, rfl, ovs, otl, otr⟩ := hq
  dsimp only at ovs otl otr
  have T36 : Stp [] w9 w36 := su2.drop ge2
  have lb2 : b2 < u2.heap.size := h2.low (by simp [kb5_1])
  rw [ask_ext0, ask_ext1]
  intro b3 hb3
  refine a_agg (tpN_len _ _ _) (tpN_one (own_one otl) (own_one otr)) ?_
  refine a_selL (ds := encS d.y) (by kernel_rfl) (by rw [csL_len]; omega) ?_
  refine call_PE hS (T := Trd) (f := 26) rfl d.y ok.y ?_
  intro b4 hb4
  rw [ask_aggS, ask_selS0, ask_selS1, ask_selS2, ask_selS3]
  refine a_selL (ds := encS d.z) (by kernel_rfl) (by rw [csL_len]; omega) ?_
  refine call_PE hS (T := Trd) (f := 26) rfl d.z ok.z ?_
  intro b5 hb5
  rw [ask_aggS, ask_selS0, ask_selS1, ask_selS2, ask_selS3]
  refine a_selL (ds := encS d.x) (by kernel_rfl) (by rw [csL_len]; omega) ?_
  refine call_PE hS (T := Trd) (f := 26) rfl d.x ok.x ?_
  intro b6 hb6
  rw [ask_aggS, ask_selS0, ask_selS1, ask_selS2, ask_selS3]
  have hy' := othN_lt ok.y
  have hz' := othN_lt ok.z
  have hx' := othN_lt ok.x
  have hy := othN_ne d.y
  have hz := othN_ne d.z
  have hx := othN_ne d.x
  have hb := othN_ne d.Bl
  have okp : okSet (pRd d (m * n)) := ⟨ok.B, othN_lt ok.Bl, ok.Q⟩
  have okp0 : okSet (b3d d m n).p := ⟨ok.B, show 0 < W256 by decide, ok.Q⟩
  obtain ⟨q1, eq1⟩ : ∃ q, q = q1d d m n := ⟨_, rfl⟩
  have lg : ∀ {w : World}, Stp [] w9 w → LsS w g (mapN (filV d.G) (m * n)) := fun hs => ⟨by rw [mapN_len]; exact (own_slAt og0).stp0 hs, ls_filV at0.g.2 (by omega)⟩
  have lh : ∀ {w : World}, Stp [] w9 w → LsS w h (mapN (filV d.H) (m * n)) := fun hs => ⟨by rw [mapN_len]; exact (own_slAt oh0).stp0 hs, ls_filV at0.h.2 (by omega)⟩
  have lv : ∀ {w : World}, Stp [] w36 w → LsO w vs (rgtP d m n) := fun hs => ⟨by show SlAt _ _ (mapN _ _).length _; rw [mapN_len]; exact (own_slAt ovs).stp0 hs, rgt_ok m1 n1 at0.bl.2⟩
  have ltl : ∀ {w : World}, Stp [] w36 w → LsS w tl (mapN (filV d.SL) (m * n)) := fun hs => ⟨by rw [mapN_len]; exact (own_slAt otl).stp0 hs, ls_filV at0.sl.2 (by omega)⟩
  have ltr : ∀ {w : World}, Stp [] w36 w → LsS w tr (mapN (filV d.SR) (m * n)) := fun hs => ⟨by rw [mapN_len]; exact (own_slAt otr).stp0 hs, ls_filV at0.sr.2 (by omega)⟩
  have ge6 : ∀ b ∈ [b6, b5, b4, b3], w36.heap.size ≤ b := by simp; omega
  refine call_W hX hS (T := Trd) (f := 33) rfl (q1d d m n) (fun w hw => ⟨⟨_, _, rfl, ⟨okp, g, h, rfl, lg (T36.trans0 (hw.stp.drop ge6)), lh (T36.trans0 (hw.stp.drop ge6))⟩, _, _, rfl, rfl, _, _, rfl, lv (hw.stp.drop ge6), _, _, rfl, ⟨rfl, hy'⟩, _, _, rfl, ⟨rfl, hz'⟩, _, _, rfl, ⟨rfl, hx'⟩, _, _, rfl, ⟨⟨ok.al, ok.rho, ok.t1, ok.t2⟩, tl, tr, rfl, ltl (hw.stp.drop ge6), ltr (hw.stp.drop ge6)⟩, rfl⟩, pq_ok hsm _ (mapN_len _ _) (mapN_len _ _), hy, hz, hx⟩) fun v u3 w61 h3 k3 s3 su3 hq => ?_
  obtain ⟨L1, R1, rfl, oL1, oR1⟩ := hq
  have T61 : Stp [] w36 w61 := su3.drop ge6
  rw [← eq1] at oL1 oR1 ⊢
  have eN1 : q1.d.N = m * n := by rw [eq1]; rfl
  rw [eN1] at oL1 oR1
  have fL1 := own_F oL1
  have fR1 := own_F oR1
  rw [ask_ext0, ask_ext1]
  intro b7 hb7
  refine a_agg (stNL_len _ _ _) (stNL_one (own_one oL1) (own_one oR1)) ?_
  have ge7 : ∀ b ∈ [b7], w61.heap.size ≤ b := by simpa using hb7
  refine call_W hX hS (T := Trd) (f := 8) rfl (bkOf q1) (fun w hw => ⟨by
    have e := hw.stp.drop ge7
    have t := T61.trans0 e
    have m1 := lsF_toS (fL1.stp0 e)
    have m2 := lsF_toS (fR1.stp0 e)
    rw [eq1] at m1 m2 ⊢
    exact ⟨_, _, rfl, ⟨okp, g, h, rfl, lg (T36.trans0 t), lh (T36.trans0 t)⟩, _, _, rfl, rfl, _, _, rfl, lv t, _, _, rfl, ⟨rfl, hy'⟩, _, _, rfl, ⟨rfl, hz'⟩, _, _, rfl, ⟨rfl, hx'⟩, _, _, rfl, ⟨okSt_out _, L1, R1, rfl, m1, m2⟩, rfl⟩, trivial⟩) fun v u4 w65 h4 k4 s4 su4 hq => ?_
  have err1 : (bkOf q1).err = 0 := by
    have hf : (bkOf q1).fit = 0 := by
      rw [eq1]
      exact bk_fit hsm (mapN_len _ _) (mapN_len _ _) (by show ((mapN _ _).map _).length = _; rw [List.length_map, mapN_len]; rfl) (by show ((mapN _ _).map _).length = _; rw [List.length_map, mapN_len]; rfl) (mapN_len _ _) (rgt_bad d m n)
    unfold BkP.err
    rw [hf, if_neg (by decide), if_neg (by rw [eq1]; show ¬ zerL [othN d.y, othN d.z, othN d.x] = true; rw [zer_oth]; decide), if_neg (by rw [eq1]; exact hb)]
  obtain ⟨u, rfl, lo1, ro1, rfl, hlo1, hro1, hoo1⟩ := hq
  have out1 : (bkOf q1).out = ((bkOf q1).alpha, (bkOf q1).rho, (bkOf q1).tau1, (bkOf q1).tau2, mapN (bkOf q1).dsl (bkOf q1).N, mapN (bkOf q1).dsr (bkOf q1).N) := if_pos err1
  rw [out1] at hlo1 hro1 ⊢
  dsimp only at hlo1 hro1
  rw [bk_N, eN1] at hlo1 hro1 ⊢
  have T65 : Stp [] w61 w65 := su4.drop ge7
  rw [err1, ask_ext0, ask_ext1]
  intro b8 hb8
  refine a_agg (tpL_len _ _ _) (tpL_one (slAt_one hlo1.1) (slAt_one hro1.1)) ?_
  rw [ask_neqN]
  refine a_G_on condsV1 ?_
  rw [ask_neqN]
  rw [show (!decide (0 = 0)) = false from rfl, ask_pickF]
  have f1 := q1_al d m n
  have f2 := q1_rho d m n
  have f3 := q1_t1 d m n
  have f4 := q1_t2 d m n
  have f5 := q1_sl d m n
  have f6 := q1_sr d m n
  rw [← eq1] at f1 f2 f3 f4 f5 f6
  generalize (bkOf q1).alpha = A1 at f1 ⊢
  generalize (bkOf q1).rho = A2 at f2 ⊢
  generalize (bkOf q1).tau1 = A3 at f3 ⊢
  generalize (bkOf q1).tau2 = A4 at f4 ⊢
  refine a_G_on condsV1 (a_selL (ds := encF A1) rfl (by rw [tpL_len]; omega) ?_)
  refine a_G_on condsV1 (a_selL (ds := encS d.al) (by first | rfl | kernel_rfl) (by rw [tpN_len]; omega) ?_)
  refine a_GF_on condsV1 (p_Same hS (a := A1.val) (b := d.al) (val_lt _) (ok.al) (f1) ?_)
  refine a_G_on condsV1 ?_
  rw [ask_not, Bool.not_true, ask_pickF]
  refine a_G_on condsV1 (a_selL (ds := encF A2) rfl (by rw [tpL_len]; omega) ?_)
  refine a_G_on condsV1 (a_selL (ds := encS d.rho) (by first | rfl | kernel_rfl) (by rw [tpN_len]; omega) ?_)
  refine a_GF_on condsV1 (p_Same hS (a := A2.val) (b := d.rho) (val_lt _) (ok.rho) (f2) ?_)
  refine a_G_on condsV1 ?_
  rw [ask_not, Bool.not_true, ask_pickF]
  refine a_G_on condsV1 (a_selL (ds := encF A3) rfl (by rw [tpL_len]; omega) ?_)
  refine a_G_on condsV1 (a_selL (ds := encS d.t1) (by first | rfl | kernel_rfl) (by rw [tpN_len]; omega) ?_)
  refine a_GF_on condsV1 (p_Same hS (a := A3.val) (b := d.t1) (val_lt _) (ok.t1) (f3) ?_)
  refine a_G_on condsV1 ?_
  rw [ask_not, Bool.not_true, ask_pickF]
  refine a_G_on condsV1 (a_selL (ds := encF A4) rfl (by rw [tpL_len]; omega) ?_)
  refine a_G_on condsV1 (a_selL (ds := encS d.t2) (by first | rfl | kernel_rfl) (by rw [tpN_len]; omega) ?_)
  refine a_GF_on condsV1 (p_Same hS (a := A4.val) (b := d.t2) (val_lt _) (ok.t2) (f4) ?_)
  refine a_G_on condsV1 ?_
  rw [ask_not, Bool.not_true, ask_pickF]
  have ge8 : ∀ b ∈ [b8], w65.heap.size ≤ b := by simpa using hb8
  have T365 : Stp [] w36 w65 := T61.trans0 T65
  refine a_G_on condsV1 (a_sel1 (v := lo1) rfl ?_)
  refine a_G_on condsV1 (a_sel1 (v := tl) rfl ?_)
  refine a_GW_on condsV1 (call_W hX hS (T := Trd) (f := 35) rfl ((mapN (bkOf q1).dsl (m * n)).map (fun f : F => f.val), mapN (filV d.SL) (m * n), ()) (fun w hw => ⟨⟨_, _, rfl, lsF_toS (hlo1.stp0 (hw.stp.drop ge8)), _, _, rfl, ltl (T365.trans0 (hw.stp.drop ge8)), rfl⟩, f5⟩) fun v u5 w94 h5 k5 s5 su5 hq => ?_)
  subst hq
  refine a_G_on condsV1 ?_
  rw [ask_not, Bool.not_true, ask_pickF]
  refine a_G_on condsV1 (a_sel1 (v := ro1) rfl ?_)
  refine a_G_on condsV1 (a_sel1 (v := tr) rfl ?_)
  have ge88 : ∀ b ∈ [b8] ++ [b8], w65.heap.size ≤ b := by simpa using hb8
  refine a_GW_on condsV1 (call_W hX hS (T := Trd) (f := 35) rfl ((mapN (bkOf q1).dsr (m * n)).map (fun f : F => f.val), mapN (filV d.SR) (m * n), ()) (fun w hw => ⟨⟨_, _, rfl, lsF_toS (hro1.stp0 ((su5.trans hw.stp).drop ge88)), _, _, rfl, ltr (T365.trans0 ((su5.trans hw.stp).drop ge88)), rfl⟩, f6⟩) fun v u5' w99 h5' k5' s5' su5' hq => ?_)
  subst hq
  refine a_G_on condsV1 ?_
  rw [ask_not, Bool.not_true, ask_pickF]
  refine a_if (fun h => by cases h) fun _ => ?_
  -- back again
  have T99 : Stp [] w65 w99 := (su5.trans su5').drop ge88
  obtain ⟨N, eN⟩ : ∃ N, N = m * n := ⟨_, rfl⟩
  have size : ∀ {K : Value → Prop}, K (J N) → AskF X 23 [.agg #[J m, J n]] K := fun hK => call_PE hS (T := Trd) (f := 23) rfl ((m : Int), (n : Int)) trivial (by dsimp only; rw [sizeI_nat (by omega), ← eN]; exact hK)
  have z9 := T9.size; have z36 := T36.size; have z61 := T61.size; have z65 := T65.size; have z99 := T99.size
  have zu2 := h2.size; have zs2 := s2.size
  have c99 : ∀ {w : World}, Stp [b8] w99 w → Stp [] X.w0 w := fun hs => ((T9.trans0 (T36.trans0 (T365.trans0 T99))).trans hs).drop (by simp; omega)
  have Lg := lg (T36.trans0 (T365.trans0 T99))
  have Lh := lh (T36.trans0 (T365.trans0 T99))
  have Lv := lv (T365.trans0 T99)
  have og9 : ∀ b9, w99.heap.size ≤ b9 → ∀ q, g.ownBlock = some q → q ∉ [b2, b7, b8, b9] := fun b9 h9 q hq hm => by
    have := (og0.lt q hq).2
    simp only [List.mem_cons, List.not_mem_nil, or_false] at hm
    omega
  have oh9 : ∀ b9, w99.heap.size ≤ b9 → ∀ q, h.ownBlock = some q → q ∉ [b2, b7, b8, b9] := fun b9 h9 q hq hm => by
    have := (oh0.lt q hq).2
    simp only [List.mem_cons, List.not_mem_nil, or_false] at hm
    omega
  have ov9 : ∀ b9, w99.heap.size ≤ b9 → ∀ q, vs.ownBlock = some q → q ∉ [b2, b7, b8, b9] := fun b9 h9 q hq hm => by
    have := ovs.lt q hq
    simp only [List.mem_cons, List.not_mem_nil, or_false] at hm
    omega
  have keep9 : ∀ (b9 : Nat), w99.heap.size ≤ b9 → ∀ {α : Type} {enc : α → List Value} {ok' : α → Prop} {v : Value} {l : List α} {w : World} {ex : List Nat}, Ls enc ok' w99 v l → (∀ q, v.ownBlock = some q → q ∉ [b2, b7, b8, b9]) → Stp ex w99 w → (∀ b ∈ ex, b ∈ [b2, b7, b8, b9]) → Ls enc ok' w v l := fun b9 _ {_ _ _ _ _ _ _} hl ho hs he => hl.stp hs fun q hq hm => ho q hq (he q hm)
  obtain ⟨b2k, e2k⟩ : ∃ b, b = b2d d m n := ⟨_, rfl⟩
  obtain ⟨mt, emt⟩ : ∃ q, q = mtOf (b2d d m n) m n := ⟨_, rfl⟩
  have mt_ : mt = mtOf (b2d d m n) m n := emt
  have err2 := b2_err d m n hsm
  have err3 := b3_err d m n hsm
  have mtok : mt.d.Ok := emt ▸ mt_ok d m n hsm
  have e1 : rF mt.tx.val = rF d.taux := emt ▸ b2_tx d m n
  have e2 : rF mt.mu.val = rF d.mu := emt ▸ b2_mu d m n
  have e3 : rF mt.d.Sg.val = rF d.S := emt ▸ b2_Sg d m n
  have e4 : rF mt.md.T2.val = rF d.T2 := emt ▸ b2_T2 d m n
  have e5 : ((mapN mt.l (m * n)).map (fun f : F => f.val)).map rF = (mapN (filV d.L) (m * n)).map rF := emt ▸ b2_l d m n
  have e6 : ((mapN mt.r (m * n)).map (fun f : F => f.val)).map rF = (mapN (filV d.R) (m * n)).map rF := emt ▸ b2_r d m n
  refine ⟨⟨?_, ?_⟩, ?_⟩
  · skip
    refine a_sel1 (v := l') (by kernel_rfl) (size ?_)
    refine call_W hX hS (T := Trd) (f := 22) rfl (d.L, N, ()) (fun w hw => ⟨⟨_, _, rfl, (at0.stp0 (c99 hw.stp)).l, _, _, rfl, rfl, rfl⟩, by show N ≤ 64; omega⟩) fun xl u6 w6 h6 k6 s6 su6 oxl => ?_
    dsimp only at oxl
    have zz6 := h6.size
    have zs6 := s6.size
    have l6 : ∀ b ∈ [b2, b7, b8], b < u6.heap.size := fun b hb => by
      simp only [List.mem_cons, List.not_mem_nil, or_false] at hb
      rcases hb with rfl | rfl | rfl <;> exact h6.low (by simp [kb5_4])
    refine a_sel1 (v := r') (by kernel_rfl) (size ?_)
    refine call_W hX hS (T := Trd) (f := 22) rfl (d.R, N, ()) (fun w hw => ⟨⟨_, _, rfl, (at0.stp0 (c99 (su6.trans hw.stp))).r, _, _, rfl, rfl, rfl⟩, by show N ≤ 64; omega⟩) fun xr u7 w7 h7 k7 s7 su7 oxr => ?_
    dsimp only at oxr
    have zz7 := h7.size
    have zs7 := s7.size
    have S7 : Stp [b8] w99 w7 := by simpa using su6.trans su7
    refine a_selL (ds := encS d.taux) (by kernel_rfl) (by rw [csL_len]; omega) ?_
    refine a_selL (ds := encS d.mu) (by kernel_rfl) (by rw [csL_len]; omega) ?_
    refine a_selL (ds := encS d.S) (by kernel_rfl) (by rw [csL_len]; omega) ?_
    refine call_PE hS (T := Trd) (f := 24) rfl d.S ok.S ?_
    refine a_selL (ds := encS d.T2) (by kernel_rfl) (by rw [csL_len]; omega) ?_
    refine call_PE hS (T := Trd) (f := 24) rfl d.T2 ok.T2 ?_
    have cxl := own_one oxl
    have cxr := own_one oxr
    refine a_plain cxl (a_plain cxr ?_)
    iterate 4
      refine a_agg (cs := encS _) rfl (one_encS _) ?_
      iterate 4 refine a_sel1 rfl ?_
    intro b9 hb9
    refine a_plain cxl (a_plain cxr ?_)
    iterate 16 refine a_plain rfl ?_
    have b99 : w99.heap.size ≤ b9 := by omega
    have kp := fun {α : Type} {enc : α → List Value} {ok' : α → Prop} {v : Value} {l : List α} {w : World} {ex : List Nat} => @keep9 b9 b99 α enc ok' v l w ex
    have og := og9 b9 b99
    have oh := oh9 b9 b99
    have ov := ov9 b9 b99
    have Ll : LsS w7 xl (mapN (filV d.L) (m * n)) := eN ▸ ⟨by rw [mapN_len]; exact own_slAt (own_stp0 oxl su7), ls_filV at0.l.2 (by omega)⟩
    have Lr : LsS w7 xr (mapN (filV d.R) (m * n)) := eN ▸ ⟨by rw [mapN_len]; exact own_slAt oxr, ls_filV at0.r.2 (by omega)⟩
    have ol : ∀ q, xl.ownBlock = some q → q ∉ [b2, b7, b8, b9] := fun q hq hm => by
      have h1 := oxl.lt q hq
      have h2 := l6 b2 (by simp); have h3 := l6 b7 (by simp); have h4 := l6 b8 (by simp)
      simp only [List.mem_cons, List.not_mem_nil, or_false] at hm
      omega
    have orr : ∀ q, xr.ownBlock = some q → q ∉ [b2, b7, b8, b9] := fun q hq hm => by
      have h1 := oxr.lt q hq
      have h2 := l6 b2 (by simp); have h3 := l6 b7 (by simp); have h4 := l6 b8 (by simp)
      simp only [List.mem_cons, List.not_mem_nil, or_false] at hm
      omega
    refine call_W hX hS (T := Trd) (f := 8) rfl (b2d d m n) (fun w hw => ⟨⟨_, _, rfl, ⟨okp, g, h, rfl, kp Lg og (S7.trans hw.stp) (by simp), kp Lh oh (S7.trans hw.stp) (by simp)⟩, _, _, rfl, rfl, _, _, rfl, kp Lv ov (S7.trans hw.stp) (by simp), _, _, rfl, ⟨rfl, hy'⟩, _, _, rfl, ⟨rfl, hz'⟩, _, _, rfl, ⟨rfl, hx'⟩, _, _, rfl, ⟨⟨ok.taux, ok.mu, ok.S, ok.T2⟩, xl, xr, rfl, Ll.stp hw.stp (fun q hq hm => ol q hq (by simp at hm ⊢; omega)), Lr.stp hw.stp (fun q hq hm => orr q hq (by simp at hm ⊢; omega))⟩, rfl⟩, trivial⟩) fun e u8 w8 h8 k8 s8 su8 hq => ?_
    obtain ⟨u, rfl, lo, ro, rfl, hlo, hro, hoo⟩ := hq
    have out2 : (b2d d m n).out = ((b2d d m n).alpha, (b2d d m n).rho, (b2d d m n).tau1, (b2d d m n).tau2, mapN (b2d d m n).dsl (b2d d m n).N, mapN (b2d d m n).dsr (b2d d m n).N) := if_pos err2
    rw [out2] at hlo hro ⊢
    dsimp only at hlo hro
    rw [mt_N (b2d d m n) m n rfl rfl] at hlo hro ⊢
    have lb8 : b8 < u8.heap.size := h8.low (by simp [kb5_5])
    have lb7 : b7 < u8.heap.size := h8.low (by simp [kb5_5])
    have lb2 : b2 < u8.heap.size := h8.low (by simp [kb5_5])
    rw [err2, ask_ext0, ask_ext1]
    refine a_agg (tpL_len _ _ _) (tpL_one (slAt_one hlo.1) (slAt_one hro.1)) ?_
    have off8 : ∀ x ∈ [lo, ro], ∀ q, x.ownBlock = some q → q ∉ [b8] := fun x hx q hq hm => by
      have := (hoo x hx q hq).1
      simp at hm; omega
    have S8 : Stp ([b8] ++ [b9]) w99 w8 := S7.trans su8
    refine call_W hX hS (T := Trd) (f := 33) rfl mt (fun w hw => ⟨by
        rw [emt, mtOf]
        exact rd_mt2 ⟨okp, g, h, rfl, kp Lg og (S8.trans hw.stp) (by simp), kp Lh oh (S8.trans hw.stp) (by simp)⟩ (kp Lv ov (S8.trans hw.stp) (by simp)) hy' hz' hx' (lsF_toS (hlo.stp hw.stp (off8 lo (by simp)))) (lsF_toS (hro.stp hw.stp (off8 ro (by simp)))), mtok, by rw [emt]; exact hy, by rw [emt]; exact hz, by rw [emt]; exact hx⟩) fun e u9 w9' h9 k9 s9 su9 hq => ?_
    obtain ⟨L2, R2, rfl, oL2, oR2⟩ := hq
    rw [show mt.d.N = m * n by rw [emt]; rfl] at oL2 oR2
    have fL2 := own_F oL2
    have fR2 := own_F oR2
    rw [ask_ext0, ask_ext1]
    refine a_agg (stNL_len _ _ _) (stNL_one (own_one oL2) (own_one oR2)) ?_
    rw [ask_neqN]
    refine a_G_on condsV1 ?_
    rw [ask_neqN]
    rw [show (!decide (0 = 0)) = false from rfl, ask_pickF]
    refine a_G_on condsV1 (a_selL (ds := encF mt.tx) rfl (by rw [stNL_len]; omega) ?_)
    refine a_GF_on condsV1 (p_Same hS (a := mt.tx.val) (b := d.taux) (val_lt _) (ok.taux) (e1) ?_)
    refine a_G_on condsV1 ?_
    rw [ask_not, Bool.not_true, ask_pickF]
    refine a_G_on condsV1 (a_selL (ds := encF mt.mu) rfl (by rw [stNL_len]; omega) ?_)
    refine a_GF_on condsV1 (p_Same hS (a := mt.mu.val) (b := d.mu) (val_lt _) (ok.mu) (e2) ?_)
    refine a_G_on condsV1 ?_
    rw [ask_not, Bool.not_true, ask_pickF]
    refine a_G_on condsV1 (a_selL (ds := encF mt.d.Sg) rfl (by rw [stNL_len]; omega) ?_)
    refine a_GF_on condsV1 (p_LSame hS (a := mt.d.Sg.val) (b := d.S) (val_lt _) (ok.S) (e3) ?_)
    refine a_G_on condsV1 ?_
    rw [ask_not, Bool.not_true, ask_pickF]
    refine a_G_on condsV1 (a_selL (ds := encF mt.md.T2) rfl (by rw [stNL_len]; omega) ?_)
    refine a_GF_on condsV1 (p_LSame hS (a := mt.md.T2.val) (b := d.T2) (val_lt _) (ok.T2) (e4) ?_)
    refine a_G_on condsV1 ?_
    rw [ask_not, Bool.not_true, ask_pickF]
    refine a_G_on condsV1 (a_sel1 (v := L2) rfl ?_)
    have S9 : Stp (([b8] ++ [b9]) ++ [b8]) w99 w9' := S8.trans su9
    have lk7 : ∀ {v : Value} {xs : List Value} {n e s : Nat}, w9'.ownsRow u9.heap.size e s v n xs → ∀ q, v.ownBlock = some q → q ∉ [b7] := fun ho q hq hm => by
      have h1 := (ho.lt q hq).1
      have h2 := h9.size
      have h3 := s8.size
      simp at hm; omega
    have pl : ∀ {w : World} {ex : List Nat}, Stp ex w9' w → (∀ b ∈ ex, b ∈ [b2, b7, b8, b9]) → LsS w xl (mapN (filV d.L) (m * n)) ∧ LsS w xr (mapN (filV d.R) (m * n)) := fun hs he => by
      have h1 := (su8.trans su9).trans hs
      exact ⟨Ll.stp h1 fun q hq hm => ol q hq (by
        simp only [List.mem_append, List.mem_singleton] at hm
        rcases hm with (rfl | rfl) | hm
        · simp
        · simp
        · exact he q hm), Lr.stp h1 fun q hq hm => orr q hq (by
        simp only [List.mem_append, List.mem_singleton] at hm
        rcases hm with (rfl | rfl) | hm
        · simp
        · simp
        · exact he q hm)⟩
    refine a_GW_on condsV1 (call_W hX hS (T := Trd) (f := 35) rfl ((mapN mt.l (m * n)).map (fun f : F => f.val), mapN (filV d.L) (m * n), ()) (fun w hw => ⟨⟨_, _, rfl, lsF_toS (fL2.stp hw.stp (lk7 oL2)), _, _, rfl, (pl hw.stp (by simp)).1, rfl⟩, e5⟩) fun v u10 w10 h10 k10 s10 su10 hq => ?_)
    subst hq
    refine a_G_on condsV1 ?_
    rw [ask_not, Bool.not_true, ask_pickF]
    refine a_G_on condsV1 (a_sel1 (v := R2) rfl ?_)
    refine a_GW_on condsV1 (call_W hX hS (T := Trd) (f := 35) rfl ((mapN mt.r (m * n)).map (fun f : F => f.val), mapN (filV d.R) (m * n), ()) (fun w hw => ⟨⟨_, _, rfl, lsF_toS ((fR2.stp su10 (lk7 oR2)).stp hw.stp (lk7 oR2)), _, _, rfl, (pl (su10.trans hw.stp) (by simp)).2, rfl⟩, e6⟩) fun v u11 w11 h11 k11 s11 su11 hq => ?_)
    subst hq
    refine a_G_on condsV1 ?_
    rw [ask_not, Bool.not_true, ask_pickF]
    refine a_if (fun h => by cases h) fun _ => ?_
    have S11 := (S9.trans su10).trans su11
    refine call_W hX hS (T := Trd) (f := 8) rfl (b3d d m n) (fun w hw => ⟨⟨_, _, rfl, ⟨okp0, g, h, (set_zero d.B d.Q _ _ g h).symm, kp Lg og (S11.trans hw.stp) (by simp), kp Lh oh (S11.trans hw.stp) (by simp)⟩, _, _, rfl, rfl, _, _, rfl, kp Lv ov (S11.trans hw.stp) (by simp), _, _, rfl, ⟨rfl, hy'⟩, _, _, rfl, ⟨rfl, hz'⟩, _, _, rfl, ⟨rfl, hx'⟩, _, _, rfl, ⟨⟨ok.taux, ok.mu, ok.S, ok.T2⟩, xl, xr, rfl, (pl ((su10.trans su11).trans hw.stp) (by simp)).1, (pl ((su10.trans su11).trans hw.stp) (by simp)).2⟩, rfl⟩, trivial⟩) fun e u12 w12 h12 k12 s12 su12 hq => ?_
    obtain ⟨u', rfl, _⟩ := hq
    rw [err3, ask_ext0, ask_ext1, ask_eqlN]
    exact hR _ _ _ _ fun _ _ => rfl
  · skip
    refine a_sel1 (v := l') (by kernel_rfl) (size ?_)
    refine call_W hX hS (T := Trd) (f := 22) rfl (d.L, N, ()) (fun w hw => ⟨⟨_, _, rfl, (at0.stp0 (c99 hw.stp)).l, _, _, rfl, rfl, rfl⟩, by show N ≤ 64; omega⟩) fun xl u6 w6 h6 k6 s6 su6 oxl => ?_
    dsimp only at oxl
    have zz6 := h6.size
    have zs6 := s6.size
    have l6 : ∀ b ∈ [b2, b7, b8], b < u6.heap.size := fun b hb => by
      simp only [List.mem_cons, List.not_mem_nil, or_false] at hb
      rcases hb with rfl | rfl | rfl <;> exact h6.low (by simp [kb5_4])
    intro b9 hb9
    refine a_sel1 (v := r') (by kernel_rfl) (size ?_)
    refine call_W hX hS (T := Trd) (f := 22) rfl (d.R, N, ()) (fun w hw => ⟨⟨_, _, rfl, (at0.stp0 (c99 (su6.trans hw.stp))).r, _, _, rfl, rfl, rfl⟩, by show N ≤ 64; omega⟩) fun xr u7 w7 h7 k7 s7 su7 oxr => ?_
    dsimp only at oxr
    have zz7 := h7.size
    have zs7 := s7.size
    have S7 : Stp [b8] w99 w7 := by simpa using su6.trans su7
    have lb9 : b9 < u7.heap.size := h7.low (by simp [kb5_9])
    refine a_selL (ds := encS d.taux) (by kernel_rfl) (by rw [csL_len]; omega) ?_
    refine a_selL (ds := encS d.mu) (by kernel_rfl) (by rw [csL_len]; omega) ?_
    refine a_selL (ds := encS d.S) (by kernel_rfl) (by rw [csL_len]; omega) ?_
    refine call_PE hS (T := Trd) (f := 24) rfl d.S ok.S ?_
    refine a_selL (ds := encS d.T2) (by kernel_rfl) (by rw [csL_len]; omega) ?_
    refine call_PE hS (T := Trd) (f := 24) rfl d.T2 ok.T2 ?_
    have cxl := own_one oxl
    have cxr := own_one oxr
    refine a_plain cxl (a_plain cxr ?_)
    iterate 4
      refine a_agg (cs := encS _) rfl (one_encS _) ?_
      iterate 4 refine a_sel1 rfl ?_
    refine a_plain cxl (a_plain cxr ?_)
    iterate 16 refine a_plain rfl ?_
    have b99 : w99.heap.size ≤ b9 := by omega
    have kp := fun {α : Type} {enc : α → List Value} {ok' : α → Prop} {v : Value} {l : List α} {w : World} {ex : List Nat} => @keep9 b9 b99 α enc ok' v l w ex
    have og := og9 b9 b99
    have oh := oh9 b9 b99
    have ov := ov9 b9 b99
    have Ll : LsS w7 xl (mapN (filV d.L) (m * n)) := eN ▸ ⟨by rw [mapN_len]; exact own_slAt (own_stp0 oxl su7), ls_filV at0.l.2 (by omega)⟩
    have Lr : LsS w7 xr (mapN (filV d.R) (m * n)) := eN ▸ ⟨by rw [mapN_len]; exact own_slAt oxr, ls_filV at0.r.2 (by omega)⟩
    have ol : ∀ q, xl.ownBlock = some q → q ∉ [b2, b7, b8, b9] := fun q hq hm => by
      have h1 := oxl.lt q hq
      have h2 := l6 b2 (by simp); have h3 := l6 b7 (by simp); have h4 := l6 b8 (by simp)
      simp only [List.mem_cons, List.not_mem_nil, or_false] at hm
      omega
    have orr : ∀ q, xr.ownBlock = some q → q ∉ [b2, b7, b8, b9] := fun q hq hm => by
      have h1 := oxr.lt q hq
      have h2 := l6 b2 (by simp); have h3 := l6 b7 (by simp); have h4 := l6 b8 (by simp)
      simp only [List.mem_cons, List.not_mem_nil, or_false] at hm
      omega
    refine call_W hX hS (T := Trd) (f := 8) rfl (b2d d m n) (fun w hw => ⟨⟨_, _, rfl, ⟨okp, g, h, rfl, kp Lg og (S7.trans hw.stp) (by simp), kp Lh oh (S7.trans hw.stp) (by simp)⟩, _, _, rfl, rfl, _, _, rfl, kp Lv ov (S7.trans hw.stp) (by simp), _, _, rfl, ⟨rfl, hy'⟩, _, _, rfl, ⟨rfl, hz'⟩, _, _, rfl, ⟨rfl, hx'⟩, _, _, rfl, ⟨⟨ok.taux, ok.mu, ok.S, ok.T2⟩, xl, xr, rfl, Ll.stp hw.stp (fun q hq hm => ol q hq (by simp at hm ⊢; omega)), Lr.stp hw.stp (fun q hq hm => orr q hq (by simp at hm ⊢; omega))⟩, rfl⟩, trivial⟩) fun e u8 w8 h8 k8 s8 su8 hq => ?_
    obtain ⟨u, rfl, lo, ro, rfl, hlo, hro, hoo⟩ := hq
    have out2 : (b2d d m n).out = ((b2d d m n).alpha, (b2d d m n).rho, (b2d d m n).tau1, (b2d d m n).tau2, mapN (b2d d m n).dsl (b2d d m n).N, mapN (b2d d m n).dsr (b2d d m n).N) := if_pos err2
    rw [out2] at hlo hro ⊢
    dsimp only at hlo hro
    rw [mt_N (b2d d m n) m n rfl rfl] at hlo hro ⊢
    have lb8 : b8 < u8.heap.size := h8.low (by simp [kb5_5])
    have lb7 : b7 < u8.heap.size := h8.low (by simp [kb5_5])
    have lb2 : b2 < u8.heap.size := h8.low (by simp [kb5_5])
    rw [err2, ask_ext0, ask_ext1]
    refine a_agg (tpL_len _ _ _) (tpL_one (slAt_one hlo.1) (slAt_one hro.1)) ?_
    have off8 : ∀ x ∈ [lo, ro], ∀ q, x.ownBlock = some q → q ∉ [b8] := fun x hx q hq hm => by
      have := (hoo x hx q hq).1
      simp at hm; omega
    have S8 : Stp ([b8] ++ [b9]) w99 w8 := S7.trans su8
    refine call_W hX hS (T := Trd) (f := 33) rfl mt (fun w hw => ⟨by
        rw [emt, mtOf]
        exact rd_mt2 ⟨okp, g, h, rfl, kp Lg og (S8.trans hw.stp) (by simp), kp Lh oh (S8.trans hw.stp) (by simp)⟩ (kp Lv ov (S8.trans hw.stp) (by simp)) hy' hz' hx' (lsF_toS (hlo.stp hw.stp (off8 lo (by simp)))) (lsF_toS (hro.stp hw.stp (off8 ro (by simp)))), mtok, by rw [emt]; exact hy, by rw [emt]; exact hz, by rw [emt]; exact hx⟩) fun e u9 w9' h9 k9 s9 su9 hq => ?_
    obtain ⟨L2, R2, rfl, oL2, oR2⟩ := hq
    rw [show mt.d.N = m * n by rw [emt]; rfl] at oL2 oR2
    have fL2 := own_F oL2
    have fR2 := own_F oR2
    rw [ask_ext0, ask_ext1]
    refine a_agg (stNL_len _ _ _) (stNL_one (own_one oL2) (own_one oR2)) ?_
    rw [ask_neqN]
    refine a_G_on condsV1 ?_
    rw [ask_neqN]
    rw [show (!decide (0 = 0)) = false from rfl, ask_pickF]
    refine a_G_on condsV1 (a_selL (ds := encF mt.tx) rfl (by rw [stNL_len]; omega) ?_)
    refine a_GF_on condsV1 (p_Same hS (a := mt.tx.val) (b := d.taux) (val_lt _) (ok.taux) (e1) ?_)
    refine a_G_on condsV1 ?_
    rw [ask_not, Bool.not_true, ask_pickF]
    refine a_G_on condsV1 (a_selL (ds := encF mt.mu) rfl (by rw [stNL_len]; omega) ?_)
    refine a_GF_on condsV1 (p_Same hS (a := mt.mu.val) (b := d.mu) (val_lt _) (ok.mu) (e2) ?_)
    refine a_G_on condsV1 ?_
    rw [ask_not, Bool.not_true, ask_pickF]
    refine a_G_on condsV1 (a_selL (ds := encF mt.d.Sg) rfl (by rw [stNL_len]; omega) ?_)
    refine a_GF_on condsV1 (p_LSame hS (a := mt.d.Sg.val) (b := d.S) (val_lt _) (ok.S) (e3) ?_)
    refine a_G_on condsV1 ?_
    rw [ask_not, Bool.not_true, ask_pickF]
    refine a_G_on condsV1 (a_selL (ds := encF mt.md.T2) rfl (by rw [stNL_len]; omega) ?_)
    refine a_GF_on condsV1 (p_LSame hS (a := mt.md.T2.val) (b := d.T2) (val_lt _) (ok.T2) (e4) ?_)
    refine a_G_on condsV1 ?_
    rw [ask_not, Bool.not_true, ask_pickF]
    refine a_G_on condsV1 (a_sel1 (v := L2) rfl ?_)
    have S9 : Stp (([b8] ++ [b9]) ++ [b8]) w99 w9' := S8.trans su9
    have lk7 : ∀ {v : Value} {xs : List Value} {n e s : Nat}, w9'.ownsRow u9.heap.size e s v n xs → ∀ q, v.ownBlock = some q → q ∉ [b7] := fun ho q hq hm => by
      have h1 := (ho.lt q hq).1
      have h2 := h9.size
      have h3 := s8.size
      simp at hm; omega
    have pl : ∀ {w : World} {ex : List Nat}, Stp ex w9' w → (∀ b ∈ ex, b ∈ [b2, b7, b8, b9]) → LsS w xl (mapN (filV d.L) (m * n)) ∧ LsS w xr (mapN (filV d.R) (m * n)) := fun hs he => by
      have h1 := (su8.trans su9).trans hs
      exact ⟨Ll.stp h1 fun q hq hm => ol q hq (by
        simp only [List.mem_append, List.mem_singleton] at hm
        rcases hm with (rfl | rfl) | hm
        · simp
        · simp
        · exact he q hm), Lr.stp h1 fun q hq hm => orr q hq (by
        simp only [List.mem_append, List.mem_singleton] at hm
        rcases hm with (rfl | rfl) | hm
        · simp
        · simp
        · exact he q hm)⟩
    refine a_GW_on condsV1 (call_W hX hS (T := Trd) (f := 35) rfl ((mapN mt.l (m * n)).map (fun f : F => f.val), mapN (filV d.L) (m * n), ()) (fun w hw => ⟨⟨_, _, rfl, lsF_toS (fL2.stp hw.stp (lk7 oL2)), _, _, rfl, (pl hw.stp (by simp)).1, rfl⟩, e5⟩) fun v u10 w10 h10 k10 s10 su10 hq => ?_)
    subst hq
    refine a_G_on condsV1 ?_
    rw [ask_not, Bool.not_true, ask_pickF]
    refine a_G_on condsV1 (a_sel1 (v := R2) rfl ?_)
    refine a_GW_on condsV1 (call_W hX hS (T := Trd) (f := 35) rfl ((mapN mt.r (m * n)).map (fun f : F => f.val), mapN (filV d.R) (m * n), ()) (fun w hw => ⟨⟨_, _, rfl, lsF_toS ((fR2.stp su10 (lk7 oR2)).stp hw.stp (lk7 oR2)), _, _, rfl, (pl (su10.trans hw.stp) (by simp)).2, rfl⟩, e6⟩) fun v u11 w11 h11 k11 s11 su11 hq => ?_)
    subst hq
    refine a_G_on condsV1 ?_
    rw [ask_not, Bool.not_true, ask_pickF]
    refine a_if (fun h => by cases h) fun _ => ?_
    have S11 := (S9.trans su10).trans su11
    refine call_W hX hS (T := Trd) (f := 8) rfl (b3d d m n) (fun w hw => ⟨⟨_, _, rfl, ⟨okp0, g, h, (set_zero d.B d.Q _ _ g h).symm, kp Lg og (S11.trans hw.stp) (by simp), kp Lh oh (S11.trans hw.stp) (by simp)⟩, _, _, rfl, rfl, _, _, rfl, kp Lv ov (S11.trans hw.stp) (by simp), _, _, rfl, ⟨rfl, hy'⟩, _, _, rfl, ⟨rfl, hz'⟩, _, _, rfl, ⟨rfl, hx'⟩, _, _, rfl, ⟨⟨ok.taux, ok.mu, ok.S, ok.T2⟩, xl, xr, rfl, (pl ((su10.trans su11).trans hw.stp) (by simp)).1, (pl ((su10.trans su11).trans hw.stp) (by simp)).2⟩, rfl⟩, trivial⟩) fun e u12 w12 h12 k12 s12 su12 hq => ?_
    obtain ⟨u', rfl, _⟩ := hq
    rw [err3, ask_ext0, ask_ext1, ask_eqlN]
    exact hR _ _ _ _ fun _ _ => rfl
  · skip
    intro b9 hb9
    refine a_sel1 (v := l') (by kernel_rfl) (size ?_)
    refine call_W hX hS (T := Trd) (f := 22) rfl (d.L, N, ()) (fun w hw => ⟨⟨_, _, rfl, (at0.stp0 (c99 hw.stp)).l, _, _, rfl, rfl, rfl⟩, by show N ≤ 64; omega⟩) fun xl u6 w6 h6 k6 s6 su6 oxl => ?_
    dsimp only at oxl
    have zz6 := h6.size
    have zs6 := s6.size
    have l6 : ∀ b ∈ [b2, b7, b8], b < u6.heap.size := fun b hb => by
      simp only [List.mem_cons, List.not_mem_nil, or_false] at hb
      rcases hb with rfl | rfl | rfl <;> exact h6.low (by simp [kb5_9])
    have lb9 : b9 < u6.heap.size := h6.low (by simp [kb5_9])
    refine a_sel1 (v := r') (by kernel_rfl) (size ?_)
    refine call_W hX hS (T := Trd) (f := 22) rfl (d.R, N, ()) (fun w hw => ⟨⟨_, _, rfl, (at0.stp0 (c99 (su6.trans hw.stp))).r, _, _, rfl, rfl, rfl⟩, by show N ≤ 64; omega⟩) fun xr u7 w7 h7 k7 s7 su7 oxr => ?_
    dsimp only at oxr
    have zz7 := h7.size
    have zs7 := s7.size
    have S7 : Stp [b8] w99 w7 := by simpa using su6.trans su7
    refine a_selL (ds := encS d.taux) (by kernel_rfl) (by rw [csL_len]; omega) ?_
    refine a_selL (ds := encS d.mu) (by kernel_rfl) (by rw [csL_len]; omega) ?_
    refine a_selL (ds := encS d.S) (by kernel_rfl) (by rw [csL_len]; omega) ?_
    refine call_PE hS (T := Trd) (f := 24) rfl d.S ok.S ?_
    refine a_selL (ds := encS d.T2) (by kernel_rfl) (by rw [csL_len]; omega) ?_
    refine call_PE hS (T := Trd) (f := 24) rfl d.T2 ok.T2 ?_
    have cxl := own_one oxl
    have cxr := own_one oxr
    refine a_plain cxl (a_plain cxr ?_)
    iterate 4
      refine a_agg (cs := encS _) rfl (one_encS _) ?_
      iterate 4 refine a_sel1 rfl ?_
    refine a_plain cxl (a_plain cxr ?_)
    iterate 16 refine a_plain rfl ?_
    have b99 : w99.heap.size ≤ b9 := by omega
    have kp := fun {α : Type} {enc : α → List Value} {ok' : α → Prop} {v : Value} {l : List α} {w : World} {ex : List Nat} => @keep9 b9 b99 α enc ok' v l w ex
    have og := og9 b9 b99
    have oh := oh9 b9 b99
    have ov := ov9 b9 b99
    have Ll : LsS w7 xl (mapN (filV d.L) (m * n)) := eN ▸ ⟨by rw [mapN_len]; exact own_slAt (own_stp0 oxl su7), ls_filV at0.l.2 (by omega)⟩
    have Lr : LsS w7 xr (mapN (filV d.R) (m * n)) := eN ▸ ⟨by rw [mapN_len]; exact own_slAt oxr, ls_filV at0.r.2 (by omega)⟩
    have ol : ∀ q, xl.ownBlock = some q → q ∉ [b2, b7, b8, b9] := fun q hq hm => by
      have h1 := oxl.lt q hq
      have h2 := l6 b2 (by simp); have h3 := l6 b7 (by simp); have h4 := l6 b8 (by simp)
      simp only [List.mem_cons, List.not_mem_nil, or_false] at hm
      omega
    have orr : ∀ q, xr.ownBlock = some q → q ∉ [b2, b7, b8, b9] := fun q hq hm => by
      have h1 := oxr.lt q hq
      have h2 := l6 b2 (by simp); have h3 := l6 b7 (by simp); have h4 := l6 b8 (by simp)
      simp only [List.mem_cons, List.not_mem_nil, or_false] at hm
      omega
    refine call_W hX hS (T := Trd) (f := 8) rfl (b2d d m n) (fun w hw => ⟨⟨_, _, rfl, ⟨okp, g, h, rfl, kp Lg og (S7.trans hw.stp) (by simp), kp Lh oh (S7.trans hw.stp) (by simp)⟩, _, _, rfl, rfl, _, _, rfl, kp Lv ov (S7.trans hw.stp) (by simp), _, _, rfl, ⟨rfl, hy'⟩, _, _, rfl, ⟨rfl, hz'⟩, _, _, rfl, ⟨rfl, hx'⟩, _, _, rfl, ⟨⟨ok.taux, ok.mu, ok.S, ok.T2⟩, xl, xr, rfl, Ll.stp hw.stp (fun q hq hm => ol q hq (by simp at hm ⊢; omega)), Lr.stp hw.stp (fun q hq hm => orr q hq (by simp at hm ⊢; omega))⟩, rfl⟩, trivial⟩) fun e u8 w8 h8 k8 s8 su8 hq => ?_
    obtain ⟨u, rfl, lo, ro, rfl, hlo, hro, hoo⟩ := hq
    have out2 : (b2d d m n).out = ((b2d d m n).alpha, (b2d d m n).rho, (b2d d m n).tau1, (b2d d m n).tau2, mapN (b2d d m n).dsl (b2d d m n).N, mapN (b2d d m n).dsr (b2d d m n).N) := if_pos err2
    rw [out2] at hlo hro ⊢
    dsimp only at hlo hro
    rw [mt_N (b2d d m n) m n rfl rfl] at hlo hro ⊢
    have lb8 : b8 < u8.heap.size := h8.low (by simp [kb5_5])
    have lb7 : b7 < u8.heap.size := h8.low (by simp [kb5_5])
    have lb2 : b2 < u8.heap.size := h8.low (by simp [kb5_5])
    rw [err2, ask_ext0, ask_ext1]
    refine a_agg (tpL_len _ _ _) (tpL_one (slAt_one hlo.1) (slAt_one hro.1)) ?_
    have off8 : ∀ x ∈ [lo, ro], ∀ q, x.ownBlock = some q → q ∉ [b8] := fun x hx q hq hm => by
      have := (hoo x hx q hq).1
      simp at hm; omega
    have S8 : Stp ([b8] ++ [b9]) w99 w8 := S7.trans su8
    refine call_W hX hS (T := Trd) (f := 33) rfl mt (fun w hw => ⟨by
        rw [emt, mtOf]
        exact rd_mt2 ⟨okp, g, h, rfl, kp Lg og (S8.trans hw.stp) (by simp), kp Lh oh (S8.trans hw.stp) (by simp)⟩ (kp Lv ov (S8.trans hw.stp) (by simp)) hy' hz' hx' (lsF_toS (hlo.stp hw.stp (off8 lo (by simp)))) (lsF_toS (hro.stp hw.stp (off8 ro (by simp)))), mtok, by rw [emt]; exact hy, by rw [emt]; exact hz, by rw [emt]; exact hx⟩) fun e u9 w9' h9 k9 s9 su9 hq => ?_
    obtain ⟨L2, R2, rfl, oL2, oR2⟩ := hq
    rw [show mt.d.N = m * n by rw [emt]; rfl] at oL2 oR2
    have fL2 := own_F oL2
    have fR2 := own_F oR2
    rw [ask_ext0, ask_ext1]
    refine a_agg (stNL_len _ _ _) (stNL_one (own_one oL2) (own_one oR2)) ?_
    rw [ask_neqN]
    refine a_G_on condsV1 ?_
    rw [ask_neqN]
    rw [show (!decide (0 = 0)) = false from rfl, ask_pickF]
    refine a_G_on condsV1 (a_selL (ds := encF mt.tx) rfl (by rw [stNL_len]; omega) ?_)
    refine a_GF_on condsV1 (p_Same hS (a := mt.tx.val) (b := d.taux) (val_lt _) (ok.taux) (e1) ?_)
    refine a_G_on condsV1 ?_
    rw [ask_not, Bool.not_true, ask_pickF]
    refine a_G_on condsV1 (a_selL (ds := encF mt.mu) rfl (by rw [stNL_len]; omega) ?_)
    refine a_GF_on condsV1 (p_Same hS (a := mt.mu.val) (b := d.mu) (val_lt _) (ok.mu) (e2) ?_)
    refine a_G_on condsV1 ?_
    rw [ask_not, Bool.not_true, ask_pickF]
    refine a_G_on condsV1 (a_selL (ds := encF mt.d.Sg) rfl (by rw [stNL_len]; omega) ?_)
    refine a_GF_on condsV1 (p_LSame hS (a := mt.d.Sg.val) (b := d.S) (val_lt _) (ok.S) (e3) ?_)
    refine a_G_on condsV1 ?_
    rw [ask_not, Bool.not_true, ask_pickF]
    refine a_G_on condsV1 (a_selL (ds := encF mt.md.T2) rfl (by rw [stNL_len]; omega) ?_)
    refine a_GF_on condsV1 (p_LSame hS (a := mt.md.T2.val) (b := d.T2) (val_lt _) (ok.T2) (e4) ?_)
    refine a_G_on condsV1 ?_
    rw [ask_not, Bool.not_true, ask_pickF]
    refine a_G_on condsV1 (a_sel1 (v := L2) rfl ?_)
    have S9 : Stp (([b8] ++ [b9]) ++ [b8]) w99 w9' := S8.trans su9
    have lk7 : ∀ {v : Value} {xs : List Value} {n e s : Nat}, w9'.ownsRow u9.heap.size e s v n xs → ∀ q, v.ownBlock = some q → q ∉ [b7] := fun ho q hq hm => by
      have h1 := (ho.lt q hq).1
      have h2 := h9.size
      have h3 := s8.size
      simp at hm; omega
    have pl : ∀ {w : World} {ex : List Nat}, Stp ex w9' w → (∀ b ∈ ex, b ∈ [b2, b7, b8, b9]) → LsS w xl (mapN (filV d.L) (m * n)) ∧ LsS w xr (mapN (filV d.R) (m * n)) := fun hs he => by
      have h1 := (su8.trans su9).trans hs
      exact ⟨Ll.stp h1 fun q hq hm => ol q hq (by
        simp only [List.mem_append, List.mem_singleton] at hm
        rcases hm with (rfl | rfl) | hm
        · simp
        · simp
        · exact he q hm), Lr.stp h1 fun q hq hm => orr q hq (by
        simp only [List.mem_append, List.mem_singleton] at hm
        rcases hm with (rfl | rfl) | hm
        · simp
        · simp
        · exact he q hm)⟩
    refine a_GW_on condsV1 (call_W hX hS (T := Trd) (f := 35) rfl ((mapN mt.l (m * n)).map (fun f : F => f.val), mapN (filV d.L) (m * n), ()) (fun w hw => ⟨⟨_, _, rfl, lsF_toS (fL2.stp hw.stp (lk7 oL2)), _, _, rfl, (pl hw.stp (by simp)).1, rfl⟩, e5⟩) fun v u10 w10 h10 k10 s10 su10 hq => ?_)
    subst hq
    refine a_G_on condsV1 ?_
    rw [ask_not, Bool.not_true, ask_pickF]
    refine a_G_on condsV1 (a_sel1 (v := R2) rfl ?_)
    refine a_GW_on condsV1 (call_W hX hS (T := Trd) (f := 35) rfl ((mapN mt.r (m * n)).map (fun f : F => f.val), mapN (filV d.R) (m * n), ()) (fun w hw => ⟨⟨_, _, rfl, lsF_toS ((fR2.stp su10 (lk7 oR2)).stp hw.stp (lk7 oR2)), _, _, rfl, (pl (su10.trans hw.stp) (by simp)).2, rfl⟩, e6⟩) fun v u11 w11 h11 k11 s11 su11 hq => ?_)
    subst hq
    refine a_G_on condsV1 ?_
    rw [ask_not, Bool.not_true, ask_pickF]
    refine a_if (fun h => by cases h) fun _ => ?_
    have S11 := (S9.trans su10).trans su11
    refine call_W hX hS (T := Trd) (f := 8) rfl (b3d d m n) (fun w hw => ⟨⟨_, _, rfl, ⟨okp0, g, h, (set_zero d.B d.Q _ _ g h).symm, kp Lg og (S11.trans hw.stp) (by simp), kp Lh oh (S11.trans hw.stp) (by simp)⟩, _, _, rfl, rfl, _, _, rfl, kp Lv ov (S11.trans hw.stp) (by simp), _, _, rfl, ⟨rfl, hy'⟩, _, _, rfl, ⟨rfl, hz'⟩, _, _, rfl, ⟨rfl, hx'⟩, _, _, rfl, ⟨⟨ok.taux, ok.mu, ok.S, ok.T2⟩, xl, xr, rfl, (pl ((su10.trans su11).trans hw.stp) (by simp)).1, (pl ((su10.trans su11).trans hw.stp) (by simp)).2⟩, rfl⟩, trivial⟩) fun e u12 w12 h12 k12 s12 su12 hq => ?_
    obtain ⟨u', rfl, _⟩ := hq
    rw [err3, ask_ext0, ask_ext1, ask_eqlN]
    exact hR _ _ _ _ fun _ _ => rfl
#print axioms keepsRnd
end Go.Vc
