/-
  The document's least scalar (veilref02.words, Least): contracts by numbers.
-/
import Derived.Test.YtapkkciimlffnaaGreatDoorDRef
namespace Go.Vc
open Go Go.Proofs Go.RowKit

def encU1 (n : Nat) : List Value := [U n]
def cLW : Cod (List Nat) := cL encU1 (fun n => n < 65536) 1 (fun _ => rfl) (fun _ _ _ _ h => U_inj' (by simpa [encU1] using h))
def num16 : List Nat → Nat | [] => 0 | a :: r => a + 65536 * num16 r
theorem num16_step (x w l : Nat) : (65536 * (x % l) + w) % l = (w + 65536 * x) % l := by
  rw [Nat.add_comm w, Nat.add_mod, Nat.mul_mod, Nat.mod_mod, ← Nat.mul_mod, ← Nat.add_mod]

def cRwords : Contract := fnW (Cods.cons cLW Cods.nil) (fun _ _ => True) (fun p _ v _ => v = S (num16 p.1 % lN))
def T3r : Table := T0.add 205 cRstep
theorem keepT3r : AllKeep Tryz.prog GT T3r := keepT0.add keepsRstep

theorem tyW : ElTy Tryz.prog 41 23 1 8 (U 0) := ⟨by kernel_rfl, by kernel_rfl⟩
abbrev enc1 (n : Nat) : List Value := [S n]
theorem inj1 (a b : Nat) (ha : a < W256) (hb : b < W256) (h : enc1 a = enc1 b) : a = b := S_inj ha hb (by simpa [enc1] using h)
def cRleast : Contract := fnP enc1 (· < W256) (fun n v => v = S (n % lN))
theorem four16 (x : Nat) : x % 2 ^ 16 + 65536 * (x / 2 ^ 16 % 2 ^ 16) + 4294967296 * (x / 2 ^ 32 % 2 ^ 16) + 281474976710656 * (x / 2 ^ 48) = x := by omega

theorem lin16 {a0 a1 a2 a3 b0 b1 b2 b3 c0 c1 c2 c3 d0 d1 d2 d3 r0 r1 r2 r3 : Nat} (h0 : a0 + 65536 * a1 + 4294967296 * a2 + 281474976710656 * a3 = r0) (h1 : b0 + 65536 * b1 + 4294967296 * b2 + 281474976710656 * b3 = r1) (h2 : c0 + 65536 * c1 + 4294967296 * c2 + 281474976710656 * c3 = r2) (h3 : d0 + 65536 * d1 + 4294967296 * d2 + 281474976710656 * d3 = r3) :
    a0 + 65536 * (a1 + 65536 * (a2 + 65536 * (a3 + 65536 * (b0 + 65536 * (b1 + 65536 * (b2 + 65536 * (b3 + 65536 * (c0 + 65536 * (c1 + 65536 * (c2 + 65536 * (c3 + 65536 * (d0 + 65536 * (d1 + 65536 * (d2 + 65536 * (d3 + 65536 * 0))))))))))))))) = r0 + B64 * r1 + B64 ^ 2 * r2 + B64 ^ 3 * r3 := by
  subst h0; subst h1; subst h2; subst h3
  simp only [B64]
  omega
theorem num16_four (r0 r1 r2 r3 : Nat) : num16 [r0 % 2 ^ 16, r0 / 2 ^ 16 % 2 ^ 16, r0 / 2 ^ 32 % 2 ^ 16, r0 / 2 ^ 48, r1 % 2 ^ 16, r1 / 2 ^ 16 % 2 ^ 16, r1 / 2 ^ 32 % 2 ^ 16, r1 / 2 ^ 48,
    r2 % 2 ^ 16, r2 / 2 ^ 16 % 2 ^ 16, r2 / 2 ^ 32 % 2 ^ 16, r2 / 2 ^ 48, r3 % 2 ^ 16, r3 / 2 ^ 16 % 2 ^ 16, r3 / 2 ^ 32 % 2 ^ 16, r3 / 2 ^ 48] = r0 + B64 * r1 + B64 ^ 2 * r2 + B64 ^ 3 * r3 :=
  lin16 (four16 r0) (four16 r1) (four16 r2) (four16 r3)

end Go.Vc
