import Derived.Test.YtapkkciimlffnaaGreatDoorDSha7
/-
  SHA-512 of the document: Hash, Joined, Sum.
-/
namespace Go.Vc
open Go Go.Proofs Go.RowKit

theorem Stp.wid {u w : World} (h : Stp [] u w) (ex : List Nat) : Stp ex u w := ⟨h.size, fun b hb _ => h.past b hb List.not_mem_nil⟩
/-- As many bytes as a list may hold. -/
def mxB : Nat := 2 ^ 46
theorem oneMapB (l : List Nat) : ∀ c ∈ l.map B, c.oneCell' = true := fun c hc => by obtain ⟨y, _, rfl⟩ := List.mem_map.1 hc; rfl
theorem zl_lt (n : Nat) : zl n < 128 := Nat.mod_lt _ (by decide)
theorem zl_at {n z : Nat} (hz : z ≤ zl n) : (n + 1 + z) % 128 = 112 ↔ z = zl n := by unfold zl at *; omega
theorem pad_q (l : List Nat) : (pad l).length = 128 * ((pad l).length / 128) := by rw [pad_len]; unfold zl; omega
theorem pad_lt {l : List Nat} (h : ∀ x ∈ l, x < 256) : ∀ x ∈ pad l, x < 256 := fun x hx => by
  simp only [pad, List.mem_append, List.mem_cons, List.mem_replicate] at hx
  rcases hx with ((hx | rfl | ⟨_, rfl⟩) | hx) | hx
  · exact h x hx
  · decide
  · decide
  · exact be8_lt _ x hx
  · exact be8_lt _ x hx
theorem blk_lt (p : List Nat) : ∀ j, ∀ x ∈ blk p j, x < B64
  | 0 => by show ∀ x ∈ IV, x < B64; decide
  | _ + 1 => cpr_lt
/-- Bytes in an array. -/
theorem own_bs {w : World} {base n : Nat} {v : Value} {l : List Nat} (h : w.ownsRow base 5 1 v n (l.map B)) (hl : ∀ x ∈ l, x < 256) : Bs w v l ∧ n = l.length := by
  have hn : n = l.length := by have := h.1; simp at this; omega
  subst hn
  exact ⟨⟨own_slAt h, hl⟩, rfl⟩
theorem len_own {w : World} {base e n : Nat} {v : Value} {xs : List Value} (h : w.ownsRow base e 1 v n xs) : lenV v = n := lenV_of (own_slAt h)

/-! ### Hash -/
def cHash : Contract := fnW (Cods.cons cBs Cods.nil) (fun p _ => p.1.length ≤ mxB) (fun p _ v _ => v = BA (sha p.1))
end Go.Vc

/-
  SHA-512 of the document: Joined, Sum.
-/
namespace Go.Vc
open Go Go.Proofs Go.RowKit

def cJoin : Contract := fnW (Cods.cons cBss Cods.nil) (fun p _ => p.1.flatten.length ≤ mxB) (fun p w v w' => w'.ownsRow w.heap.size 5 1 v p.1.flatten.length (p.1.flatten.map B) ∧ ∀ x ∈ p.1.flatten, x < 256)
theorem Bss.flat {w : World} {v : Value} {vs : List Value} {l : List (List Nat)} (h : Bss w v vs l) : ∀ x ∈ l.flatten, x < 256 := fun x hx => by
  obtain ⟨a, ha, hxa⟩ := List.mem_flatten.1 hx
  obtain ⟨i, hi⟩ := List.getElem?_of_mem ha
  have hl : i < vs.length := by rw [h.len]; exact (List.getElem?_eq_some_iff.1 hi).1
  exact (h.all i _ _ (List.getElem?_eq_getElem hl) hi).lt x hxa
def cRsum : Contract := fnW (Cods.cons cBss Cods.nil) (fun p _ => p.1.flatten.length ≤ mxB) (fun p _ v _ => v = BA (sha p.1.flatten))
end Go.Vc
