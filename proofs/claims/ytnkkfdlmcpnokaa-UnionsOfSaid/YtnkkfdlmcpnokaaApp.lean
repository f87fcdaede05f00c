
/- Laws of append at slices of bytes of the call's own. For slices that can be read. -/
import Derived.Test.YtnkkfdlmcpnokaaProg
import Derived.Test.YtnkkfdlmcpnokaaSlc
namespace Go.Proofs.Herb
open Go.RowKit
/-- what an append onto an own row of bytes leaves -/
structure Grew (base : Nat) (w w' : World) (q : Option Addr) (q' : Option Addr) (m c' : Nat) (l : List UInt8) : Prop where
  len : m ≤ c'
  max : c' ≤ maxLen
  nil : q' = none → c' = 0
  own : w'.ownsRow base 5 1 (.slice q' m c') m (l.map bv)
  below : Below base w w'
  other : ∀ g, g < w.heap.size → (∀ b, q = some b → g ≠ b.block) → w'.heap[g]? = w.heap[g]?
theorem own_shape {w : World} {base : Nat} {e : TypeId} {k : Nat} {v : Value} {n : Nat} {xs : List Value} (h : w.ownsRow base e k v n xs) : ∃ q c, v = .slice q n c ∧ n ≤ c ∧ c ≤ maxLen ∧ (q = none → c = 0) := by
  obtain ⟨a, c, h1, h2, h3, _, h5⟩ := (Fr.of_own h).shape
  exact ⟨a, c, h1, h2, h3, fun e => (h5 e).2⟩
theorem grew_of {base : Nat} {w w' : World} {q : Option Addr} {n c : Nat} {xs : List Value} (hown : w.ownsRow base 5 1 (.slice q n c) n xs) (hbase : base ≤ w.heap.size) {v' : Value} {m : Nat} {l : List UInt8}
    (h1 : w'.ownsRow base 5 1 v' m (l.map bv)) (h2 : w.grownBy w' (Value.ownBlock (.slice q n c))) : ∃ q' c', v' = .slice q' m c' ∧ Grew base w w' q q' m c' l := by
  obtain ⟨q', c', rfl, h3, h4, h5⟩ := own_shape h1
  refine ⟨q', c', rfl, h3, h4, h5, h1, (Below.refl base w).grown h2 hbase (fun j e => (hown.lt j e).1), fun g hg hne => h2.block g hg ?_⟩
  intro e
  cases q with
  | none => simp [Value.ownBlock] at e
  | some b => simp [Value.ownBlock] at e; exact hne b rfl e
section
variable {ops : Array Oper} {rest : List Oper} {o : Oper} {a : Act} {w : World} {K : Act → World → Prop} {Q : Exit → Act → World → Prop} {E : Prop}
theorem own_nil22 (w : World) (base : Nat) : w.ownsRow base 5 1 (.slice none 0 0) 0 (([] : List UInt8).map bv) := World.ownsRow_nil w base 5 1
/-- a slice literal, of the call's own -/
theorem own_lit22 (w : World) (base : Nat) (l : List UInt8) (n : Nat) (hb : base ≤ w.heap.size) (hn : l.length = n) (hm : n ≤ maxLen) : (w.alloc (.cells (l.map bv).toArray 5)).ownsRow base 5 1 (.slice (some ⟨w.heap.size, 0, none⟩) n n) n (l.map bv) := by
  have h := World.ownsRow_lit (size := 1) (e := 5) w (l.map bv).toArray n hb hm (by simp [hn])
  simpa using h
end
theorem Grew.fr {base : Nat} {w w' : World} {q q' : Option Addr} {m c' : Nat} {l : List UInt8} (h : Grew base w w' q q' m c' l) : Fr w' base 5 1 (.slice q' m c') m (l.map bv) := Fr.of_own h.own
theorem Fr.rd {w : World} {base : Nat} {e : TypeId} {k : Nat} {q : Option Addr} {n c : Nat} {xs : List Value} (h : Fr w base e k (.slice q n c) n xs) : Rd w q xs := by
  obtain ⟨a, c', h1, _, _, h2, _⟩ := h.shape
  simp at h1; rw [h1.1]; exact h2
end Go.Proofs.Herb
