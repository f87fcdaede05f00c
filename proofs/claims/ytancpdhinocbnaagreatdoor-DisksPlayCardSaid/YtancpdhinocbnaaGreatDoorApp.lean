/- Laws of append at slices of bytes of the call's own. For slices that can be read. -/
import Derived.Test.YtancpdhinocbnaaGreatDoorProg
import Derived.Test.YtancpdhinocbnaaGreatDoorSlc
namespace Go.Proofs.Herb
open Go.RowKit
/-- what an append onto an own row of bytes leaves -/
structure Grew (base : Nat) (w w' : World) (q : Option Addr) (q' : Option Addr) (m c' : Nat) (l : List UInt8) : Prop where
  len : m ≤ c'
  max : c' ≤ maxLen
  nil : q' = none → c' = 0
  own : w'.ownsRow base 5 1 (.slice q' m c') m (l.map bv)
  below : Below base w w'
  other : ∀ g, g < w.heap.size → (∀ b, q = some b → g ≠ b.block) → w'.heap[g]? = w.heap[g]?
theorem own_shape {w : World} {base : Nat} {e : TypeId} {k : Nat} {v : Value} {n : Nat} {xs : List Value} (h : w.ownsRow base e k v n xs) : ∃ q c, v = .slice q n c ∧ n ≤ c ∧ c ≤ maxLen ∧ (q = none → c = 0) := by
  obtain ⟨a, c, h1, h2, h3, _, h5⟩ := (Fr.of_own h).shape
  exact ⟨a, c, h1, h2, h3, fun e => (h5 e).2⟩
theorem grew_of {base : Nat} {w w' : World} {q : Option Addr} {n c : Nat} {xs : List Value} (hown : w.ownsRow base 5 1 (.slice q n c) n xs) (hbase : base ≤ w.heap.size) {v' : Value} {m : Nat} {l : List UInt8}
    (h1 : w'.ownsRow base 5 1 v' m (l.map bv)) (h2 : w.grownBy w' (Value.ownBlock (.slice q n c))) : ∃ q' c', v' = .slice q' m c' ∧ Grew base w w' q q' m c' l := by
  obtain ⟨q', c', rfl, h3, h4, h5⟩ := own_shape h1
  refine ⟨q', c', rfl, h3, h4, h5, h1, (Below.refl base w).grown h2 hbase (fun j e => (hown.lt j e).1), fun g hg hne => h2.block g hg ?_⟩
  intro e
  cases q with
  | none => simp [Value.ownBlock] at e
  | some b => simp [Value.ownBlock] at e; exact hne b rfl e
section
variable {ops : Array Oper} {rest : List Oper} {o : Oper} {a : Act} {w : World} {K : Act → World → Prop} {Q : Exit → Act → World → Prop} {E : Prop}
theorem app22 (hgd : o.guard = none) (s x : Operand) (ho : o.op = .call { callee := .builtin .append, args := #[s, x], argTypes := #[31, 31] })
    (base : Nat) (q : Option Addr) (n c : Nat) (l : List UInt8) (hs : a.eval s = .slice q n c) (hown : w.ownsRow base 5 1 (.slice q n c) n (l.map bv))
    (ad : Option Addr) (m d : Nat) (k : List UInt8) (hx : a.eval x = .slice ad m d) (hnc : ad = none → d = 0) (hl : k.length = m) (hr : Rd w ad (k.map bv)) (hsz : n + m ≤ 1000000000000) (hbase : base ≤ w.heap.size)
    (h : ∀ q' c' w', Grew base w w' q q' (n + m) c' (l ++ k) → wpList Tryz.prog ops Q rest (a.put o.dst (.slice q' (n + m) c')) w') : wpList Tryz.prog ops Q (o :: rest) a w :=
  wpList_append_rd hgd s x 31 ho base 5 (.int .u8 0) 1 1 Tryz.underlying31 infoU8 rfl (by decide) (.slice q n c) n (l.map bv) hs hown ad m d (k.map bv) hx hnc (by simp [hl]) hr bv_one (by unfold maxLen; omega) (by omega) hbase
    (fun v' w' h1 h2 _ => by
      rw [← List.map_append] at h1
      obtain ⟨q', c', rfl, hg⟩ := grew_of hown hbase h1 h2
      exact h q' c' w' hg)
theorem app22s (hgd : o.guard = none) (s x : Operand) (ho : o.op = .call { callee := .builtin .append, args := #[s, x], argTypes := #[31, 31] })
    (base : Nat) (q : Option Addr) (n c : Nat) (l : List UInt8) (hs : a.eval s = .slice q n c) (hown : w.ownsRow base 5 1 (.slice q n c) n (l.map bv))
    (ad : Option Addr) (m d : Nat) (k : List UInt8) (hx : a.eval x = .slice ad m d) (hnc : ad = none → d = 0) (hl : k.length = m) (hr : Rd w ad (k.map bv)) (hsz : n + m ≤ 1000000000000) (hbase : base ≤ w.heap.size)
    (h : ∀ q' c' w', Grew base w w' q q' (n + m) c' (l ++ k) → K (a.put o.dst (.slice q' (n + m) c')) w') : if Region.wanted o (yielded ops a.tmps) = true then Oper.wp Tryz.prog o a w K Q else E :=
  step_append_rd hgd s x 31 ho base 5 (.int .u8 0) 1 1 Tryz.underlying31 infoU8 rfl (by decide) (.slice q n c) n (l.map bv) hs hown ad m d (k.map bv) hx hnc (by simp [hl]) hr bv_one (by unfold maxLen; omega) (by omega) hbase
    (fun v' w' h1 h2 _ => by
      rw [← List.map_append] at h1
      obtain ⟨q', c', rfl, hg⟩ := grew_of hown hbase h1 h2
      exact h q' c' w' hg)
theorem app22z (hgd : o.guard = none) (s x : Operand) (ho : o.op = .call { callee := .builtin .append, args := #[s, x], argTypes := #[31, 3] })
    (base : Nat) (q : Option Addr) (n c : Nat) (l : List UInt8) (hs : a.eval s = .slice q n c) (hown : w.ownsRow base 5 1 (.slice q n c) n (l.map bv))
    (M : Int) (m : Nat) (hx : a.eval x = .int .i64 M) (hM : M = (m : Int)) (hsz : n + m ≤ 1000000000000) (hbase : base ≤ w.heap.size)
    (h : ∀ q' c' w', Grew base w w' q q' (n + m) c' (l ++ List.replicate m 0) → wpList Tryz.prog ops Q rest (a.put o.dst (.slice q' (n + m) c')) w') : wpList Tryz.prog ops Q (o :: rest) a w :=
  wpList_append_zeros hgd s x 31 3 ho base 5 (.int .u8 0) 1 .i64 Tryz.underlying31 Tryz.underlying3 infoU8 rfl rfl (.slice q n c) n (l.map bv) hs hown .i64 M m hx hM (by unfold maxLen; omega) (by omega) hbase
    (fun v' w' h1 h2 _ => by
      rw [bvs_zero, ← List.map_append] at h1
      obtain ⟨q', c', rfl, hg⟩ := grew_of hown hbase h1 h2
      exact h q' c' w' hg)
theorem own_nil22 (w : World) (base : Nat) : w.ownsRow base 5 1 (.slice none 0 0) 0 (([] : List UInt8).map bv) := World.ownsRow_nil w base 5 1
/-- a slice literal, of the call's own -/
theorem own_lit22 (w : World) (base : Nat) (l : List UInt8) (n : Nat) (hb : base ≤ w.heap.size) (hn : l.length = n) (hm : n ≤ maxLen) : (w.alloc (.cells (l.map bv).toArray 5)).ownsRow base 5 1 (.slice (some ⟨w.heap.size, 0, none⟩) n n) n (l.map bv) := by
  have h := World.ownsRow_lit (size := 1) (e := 5) w (l.map bv).toArray n hb hm (by simp [hn])
  simpa using h
end
theorem Grew.fr {base : Nat} {w w' : World} {q q' : Option Addr} {m c' : Nat} {l : List UInt8} (h : Grew base w w' q q' m c' l) : Fr w' base 5 1 (.slice q' m c') m (l.map bv) := Fr.of_own h.own
theorem Fr.rd {w : World} {base : Nat} {e : TypeId} {k : Nat} {q : Option Addr} {n c : Nat} {xs : List Value} (h : Fr w base e k (.slice q n c) n xs) : Rd w q xs := by
  obtain ⟨a, c', h1, _, _, h2, _⟩ := h.shape
  simp at h1; rw [h1.1]; exact h2
end Go.Proofs.Herb
