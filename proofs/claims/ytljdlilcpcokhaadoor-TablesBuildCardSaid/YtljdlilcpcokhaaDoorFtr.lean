/- The footer's loop of tables.Build: two own rows that grow, one of them in a box. -/
import Derived.Test.YtljdlilcpcokhaaDoorAps
import Derived.Test.YtljdlilcpcokhaaDoorVpx
namespace Go.Proofs.Herb
open Go.RowKit
structure Ftr (WQ wr : World) (b9 bo bf b0 : Nat) (qo qf : Option Addr) (FB OB : List UInt8) (qf' qo' : Option Addr) (cf' co' : Nat) : Prop where
  foot : wr.ownsRow bf 5 1 (.slice qf' FB.length cf') FB.length (FB.map bv)
  box : Boxed wr b9 27 (.slice qo' OB.length co')
  out : wr.ownsRow bo 5 1 (.slice qo' OB.length co') OB.length (OB.map bv)
  apart : Apart2 qf' qo'
  far : ∀ g, g < WQ.heap.size → g ≠ b9 → (∀ a, qo = some a → g ≠ a.block) → (∀ a, qf = some a → g ≠ a.block) → wr.heap[g]? = WQ.heap[g]?
  placeF : qf' = qf ∨ ∀ a, qf' = some a → WQ.heap.size ≤ a.block
  placeO : qo' = qo ∨ ∀ a, qo' = some a → WQ.heap.size ≤ a.block
  keeps : KeepsFrom b0 WQ wr
  below : Below b0 WQ wr
theorem own_keep2 {w w' : World} {base : Nat} {e : TypeId} {k : Nat} {v : Value} {n : Nat} {xs : List Value} (h : w.ownsRow base e k v n xs) (hb : ∀ g, v.ownBlock = some g → w'.heap[g]? = w.heap[g]?) : w'.ownsRow base e k v n xs := by
  obtain ⟨h1, h2⟩ := h
  refine ⟨h1, ?_⟩
  rcases h2 with h2 | ⟨g, cap, cur, rfl, hg, hh, r⟩
  · exact .inl h2
  · exact .inr ⟨g, cap, cur, rfl, hg, (hb g rfl).trans hh, r⟩
theorem own_lt2 {W : World} {base : Nat} {e : TypeId} {k n : Nat} {v : Value} {xs : List Value} (h : W.ownsRow base e k v n xs) : ∀ g, v.ownBlock = some g → base ≤ g ∧ g < W.heap.size := by
  obtain ⟨_, h2⟩ := h
  rcases h2 with ⟨rfl, _⟩ | ⟨g', cap, cur, rfl, hg, hh, _⟩
  · intro g hg; cases hg
  · intro g hg; cases hg; exact ⟨by assumption, lt_of_block hh⟩
theorem own_some {W : World} {base k n c : Nat} {e : TypeId} {q : Option Addr} {xs : List Value} (h : W.ownsRow base e k (.slice q n c) n xs) : ∀ a, q = some a → (Value.slice q n c).ownBlock = some a.block ∧ ∃ cs, W.heap[a.block]? = some (.cells cs e (0, 0)) := by
  intro a ha
  obtain ⟨_, h2⟩ := h
  rcases h2 with ⟨e, _⟩ | ⟨g', cap, cur, e, _, hh, _⟩
  · rw [Value.slice.injEq] at e; rw [ha] at e; cases e.1
  · rw [Value.slice.injEq] at e
    obtain ⟨e1, _, e3⟩ := e
    rw [ha] at e1
    cases e1
    subst ha
    exact ⟨rfl, _, hh⟩
theorem Ftr.foot_step {WQ wr wa : World} {b9 bo bf b0 : Nat} {qo qf : Option Addr} {FB OB x : List UInt8} {qf' qo' qf2 : Option Addr} {cf' co' m c2 : Nat} (h : Ftr WQ wr b9 bo bf b0 qo qf FB OB qf' qo' cf' co') (hb : b0 ≤ bf) (hm : m = (FB ++ x).length) (g : Grew2 bf wr wa qf' qf2 m c2 (FB ++ x)) :
    Ftr WQ wa b9 bo bf b0 qo qf (FB ++ x) OB qf2 qo' c2 co' := by
  subst hm
  have ne9 : ∀ a, qf' = some a → b9 ≠ a.block := fun a ha e => own_apart h.foot ⟨_, _, h.box⟩ (by decide) a.block (own_some h.foot a ha).1 e.symm
  have hrec : ∀ (k : Nat) (o : Obj), wr.heap[k]? = some o → o.isCells = false → wa.heap[k]? = some o := fun k o hk hc =>
    (g.other k (lt_of_block hk) (fun a ha e => by
      obtain ⟨_, cs, hcs⟩ := own_some h.foot a ha
      rw [← e, hk] at hcs
      cases hcs
      cases hc)).trans hk
  refine ⟨g.own, (g.other b9 h.box.lt ne9).trans h.box, own_grew g h.apart h.out, h.apart.grew g h.out, fun k h1 h2 h3 h4 => ?_, ?_, h.placeO, h.keeps.trans ⟨g.below.size, fun k o _ hk hc => hrec k o hk hc⟩, h.below.trans (g.below.mono hb)⟩
  · refine (g.other k (Nat.lt_of_lt_of_le h1 h.below.size) (fun a ha e => ?_)).trans (h.far k h1 h2 h3 h4)
    rcases h.placeF with hp | hp
    · exact h4 a (by rw [← hp]; exact ha) e
    · have := hp a ha; omega
  · rcases g.place with hp | ⟨g', hp, hg⟩
    · rw [hp]; exact h.placeF
    · exact .inr (fun a ha => by rw [hp] at ha; cases ha; exact Nat.le_trans h.below.size hg)
theorem Ftr.out_step {WQ wr wc : World} {b9 bo bf b0 : Nat} {qo qf : Option Addr} {FB OB x : List UInt8} {qf' qo' qo2 : Option Addr} {cf' co' m c2 : Nat} (h : Ftr WQ wr b9 bo bf b0 qo qf FB OB qf' qo' cf' co') (hbo : b0 ≤ bo) (hb9 : b0 ≤ b9) (hb0 : b0 ≤ wr.heap.size) (hm : x.length = m)
    (h1 : wc.ownsRow bo 5 1 (.slice qo2 (OB.length + m) c2) (OB.length + m) (OB.map bv ++ x.map bv)) (h2 : wr.grownBy wc (Value.ownBlock (.slice qo' OB.length co'))) (h3 : qo2 = qo' ∨ ∃ g, qo2 = some ⟨g, 0, none⟩ ∧ wr.heap.size ≤ g) :
    wc.cell? ⟨b9, 0, none⟩ = some (.slice qo' OB.length co') ∧ wc.frozen? ⟨b9, 0, none⟩ = false ∧ Ftr WQ (wc.setCell ⟨b9, 0, none⟩ (.slice qo2 (OB ++ x).length c2)) b9 bo bf b0 qo qf FB (OB ++ x) qf' qo2 cf' c2 := by
  have hl : OB.length + m = (OB ++ x).length := by rw [List.length_append, hm]
  rw [hl, ← List.map_append] at h1
  obtain ⟨k1, k2⟩ := box_step (b0 := b0) h.box h.out (Below.refl _ _) h1 h2 (by decide) hb9 hbo hb0
  have hfar : ∀ g, g < wr.heap.size → g ≠ b9 → (∀ a, qo' = some a → g ≠ a.block) → (wc.setCell ⟨b9, 0, none⟩ (.slice qo2 (OB ++ x).length c2)).heap[g]? = wr.heap[g]? := fun g hg n1 n2 =>
    k2.far g hg n1 (fun e => by
      obtain ⟨_, hh⟩ := h.out
      rcases hh with ⟨e2, _⟩ | ⟨g', cap, cur, e2, _, _, _⟩
      · rw [e2] at e; cases e
      · rw [e2] at e
        cases e
        rw [Value.slice.injEq] at e2
        exact n2 _ e2.1 rfl)
  refine ⟨k1.cell, k1.frozen, own_keep2 h.foot fun g hg => ?_, k2.box, k2.own, ?_, fun g g1 g2 g3 g4 => ?_, h.placeF, ?_, h.keeps.trans (k2.keeps _), h.below.trans k2.below⟩
  · have hlt := (own_lt2 h.foot g hg).2
    refine hfar g hlt (fun e => own_apart h.foot ⟨_, _, h.box⟩ (by decide) g hg e) (fun a ha e => ?_)
    obtain ⟨b, hb, hbe⟩ : ∃ b, qf' = some b ∧ b.block = g := by
      obtain ⟨_, hh⟩ := h.foot
      rcases hh with ⟨e2, _⟩ | ⟨g', cap, cur, e2, _, _, _⟩
      · rw [e2] at hg; cases hg
      · rw [e2] at hg
        cases hg
        rw [Value.slice.injEq] at e2
        exact ⟨_, e2.1, rfl⟩
    exact h.apart b a hb ha (by rw [hbe]; exact e)
  · intro b d hb hd e
    rcases h3 with h3 | ⟨g', h3, hg⟩
    · exact h.apart b d hb (by rw [← h3]; exact hd) e
    · rw [h3] at hd
      cases hd
      have hlt := (own_lt2 h.foot b.block (own_some h.foot b hb).1).2
      simp only at e
      omega
  · refine (hfar g (Nat.lt_of_lt_of_le g1 h.below.size) g2 (fun a ha e => ?_)).trans (h.far g g1 g2 g3 g4)
    rcases h.placeO with hp | hp
    · exact g3 a (by rw [← hp]; exact ha) e
    · have := hp a ha; omega
  · rcases h3 with h3 | ⟨g', h3, hg⟩
    · rw [h3]; exact h.placeO
    · exact .inr (fun a ha => by rw [h3] at ha; cases ha; exact Nat.le_trans h.below.size hg)
theorem Ftr.world {WQ wr wa : World} {b9 bo bf b0 : Nat} {qo qf : Option Addr} {FB OB : List UInt8} {qf' qo' : Option Addr} {cf' co' : Nat} (h : Ftr WQ wr b9 bo bf b0 qo qf FB OB qf' qo' cf' co') (hb0 : b0 ≤ WQ.heap.size) (hb : Below wr.heap.size wr wa) :
    Ftr WQ wa b9 bo bf b0 qo qf FB OB qf' qo' cf' co' :=
  ⟨own_below h.foot hb, (hb.block _ h.box.lt).trans h.box, own_below h.out hb, h.apart, fun g h1 h2 h3 h4 => (hb.block g (Nat.lt_of_lt_of_le h1 h.below.size)).trans (h.far g h1 h2 h3 h4), h.placeF, h.placeO,
    h.keeps.trans ⟨hb.size, fun k _ _ hk _ => (hb.block k (lt_of_block hk)).trans hk⟩, h.below.trans (hb.mono (Nat.le_trans hb0 h.below.size))⟩
theorem rd_far {A B : World} {q : Option Addr} {xs : List Value} (h : Rd A q xs) (hk : ∀ a, q = some a → B.heap[a.block]? = A.heap[a.block]?) : Rd B q xs := by
  rcases h with rfl | ⟨b, off, rfl, hc⟩
  · exact .inl rfl
  · refine .inr ⟨b, off, rfl, fun j v hv => ?_⟩
    have h1 := hc j v hv
    have h2 := hk _ rfl
    simp only at h2
    simp only [World.cell?] at h1 ⊢
    rw [h2]
    exact h1
theorem fr_in {W : World} {base k n c : Nat} {e : TypeId} {q : Option Addr} {xs : List Value} (h : Fr W base e k (.slice q n c) n xs) : ∀ a, q = some a → base ≤ a.block ∧ a.block < W.heap.size := by
  intro a ha
  obtain ⟨_, h2⟩ := h
  rcases h2 with ⟨e, _⟩ | ⟨g', cap, cur, e, hg, hh, _⟩
  · rw [Value.slice.injEq] at e; rw [ha] at e; cases e.1
  · rw [Value.slice.injEq] at e
    obtain ⟨e1, _, _⟩ := e
    rw [ha] at e1
    cases e1
    exact ⟨hg, lt_of_block hh⟩
end Go.Proofs.Herb
