/- A disk with a fuse beside one without: plain. No condition. -/
import Derived.Test.YtobgcapekongbaaSurP
namespace Go.Proofs.Herb
open Go.RowKit Go.Sort
def withF (s : DS) (f : Int) (d : Bool) : DS := { s with fuse := f, dead := d }
theorem withF_known {B : DS} (hB : Free B) (f : Int) (k : ByteArray) : knownE (withF B f false) k = knownE B k := by
  unfold knownE
  rw [hB.dead]; rfl
theorem withF_letsE {B : DS} (f : Int) (d : Bool) : letsE (withF B f d) = if f = 0 then 10 else 0 := rfl
theorem withF_letsS {B : DS} {f : Int} (h : 0 < f) : letsS (withF B f false) = withF B (f - 1) false := by
  unfold letsS
  rw [if_neg (by show ¬ f = -1; omega), if_neg (by show ¬ f = 0; omega)]
  rfl
theorem withF_letsS0 (B : DS) : letsS (withF B 0 false) = withF B 0 true := rfl
theorem withF_free {B : DS} (hB : Free B) : withF B (-1) false = B := by
  cases B; cases hB with | mk h1 h2 => dsimp only at h1 h2; subst h1; subst h2; rfl
/-- what a call does on both -/
structure FStep (B : DS) (left : Int) (EA EB : Int) (SA SB : DS) : Prop where
  step : (EB = 0 ∧ 0 < left ∧ EA = 0 ∧ SA = withF SB (left - 1) false) ∨ (EB = 0 ∧ left = 0 ∧ EA = 10 ∧ SA = withF B 0 true) ∨ (EB ≠ 0 ∧ EA = EB ∧ SA = withF B left false ∧ SB = B)
theorem fstep_gen {B : DS} (hB : Free B) {left : Int} (hl : 0 ≤ left) (P : Prop) [Decidable P] (err : Int) (herr : P → err ≠ 0) (post : DS → DS) (hpost : ∀ f, post (withF B f false) = withF (post B) f false) {EA EB : Int} {SA SB : DS}
    (h1 : EA = if P then err else letsE (withF B left false)) (h2 : EB = if P then err else letsE B) (h3 : SA = if P then withF B left false else if letsE (withF B left false) ≠ 0 then letsS (withF B left false) else post (letsS (withF B left false))) (h4 : SB = if P then B else if letsE B ≠ 0 then letsS B else post (letsS B)) : FStep B left EA EB SA SB := by
  constructor
  by_cases p : P
  · rw [if_pos p] at h1 h2 h3 h4
    exact .inr (.inr ⟨by rw [h2]; exact herr p, by rw [h1, h2], h3, h4⟩)
  · rw [if_neg p] at h1 h2 h3 h4
    rw [hB.letsE] at h2 h4
    rw [if_neg (by decide), hB.letsS] at h4
    rw [withF_letsE] at h1 h3
    by_cases h0 : left = 0
    · subst h0
      rw [if_pos rfl] at h1 h3
      rw [if_pos (by decide), withF_letsS0] at h3
      exact .inr (.inl ⟨h2, rfl, h1, h3⟩)
    · rw [if_neg h0] at h1 h3
      rw [if_neg (by decide), withF_letsS (by omega), hpost] at h3
      rw [← h4] at h3
      exact .inl ⟨h2, by omega, h1, h3⟩
theorem fuse_step {B : DS} (hB : Free B) {left : Int} (hl : 0 ≤ left) {v : ActV} (hv : v.what % 11 < 6) : FStep B left (actE (withF B left false) v) (actE B v) (actS (withF B left false) v) (actS B v) := by
  obtain ⟨c0, c1, c2, c3, c4, c5, _⟩ := act_case (withF B left false) v
  obtain ⟨d0, d1, d2, d3, d4, d5, _⟩ := act_case B v
  have hkn := withF_known hB left
  have key : v.what % 11 = 0 ∨ v.what % 11 = 1 ∨ v.what % 11 = 2 ∨ v.what % 11 = 3 ∨ v.what % 11 = 4 ∨ v.what % 11 = 5 := by omega
  rcases key with h | h | h | h | h | h
  · rw [(c0 h).1, (c0 h).2, (d0 h).1, (d0 h).2]
    refine fstep_gen hB hl (knownE B v.a ≠ 7 ∨ 200 ≤ B.names.length) (if knownE B v.a = 0 then 8 else if knownE B v.a ≠ 7 then knownE B v.a else 3) ?_ (fun t => turnS { t with files := B.files ++ [⟨[], 0⟩] } ⟨v.a, (B.files.length : Int), ⟨#[]⟩⟩) (fun f => rfl) ?_ ?_ ?_ rfl
    · intro _
      split
      · decide
      · split
        · assumption
        · decide
    · unfold createE
      rw [hkn]
      show (if knownE B v.a = 0 then (8 : Int) else if knownE B v.a ≠ 7 then knownE B v.a else if 200 ≤ B.names.length then 3 else letsE (withF B left false)) = _
      by_cases a : knownE B v.a = 7
      · by_cases b : 200 ≤ B.names.length <;> simp [a, b]
      · simp [a]
    · unfold createE
      by_cases a : knownE B v.a = 7
      · by_cases b : 200 ≤ B.names.length <;> simp [a, b]
      · simp [a]
    · unfold createS
      rw [hkn]; rfl
  · rw [(c1 h).1, (c1 h).2, (d1 h).1, (d1 h).2]
    have hu : usedN (withF B left false) = usedN B := rfl
    refine fstep_gen hB hl (knownE B v.a ≠ 0 ∨ B.room - (usedN B : Int) < (v.data.length : Int)) (if knownE B v.a ≠ 0 then knownE B v.a else 9) ?_ (fun t => { t with files := B.files.modify ((look B.names v.a).getD 0) fun f => ⟨f.b ++ v.data, f.sure⟩ }) (fun f => rfl) ?_ ?_ ?_ rfl
    · intro _
      split
      · assumption
      · decide
    · unfold appendE
      rw [hkn, hu]
      show (if knownE B v.a ≠ 0 then knownE B v.a else if B.room - (usedN B : Int) < (v.data.length : Int) then 9 else letsE (withF B left false)) = _
      by_cases a : knownE B v.a = 0
      · by_cases b : B.room - (usedN B : Int) < (v.data.length : Int) <;> simp [a, b]
      · simp [a]
    · unfold appendE
      by_cases a : knownE B v.a = 0
      · by_cases b : B.room - (usedN B : Int) < (v.data.length : Int) <;> simp [a, b]
      · simp [a]
    · unfold appendS
      rw [hkn, hu]; rfl
  · rw [(c2 h).1, (c2 h).2, (d2 h).1, (d2 h).2]
    refine fstep_gen hB hl (knownE B v.a ≠ 0) (knownE B v.a) (fun h => h) (fun t => { t with files := B.files.modify ((look B.names v.a).getD 0) fun f => ⟨f.b, f.b.length⟩ }) (fun f => rfl) ?_ rfl ?_ rfl
    · unfold syncE
      rw [hkn]
    · unfold syncS
      rw [hkn]; rfl
  · rw [(c3 h).1, (c3 h).2, (d3 h).1, (d3 h).2]
    have hr : renE (withF B left false) v.a v.b = renE B v.a v.b := by unfold renE; rw [hkn]
    refine fstep_gen hB hl (renE B v.a v.b ≠ 0) (renE B v.a v.b) (fun h => h) (fun t => if v.a = v.b then t else turnS t ⟨v.b, (((look B.names v.a).getD 0 : Nat) : Int), v.a⟩) (fun f => by
      show (if v.a = v.b then _ else _) = withF (if v.a = v.b then _ else _) f false
      by_cases e : v.a = v.b
      · rw [if_pos e, if_pos e]
      · rw [if_neg e, if_neg e]; rfl) ?_ rfl ?_ rfl
    · unfold renameE
      rw [hr]
    · unfold renameS
      rw [hr]; rfl
  · rw [(c4 h).1, (c4 h).2, (d4 h).1, (d4 h).2]
    refine fstep_gen hB hl (knownE B v.a ≠ 0) (knownE B v.a) (fun h => h) (fun t => turnS t ⟨v.a, -1, ⟨#[]⟩⟩) (fun f => rfl) ?_ rfl ?_ rfl
    · unfold removeE
      rw [hkn]
    · unfold removeS
      rw [hkn]
  · rw [(c5 h).1, (c5 h).2, (d5 h).1, (d5 h).2]
    have ha : aliveE (withF B left false) = 0 := rfl
    refine fstep_gen hB hl False 0 (fun h => h.elim) (fun t => syncDirS t) (fun f => rfl) ?_ ?_ ?_ ?_
    · unfold syncDirE
      rw [ha, if_neg (by decide), if_neg (fun h => h)]
    · unfold syncDirE
      rw [hB.alive, if_neg (by decide), if_neg (fun h => h)]
    · unfold syncDirT
      rw [ha, if_neg (by decide), if_neg (fun h => h)]
    · unfold syncDirT
      rw [hB.alive, if_neg (by decide), if_neg (fun h => h)]
/-- a dead disk does nothing -/
theorem dead_step {s : DS} (h : s.dead = true) {v : ActV} (hv : v.what % 11 < 6) : actE s v = 10 ∧ actS s v = s := by
  have hk : ∀ k, knownE s k = 10 := fun k => by unfold knownE; rw [h]; rfl
  obtain ⟨c0, c1, c2, c3, c4, c5, _⟩ := act_case s v
  have key : v.what % 11 = 0 ∨ v.what % 11 = 1 ∨ v.what % 11 = 2 ∨ v.what % 11 = 3 ∨ v.what % 11 = 4 ∨ v.what % 11 = 5 := by omega
  rcases key with h' | h' | h' | h' | h' | h'
  · rw [(c0 h').1, (c0 h').2]; unfold createE createS; rw [hk]; exact ⟨rfl, rfl⟩
  · rw [(c1 h').1, (c1 h').2]; unfold appendE appendS; rw [hk]; exact ⟨rfl, if_pos (.inl (by decide))⟩
  · rw [(c2 h').1, (c2 h').2]; unfold syncE syncS; rw [hk]; exact ⟨rfl, rfl⟩
  · rw [(c3 h').1, (c3 h').2]
    have hr : renE s v.a v.b = 10 := by unfold renE; rw [hk, if_neg (fun h => by rcases h.1 with h | h <;> exact absurd h (by decide))]
    unfold renameE renameS; rw [hr]; exact ⟨rfl, rfl⟩
  · rw [(c4 h').1, (c4 h').2]; unfold removeE removeS; rw [hk]; exact ⟨rfl, rfl⟩
  · rw [(c5 h').1, (c5 h').2]
    have ha : aliveE s = 10 := by unfold aliveE; rw [h]; rfl
    unfold syncDirE syncDirT; rw [ha]; exact ⟨rfl, rfl⟩
theorem withF_ok {B : DS} {n : Nat} (h : DsOk B n) {f : Int} (h0 : -1 ≤ f) (h1 : f ≤ 9223372036854775807) (d : Bool) : DsOk (withF B f d) n :=
  h.same h0 h1 h.r0 h.r1 rfl rfl rfl rfl rfl rfl h.sure
theorem withF_same {B : DS} {n : Nat} (h : DsOk B n) (hB : Free B) (f : Int) : SameS (withF B f false) B := by
  refine ⟨rfl, fun k hk => ?_⟩
  obtain ⟨h1, h2⟩ := sorted_at h hB.dead hk
  have h3 : knownE (withF B f false) k = 0 := by rw [withF_known hB]; exact h1
  refine ⟨h3, h1, ?_⟩
  unfold readL
  rw [if_pos h3, if_pos h1]; rfl
theorem withF_crash (B : DS) (f : Int) (d : Bool) (dir : Int) (fl : List Int) : crashS (withF B f d) dir fl = crashS B dir fl := by
  have hJ : crashJ (withF B f d) dir = crashJ B dir := rfl
  have hd : ∀ j, dirAt (withF B f d) j = dirAt B j := dirAt_congr rfl rfl rfl
  have hc0 : ∀ j, crash0 (withF B f d) j = crash0 B j := fun j => by unfold crash0; rw [hd]; rfl
  have hca : ∀ (t0 : DS) (L : List ByteArray) (j : Nat), crashAt (withF B f d) fl t0 L j = crashAt B fl t0 L j := by
    intro t0 L j
    induction j with
    | zero => rfl
    | succ j ih => unfold crashAt; rw [ih]; rfl
  unfold crashS crashT
  rw [hJ, hc0, hca]
theorem same_self {s : DS} {n : Nat} (h : DsOk s n) (hd : s.dead = false) : SameS s s :=
  ⟨rfl, fun _ hk => ⟨(sorted_at h hd hk).1, (sorted_at h hd hk).1, rfl⟩⟩
end Go.Proofs.Herb
