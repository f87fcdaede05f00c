
/- slices.Backward at times: the row's times, from its end. -/
import Derived.Test.YtnkkfdlmcpnokaaUks
namespace Go.Proofs.Herb
open Go.RowKit
def BkGood (xs : List Nat) (pre : List (Nat × Nat)) (x : Nat × Nat) : Prop := ∃ rest, xs.reverse = pre.map (·.2) ++ x.2 :: rest
theorem back_split (xs : List Nat) {k : Nat} (h : k < xs.length) : xs.reverse = (xs.drop (k + 1)).reverse ++ xs[k] :: (xs.take k).reverse := by
  conv => lhs; rw [← List.take_append_drop k xs, List.drop_eq_getElem_cons h]
  simp
set_option maxRecDepth 100000 in
set_option maxHeartbeats 2000000 in
theorem back_in (nn Bn c n base : Nat) (q : Option Addr) (hnn : 1 ≤ nn) (xs : List Nat) (hn : xs.length = n) (hm : n ≤ 1000000) (Kp : World → World → Prop) (hK : ∀ A B, Kp A B → (∀ v, Boxed A Bn 83 v → Boxed B Bn 83 v) ∧ (Rd A q (xs.map ekU) → Rd B q (xs.map ekU))) :
    SeqGood Fence.wide nn Try.prog 48 #[.pointer (some ⟨Bn, 0, none⟩)] (fun x : Nat × Nat => #[.int .i64 (x.1 : Int), ekU x.2]) (fun A B => B = A) (fun pre x _ => BkGood xs pre x)
      Kp (fun ps => ps.map (·.2) = xs.reverse) base (fun W => Boxed W Bn 83 (.slice q n c) ∧ Rd W q (xs.map ekU)) := by
  intro lp J Jx W hb hOk hJ hJx hY h0
  have HY := hid hY
  have HOk := hid hOk
  have H0 := hid h0
  have HN := hid hn
  have HK := hid hK
  clear hY hJ hJx hOk h0 hn hK
  refine callsIn_of_wp Try.func48 rfl trivial ?_ rfl
  simp only [Try.ntmps48, List.size_toArray, List.length_cons, List.length_nil, Nat.reduceAdd, Nat.reduceSub, Array.replicate_succ, Array.replicate_zero, List.push_toArray, List.append_toArray, List.nil_append, List.cons_append]
  have cW := HOk.out.1.cell
  gi_wp2
  clear cW
  gi_loopw [3] (fun vi wr => ∃ (k : Nat) (pre : List (Nat × Nat)), vi = .int .i64 ((k : Int) - 1) ∧ k ≤ n ∧ Hid (pre.map (·.2) = (xs.drop k).reverse) ∧ Hid (Boxed wr Bn 83 (.slice q n c) ∧ Rd wr q (xs.map ekU)) ∧ Hid (J pre wr)) (fun vi _ => (intOf vi + 1).toNat)
  case atStart => exact ⟨n, [], rfl, by omega, by show _ = _; rw [← HN.out]; simp, HOk, H0⟩
  case round =>
    obtain ⟨_ | k, pre, e3, hkn, HP, HB, HJp⟩ := hrel
    · replace e3 := e3.trans (show Value.int .i64 (((0 : Nat) : Int) - 1) = .int .i64 (-1) from rfl)
      subst e3
      gi_wp2
      refine ⟨rfl, _, results_none rfl _ _ _, ?_⟩
      exact ⟨⟨_, rfl⟩, .inl ⟨pre, by have := HP.out; simpa using this, HJp.out⟩⟩
    · replace e3 := e3.trans (show Value.int .i64 (((k + 1 : Nat) : Int) - 1) = .int .i64 (k : Int) by congr 1; omega)
      subst e3
      have hkl : k < xs.length := by rw [HN.out]; omega
      have hget : (xs.map ekU)[k]? = some (ekU xs[k]) := by simp [hkl]
      obtain ⟨v, hv⟩ : ∃ v, v = xs[k] := ⟨_, rfl⟩
      have hgood : BkGood xs pre (k, v) := ⟨_, by rw [HP.out, hv]; exact back_split xs hkl⟩
      have HP2 : Hid ((pre ++ [(k, v)]).map (·.2) = (xs.drop k).reverse) := by
        show _ = _
        rw [List.map_append, HP.out, List.drop_eq_getElem_cons hkl, List.reverse_cons, hv]
        rfl
      rw [← hv] at hget
      rcases HB.out.2 with hz | ⟨b, off, rfl, hr⟩
      · rw [hz] at hget; simp at hget
      · have c1 := hr _ _ hget
        have cB := HB.out.1.cell
        obtain ⟨fn, tmps, assign, body, hy, hR⟩ := HY.out pre (k, v) wr HJp.out hgood
        dsimp only at hy
        have HR := hid hR
        have hk1 : (k : Int) < (n : Int) := by omega
        clear hR hgood hget hv hkl hr
        gi_wp2
        refine HR.out.mono ?_
        rintro e W3 (⟨rfl, hJ3, hk3⟩ | ⟨rfl, hJ3⟩)
        · have HJ3 := hid hJ3
          have HB3 : Hid (Boxed W3 Bn 83 (.slice (some ⟨b, off, none⟩) n c) ∧ Rd W3 (some ⟨b, off, none⟩) (xs.map ekU)) := ⟨(HK.out _ _ hk3).1 _ HB.out.1, (HK.out _ _ hk3).2 HB.out.2⟩
          clear hJ3 hk3 hy HR
          gi_wp2
          go_roundw
          case rel => exact ⟨k, _, by go_num, by omega, HP2, HB3, HJ3⟩
          case measure => simp [intOf]
        · have HJ3 := hid hJ3
          clear hJ3 hy HR
          gi_wp2
          refine bodyPost_ret (results_none rfl _ _ _) rfl ?_
          exact ⟨⟨_, rfl⟩, .inr ⟨_, HJ3.out⟩⟩
end Go.Proofs.Herb
