/- The contract of logs.Add. For a disk as DiskAt says. -/
import Derived.Test.YtklhnncjgkbelaaDoorDskB
import Derived.Test.YtklhnncjgkbelaaDoorFrmPut
namespace Go.Proofs.Herb
open Go.RowKit
theorem Fr.lo {w : World} {base : Nat} {e : TypeId} {k : Nat} {q : Option Addr} {n c : Nat} {xs : List Value} (h : Fr w base e k (.slice q n c) n xs) : ∀ b off, q = some ⟨b, off, none⟩ → base ≤ b := by
  rcases h.2 with ⟨h, _⟩ | ⟨g, cap, cur, hv, hb, _⟩
  · cases h; intro b off e; cases e
  · cases hv; intro b off e; cases e; exact hb
def recB (s : DS) (k : ByteArray) (l : List UInt8) : List UInt8 := putRec (l.length + 2) ((fileL s k).length % 256) false l
def addE (s : DS) (k : ByteArray) (l : List UInt8) : Int := if 65536 < l.length then 3 else if knownE s k ≠ 0 then knownE s k else appendE s k (recB s k l)
def addS (s : DS) (k : ByteArray) (l : List UInt8) : DS := if 65536 < l.length ∨ knownE s k ≠ 0 then s else appendS s k (recB s k l)
/-- what all calls ask of a disk -/
structure DS.Ok (s : DS) : Prop where
  dir : DirOk s.names s.nclock s.files.length
  used : usedN s ≤ 4611686018427387904
  f1 : -1 ≤ s.fuse
  f2 : s.fuse ≤ 9223372036854775807
  r0 : 0 ≤ s.room
  r1 : s.room ≤ 4194304
  len : ∀ f ∈ s.files, f.b.length ≤ 4194304
set_option maxRecDepth 100000 in
set_option maxHeartbeats 800000 in
theorem add_any (m : DM) (s : DS) (k : ByteArray) (hk : k.size ≤ maxLen) (a : Option Addr) (n c : Nat) (l : List UInt8) (w : World) (h : DiskAt w m s) (ho : s.Ok)
    (hn : l.length = n) (hc : n ≤ c) (hcm : c ≤ maxLen) (hr : Rd w a (l.map bv)) (ha : a = none → c = 0) :
    Calls Tryd.prog 13 #[.pointer (some ⟨m.D, 0, none⟩), .string k, .slice a n c] w fun e w' => ∃ m', e = .returned (.int .i64 (addE s k l)) ∧ DiskAt w' m' (addS s k l) ∧ m'.D = m.D ∧ Mod m.fp m'.fp w w' := by
  have hE : addE s k l = if 65536 < l.length then 3 else if knownE s k ≠ 0 then knownE s k else appendE s k (recB s k l) := rfl
  have hS : addS s k l = if 65536 < l.length ∨ knownE s k ≠ 0 then s else appendS s k (recB s k l) := rfl
  rw [hn] at hE hS
  have Hn := hid hn
  have Hr := hid hr
  have Ha := hid ha
  have H := hid h
  have HO := hid ho
  have hnm : n ≤ 9223372036854775807 := by unfold maxLen at hcm; omega
  clear hn hr ha h ho hcm
  by_cases q1 : 65536 < n
  · rw [if_pos q1] at hE
    rw [if_pos (.inl q1)] at hS
    have b1 : decide ((65536 : Int) < (n : Int)) = true := by simp; omega
    have hE := hid hE
    have hS := hid hS
    clear q1
    go_enter Tryd.func13, Tryd.ntmps13
    go_wp2_with fail
    go_ret
    exact ⟨m, by rw [hE.out]; rfl, by rw [hS.out]; exact H.out, rfl, Mod.refl _ _⟩
  · rw [if_neg q1] at hE
    have b1 : decide ((65536 : Int) < (n : Int)) = false := by simp; omega
    by_cases q2 : knownE s k = 0
    · rw [if_neg (fun h => h q2)] at hE
      rw [if_neg (by simp [q1, q2])] at hS
      have hrl : readL s k = fileL s k := by unfold readL; rw [if_pos q2]
      have hfl : (fileL s k).length ≤ 4194304 := by
        obtain ⟨i, hi, _, hil⟩ := known_ok q2 HO.out.dir
        unfold fileL
        rw [hi, Option.getD_some, List.getElem?_eq_getElem hil]
        exact HO.out.len _ (List.getElem_mem hil)
      have hE := hid hE
      have hS := hid hS
      have Q2 := hid q2
      have Hrl := hid hrl
      have hnl : n ≤ 65536 := by omega
      clear q1 q2 hrl
      obtain ⟨K, hK⟩ : ∃ K, K = (fileL s k).length := ⟨_, rfl⟩
      rw [← hK] at hfl
      have HK := hid hK
      clear hK
      obtain ⟨R, hR⟩ : ∃ R, R = recB s k l := ⟨_, rfl⟩
      have hRe : putRec (n + 2) (K % 256) false l = R := by rw [hR, HK.out, ← Hn.out]; rfl
      have HR := hid hR
      have HRe := hid hRe
      clear hR hRe
      go_enter Tryd.func13, Tryd.ntmps13
      go_wp2_with (first
        | (go_at_call 10; refine (read_any m s k hk _ H.out HO.out.dir HO.out.len).mono ?_; rintro e w1 ⟨v, rfl, hv, hb1⟩; rw [Q2.out]; rw [Hrl.out, ← HK.out] at hv; obtain ⟨q0, c0, rfl, hc1, hc2, hr1, hz1⟩ := hv.shape; have hb1 := hid hb1; clear hv hr1 hz1)
        | (go_at_call 25; refine (put_any K a n c l _ (by omega) Hn.out hc hnl (Hr.out.below hb1.out) Ha.out).mono ?_; rintro e w2 ⟨v, rfl, hv, hb2⟩; rw [HRe.out] at hv; obtain ⟨q2, c2, rfl, hd1, hd2, hr2, hz2⟩ := hv.shape; have hv := hid hv; have hb2 := hid hb2; have hr2 := hid hr2; have hz2 := hid hz2)
        | (go_at_call 16; refine (append_any m s k hk q2 R.length c2 R _ ((H.out.below hb1.out).below hb2.out) HO.out.dir HO.out.used HO.out.f1 HO.out.f2 HO.out.r0 HO.out.r1 rfl hd1 hd2 hr2.out (fun h => (hz2.out h).2) (fun _ b off hq hbm => by have h1 := hv.out.lo b off hq; have h2 := (H.out.below hb1.out).lt b hbm; omega) (fun f hf => by have := HO.out.len f hf; omega)).mono ?_; rintro e w3 ⟨m', rfl, hD3, hDD, hM3⟩; have hD3 := hid hD3; have hDD := hid hDD; have hM3 := hid hM3))
      go_ret
      refine ⟨m', by rw [hE.out, ← HR.out]; rfl, by rw [hS.out, ← HR.out]; exact hD3.out, hDD.out, ((Mod.of_below m.fp hb1.out).trans (Mod.of_below m.fp hb2.out)).trans hM3.out⟩
    · rw [if_pos q2] at hE
      rw [if_pos (.inr q2)] at hS
      have b2 : (knownE s k != 0) = true := by simpa using q2
      have hE := hid hE
      have hS := hid hS
      clear q1 q2
      go_enter Tryd.func13, Tryd.ntmps13
      go_wp2_with (go_at_call 10; refine (read_any m s k hk _ H.out HO.out.dir HO.out.len).mono ?_; rintro e w1 ⟨v, rfl, hv, hb1⟩; obtain ⟨q0, c0, rfl, hc1, hc2, hr1, hz1⟩ := hv.shape; have hb1 := hid hb1; clear hv hr1 hz1)
      go_ret
      exact ⟨m, by rw [hE.out]; rfl, by rw [hS.out]; exact H.out.below hb1.out, rfl, Mod.of_below _ hb1.out⟩
end Go.Proofs.Herb
