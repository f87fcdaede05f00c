
/- views.Diff: the keys by which two lists differ, rising, in new memory. For facts that can be read. -/
import Derived.Test.YtnkkfdlmcpnokaaUsp
import Derived.Test.YtnkkfdlmcpnokaaUnd
namespace Go.Proofs.Herb
open Go.RowKit
/-- a map of what a key is, or none -/
def MpV (W : World) (ob : Option Nat) (B : List (Nat × Nat × ByteArray)) : Prop := (ob = none ∧ B = []) ∨ ∃ b, ob = some b ∧ MapAt W b ekU evS B
theorem MpV.keep {W W' : World} {ob : Option Nat} {B : List (Nat × Nat × ByteArray)} (h : MpV W ob B) (hb : ∀ k, k < W.heap.size → (∀ b, ob = some b → k = b → W'.heap[k]? = W.heap[k]?)) : MpV W' ob B := by
  rcases h with h | ⟨b, h1, h2⟩
  · exact .inl h
  · exact .inr ⟨b, h1, h2.keep (hb b h2.lt b h1 rfl)⟩
theorem MpV.below {W W' : World} {ob : Option Nat} {B : List (Nat × Nat × ByteArray)} (h : MpV W ob B) (hb : Below W.heap.size W W') : MpV W' ob B := h.keep fun k hk _ _ _ => hb.block k hk
theorem MpV.len {W : World} {ob : Option Nat} {B : List (Nat × Nat × ByteArray)} (h : MpV W ob B) (ty : TypeId) : (Builtin.len_ #[70] ty #[.map ob]).run Try.prog W = .ok (.int .i64 (B.length : Int)) W := by
  rcases h with ⟨rfl, rfl⟩ | ⟨b, rfl, h2⟩
  · simp [Builtin.len_, run_underlying Try.underlying70, goInt]
  · have h3 : W.heap[b]? = some (.map (mEnt ekU evS 0 B).toArray B.length) := h2
    simp [Builtin.len_, run_underlying Try.underlying70, run_getMap0 W b _ _ h3, goInt, mEnt_len]
theorem MpV.lk {W : World} {ob : Option Nat} {B : List (Nat × Nat × ByteArray)} (h : MpV W ob B) (v : Nat) : (Instr.lookup 70 (.map ob) (.int .u32 (v : Int)) true).run Try.prog W = .ok (.tuple #[((look1 B v).map evS).getD (.agg #[.int .u8 0, .string ⟨#[]⟩]), .bool (look1 B v).isSome]) W := by
  rcases h with ⟨rfl, rfl⟩ | ⟨b, rfl, h2⟩
  · exact run_lookupNil keyU Try.underlying70 (zeroSaid W) v true
  · exact run_lookup0 h2 keyU Try.underlying70 (zeroSaid W) v true
theorem MpV.range {W : World} {ob : Option Nat} {B : List (Nat × Nat × ByteArray)} (h : MpV W ob B) : (Instr.range 70 (.map ob)).run Try.prog W = .ok (.pointer (some ⟨W.heap.size, 0, none⟩)) (W.alloc (.mapIter ob B.length #[] B.length)) := by
  rcases h with ⟨rfl, rfl⟩ | ⟨b, rfl, h2⟩
  · exact run_range_nilMap W 70 38 72 Try.underlying70
  · exact run_range_map W 70 38 72 b _ _ Try.underlying70 h2
theorem next_nil {P : Program} {W : World} {r s c : Nat} {seen : Array Nat} (h : W.heap[r]? = some (.mapIter none s seen c)) (ty : TypeId) : (Instr.next (.pointer (some ⟨r, 0, none⟩)) false ty).run P W = .ok (.tuple #[.bool false]) W := by
  simp [Instr.next, getObj, Sem.run, h]
theorem MpV.next {W : World} {ob : Option Nat} {B : List (Nat × Nat × ByteArray)} (h : MpV W ob B) {r : Nat} {seen : Array Nat} (hr : W.heap[r]? = some (.mapIter ob B.length seen B.length)) :
    ((∀ i, i < B.length → i ∈ seen.toList) ∧ ∀ ty, (Instr.next (.pointer (some ⟨r, 0, none⟩)) false ty).run Try.prog W = .ok (.tuple #[.bool false]) W) ∨
    ∃ (i : Nat) (hi : i < B.length), i ∉ seen.toList ∧ ∃ W2 : World, W.grownBy W2 (some r) ∧ W2.heap.size = W.heap.size ∧ W2.heap[r]? = some (.mapIter ob B.length (seen.push i) B.length) ∧
      (∀ ty, (Instr.next (.pointer (some ⟨r, 0, none⟩)) false ty).run Try.prog W = .ok (.tuple #[.bool true, ekU B[i].1, evS B[i].2]) W2) ∧
      (Instr.entry (.pointer (some ⟨r, 0, none⟩))).run Try.prog W2 = .ok (.tuple #[ekU B[i].1, evS B[i].2]) W2 ∧ MpV W2 ob B := by
  rcases h with ⟨rfl, rfl⟩ | ⟨b, rfl, h2⟩
  · exact .inl ⟨fun i hi => absurd hi (Nat.not_lt_zero _), next_nil hr⟩
  · rcases next0 (P := Try.prog) hr h2 with h3 | ⟨i, hi, hn, W2, hg, hs, hr2, hx, he⟩
    · exact .inl h3
    · have hrb : r ≠ b := fun e => by
        have h4 : W.heap[b]? = some (.map (mEnt ekU evS 0 B).toArray B.length) := h2
        rw [e, h4] at hr; cases hr
      have hb2 := hg.block b h2.lt (fun e => hrb (by cases e; rfl))
      exact .inr ⟨i, hi, hn, W2, hg, hs, hr2, hx, he W2 rfl hb2, .inr ⟨b, rfl, h2.keep hb2⟩⟩
/-- a key's map: its block, its entries -/
def blkOf (t : List SpE) (k : ByteArray) : Option Nat := look1 (spTop t) k
def innOf (t : List SpE) (k : ByteArray) : List (Nat × Nat × ByteArray) := match t.find? (fun x => decide (x.key = k)) with
  | some x => x.inn
  | none => []
theorem find_top (t : List SpE) (k : ByteArray) : blkOf t k = (t.find? fun x => decide (x.key = k)).map (·.blk) := by
  unfold blkOf look1 spTop
  rw [List.find?_map, Option.map_map]
  rfl
theorem SpAt.mpv {base : Nat} {w : World} {M : Nat} {t : List SpE} (h : SpAt base w M t) (k : ByteArray) : MpV w (blkOf t k) (innOf t k) := by
  rw [find_top]
  unfold innOf
  cases hf : t.find? fun x => decide (x.key = k) with
  | none => exact .inl ⟨rfl, rfl⟩
  | some x => exact .inr ⟨x.blk, rfl, h.inn x (List.mem_of_find?_eq_some hf)⟩
theorem SpAt.lkV {base : Nat} {w : World} {M : Nat} {t : List SpE} (h : SpAt base w M t) (k : ByteArray) : (Instr.lookup 67 (.map (some M)) (.string k) false).run Try.prog w = .ok (.map (blkOf t k)) w := by
  rw [h.lk]
  unfold blkOf
  cases look1 (spTop t) k <;> rfl
theorem SpInv.innOf {p : List Fact} {t : List SpE} (h : SpInv p t) (k : ByteArray) : NodupK (innOf t k) ∧ ∀ v, look1 (innOf t k) v = lookF p k v := by
  unfold Herb.innOf
  cases hf : t.find? fun x => decide (x.key = k) with
  | none =>
    refine ⟨List.Pairwise.nil, fun v => ?_⟩
    symm
    refine lookF_none.2 fun f hf' e => ?_
    obtain ⟨x, hx, hk⟩ := h.all f hf'
    have := List.find?_eq_none.1 hf x hx
    simp [hk, e] at this
  | some x =>
    have h1 := List.find?_some hf
    have h2 := h.inn x (List.mem_of_find?_eq_some hf)
    simp at h1
    rw [← h1]
    exact h2
/-- what the program reckons: as many times, and each is there, with the same kind and value -/
def sameM (A B : List (Nat × Nat × ByteArray)) : Bool := decide (A.length = B.length) && A.all fun x => decide (look1 B x.1 = some x.2)
theorem sameM_iff {A B : List (Nat × Nat × ByteArray)} (ha : NodupK A) (hb : NodupK B) : sameM A B = true ↔ ∀ v, look1 A v = look1 B v := by
  unfold sameM
  rw [Bool.and_eq_true, decide_eq_true_iff, List.all_eq_true]
  have mem_look : ∀ {l : List (Nat × Nat × ByteArray)} {v : Nat} {s : Nat × ByteArray}, look1 l v = some s → (v, s) ∈ l := fun {l v s} h => by
    unfold look1 at h
    cases hf : l.find? fun x => decide (x.1 = v) with
    | none => rw [hf] at h; cases h
    | some x =>
      rw [hf] at h
      have h1 := List.find?_some hf
      simp at h1 h
      have := List.mem_of_find?_eq_some hf
      rw [← h1, ← h]
      exact this
  constructor
  · rintro ⟨hl, h⟩ v
    have hsub : (A.map (·.1)) ⊆ (B.map (·.1)) := fun k hk => by
      obtain ⟨x, hx, rfl⟩ := List.mem_map.1 hk
      have := mem_look (of_decide_eq_true (h x hx))
      exact List.mem_map.2 ⟨_, this, rfl⟩
    cases e : look1 A v with
    | some s => exact (of_decide_eq_true (h _ (mem_look e))).symm
    | none =>
      cases e2 : look1 B v with
      | none => rfl
      | some s =>
        exfalso
        have hv : v ∈ B.map (·.1) := List.mem_map.2 ⟨_, mem_look e2, rfl⟩
        have hnv : v ∉ A.map (·.1) := fun hm => by
          obtain ⟨x, hx, rfl⟩ := List.mem_map.1 hm
          exact look1_none.1 e x hx rfl
        have h3 : (v :: A.map (·.1)).length ≤ (B.map (·.1)).length := (List.nodup_cons.2 ⟨hnv, ha⟩).length_le_of_subset (fun k hk => by
          rcases List.mem_cons.1 hk with rfl | hk
          · exact hv
          · exact hsub hk)
        simp at h3
        omega
  · intro h
    have half : ∀ {A B : List (Nat × Nat × ByteArray)}, NodupK A → (∀ v, look1 A v = look1 B v) → A.length ≤ B.length := fun {A B} ha h => by
      have : (A.map (·.1)).length ≤ (B.map (·.1)).length := List.Nodup.length_le_of_subset ha fun k hk => by
        obtain ⟨x, hx, rfl⟩ := List.mem_map.1 hk
        have h1 := ha.look hx
        rw [h] at h1
        exact List.mem_map.2 ⟨_, mem_look h1, rfl⟩
      simpa using this
    refine ⟨Nat.le_antisymm (half ha h) (half hb fun v => (h v).symm), fun x hx => ?_⟩
    rw [decide_eq_true_iff, ← h]
    exact ha.look hx
theorem same_eq {a b : List Fact} {ta tb : List SpE} (ha : SpInv a ta) (hb : SpInv b tb) (k : ByteArray) : sameM (innOf ta k) (innOf tb k) = sameB a b k := by
  rw [Bool.eq_iff_iff, sameM_iff (ha.innOf k).1 (hb.innOf k).1, sameB_iff]
  constructor
  · intro h v
    rw [← (ha.innOf k).2, ← (hb.innOf k).2]; exact h v
  · intro h v
    rw [(ha.innOf k).2, (hb.innOf k).2]; exact h v
/-- .. as far as the walk has come -/
def samS (A B : List (Nat × Nat × ByteArray)) (seen : List Nat) : Bool := decide (A.length = B.length) && seen.all fun i => match A[i]? with
  | some x => decide (look1 B x.1 = some x.2)
  | none => true
theorem samS_all {A B : List (Nat × Nat × ByteArray)} {seen : List Nat} (h : ∀ i, i < A.length → i ∈ seen) : samS A B seen = sameM A B := by
  unfold samS sameM
  congr 1
  rw [Bool.eq_iff_iff, List.all_eq_true, List.all_eq_true]
  constructor
  · intro h1 x hx
    obtain ⟨i, hi, rfl⟩ := List.mem_iff_getElem.1 hx
    have := h1 i (h i hi)
    rw [List.getElem?_eq_getElem hi] at this
    exact this
  · intro h1 i _
    cases e : A[i]? with
    | none => rfl
    | some x => exact h1 x (List.mem_of_getElem? e)
theorem samS_push {A B : List (Nat × Nat × ByteArray)} {seen : Array Nat} {i : Nat} (hi : i < A.length) : samS A B (seen.push i).toList = (samS A B seen.toList && decide (look1 B A[i].1 = some A[i].2)) := by
  unfold samS
  rw [Array.toList_push, List.all_append]
  simp [hi, Bool.and_assoc]
theorem eqlSaid (s t : Nat × ByteArray) (w : World) : (binOp .eql 72 (.agg #[.int .u8 (s.1 : Int), .string s.2]) (.agg #[.int .u8 (t.1 : Int), .string t.2])).run Try.prog w = .ok (.bool (decide (s = t))) w := by
  obtain ⟨s0, s1⟩ := s
  obtain ⟨t0, t1⟩ := t
  go_simp
  have e1 : ((s0 : Int) = (t0 : Int)) = (s0 = t0) := by rw [eq_iff_iff]; omega
  have e2 : (s1.toList = t1.toList) = (s1 = t1) := by
    rw [eq_iff_iff, Lib.toList_data, Lib.toList_data]
    exact ⟨ba_eq, fun e => by rw [e]⟩
  by_cases h1 : s0 = t0
  · by_cases h2 : s1 = t1
    · simp [h1, h2]
    · rw [if_pos (by omega), if_neg (by rw [e2]; exact h2)]
      simp [h2]
  · rw [if_neg (by omega)]
    simp [h1]
theorem clipS_any (q : Option Addr) (n c : Nat) (w : World) (hn : n ≤ c) (hc : c ≤ maxLen) (_hq : q = none → c = 0) :
    Calls Try.prog 25 #[.slice q n c] w fun e w' => e = .returned (.slice q n n) ∧ w' = w := by
  unfold maxLen at hc
  go_enter Try.func25, Try.ntmps25
  cases q with
  | none =>
    obtain rfl : c = 0 := _hq rfl
    obtain rfl : n = 0 := by omega
    go_wp2
    go_ret
    exact ⟨rfl, rfl⟩
  | some ad =>
    go_wp2
    go_ret
    exact ⟨rfl, rfl⟩
def difS (a b : List Fact) (ks : List ByteArray) : List ByteArray := ks.filter fun k => !sameB a b k
set_option maxRecDepth 100000 in
set_option maxHeartbeats 8000000 in
theorem diff_any (q1 q2 : Option Addr) (n1 c1 n2 c2 : Nat) (a b : List Fact) (w : World) (ha : a.length = n1) (hb : b.length = n2) (hm1 : n1 ≤ 400000) (hm2 : n2 ≤ 400000) (hra : Rd w q1 (fCells a)) (hrb : Rd w q2 (fCells b)) :
    Calls Try.prog 14 #[.slice q1 n1 c1, .slice q2 n2 c2] w fun e w' => ∃ q, e = .returned (.slice q (diffS a b).length (diffS a b).length) ∧ (q = none → (diffS a b).length = 0) ∧ Rd w' q (strs (diffS a b)) ∧ Below w.heap.size w w' := by
  have HA := hid ha
  have HBb := hid hb
  have HRa := hid hra
  have HRb := hid hrb
  have hsa := spoken_any q1 n1 c1 a w ha (by omega) hra
  clear ha hb hra hrb
  go_enter Try.func14, Try.ntmps14
  go_wp2_with (first
    | (go_at_call 31; with_reducible refine hsa.mono ?_; rintro e w1 ⟨Ma, ta, rfl, hA1, hA2, hb1⟩; have HA1 := hid hA1; have HA2 := hid hA2; have HB1 := hid hb1; clear hA1 hA2 hb1 hsa; have hsb := spoken_any q2 n2 c2 b w1 HBb.out (by omega) (HRb.out.below HB1.out))
    | (go_at_call 31; with_reducible refine hsb.mono ?_; rintro e w2 ⟨Mb, tb, rfl, hC1, hC2, hb2⟩; have HC1 := hid hC1; have HC2 := hid hC2; have HB2 := hid (HB1.out.trans (hb2.mono HB1.out.size)); have HA3 := hid (HA1.out.below hb2); clear hC1 hC2 hb2 hsb; have hba := (Below.refl w2.heap.size w2).alloc (Nat.le_refl _) (.cells #[.slice q1 n1 c1, .slice q2 n2 c2] 22); have HB3 := hid (HB2.out.trans (hba.mono HB2.out.size)); have HA4 := hid (HA3.out.below hba); have HC4 := hid (HC1.out.below hba); clear hba; have hnm := named_any w2.heap.size q1 q2 n1 c1 n2 c2 a b 22 (w2.alloc (.cells #[.slice q1 n1 c1, .slice q2 n2 c2] 22)) (World.alloc_heap_new _ _) HA.out HBb.out hm1 hm2 (HRa.out.below HB3.out) (HRb.out.below HB3.out))
    | (go_at_call 32; with_reducible refine hnm.mono ?_; rintro e w4 ⟨qk, ck, rfl, hl4, hr4, hb4⟩; have HB4 := hid (HB3.out.trans (hb4.mono HB3.out.size)); have HA5 := hid (HA4.out.below hb4); have HC5 := hid (HC4.out.below hb4); have HR4 := hid hr4; clear hr4 hb4 hnm))
  obtain ⟨U, hU⟩ : ∃ U, U = w4 := ⟨_, rfl⟩
  rw [← hU]
  rw [← hU] at HB4 HA5 HC5 HR4
  obtain ⟨ks, hks⟩ : ∃ ks, ks = nmS (keyL a ++ keyL b) := ⟨_, rfl⟩
  rw [← hks] at HR4 hl4 ⊢
  have HKS := hid hks
  obtain ⟨N, hN⟩ : ∃ N, N = ks.length := ⟨_, rfl⟩
  rw [← hN] at hl4 ⊢
  have HN := hid hN
  clear hks hN hU HA1 HA3 HA4 HC1 HC4 HB1 HB2 HB3
  have HA4 := HA5
  have HC4 := HC5
  clear HA5 HC5
  go_loopw [4, 23] (fun vo vi wr => ∃ (i : Nat) (p : Option Addr) (m d : Nat), vi = .int .i64 i ∧ vo = .slice p m d ∧ i ≤ N ∧ Hid (m = (difS a b (ks.take i)).length) ∧ m ≤ i ∧
      Hid (wr.ownsRow U.heap.size 9 1 (.slice p m d) m (strs (difS a b (ks.take i)))) ∧ Hid (Below U.heap.size U wr)) (fun _ vi _ => N - (intOf vi).toNat)
  case atStart => exact ⟨0, none, 0, 0, rfl, rfl, Nat.zero_le _, rfl, Nat.le_refl _, World.ownsRow_nil _ _ _ _, Below.refl _ _⟩
  case round =>
    obtain ⟨i, p, m, d, rfl, rfl, hiN, HM, hmi, HO, HBr⟩ := hrel
    by_cases hi : i < N
    · have hik : i < ks.length := by rw [← HN.out]; exact hi
      obtain ⟨bk, off, hqk, hcell⟩ := (HR4.out.below HBr.out).cell (k := i) (by simpa [strs] using hik)
      subst hqk
      obtain ⟨k, hk⟩ : ∃ k, k = ks[i] := ⟨_, rfl⟩
      have hc : wr.cell? ⟨bk, off + i, none⟩ = some (.string k) := by rw [hcell, hk]; simp [strs]
      have HK := hid hk
      have hAw := HA4.out.below HBr.out
      have hCw := HC4.out.below HBr.out
      have lkA := hAw.lkV k
      have lkB := hCw.lkV k
      have hma := hAw.mpv k
      have hmb := hCw.mpv k
      have HSM : Hid (sameM (innOf ta k) (innOf tb k) = sameB a b k) := same_eq HA2.out HC2.out k
      obtain ⟨A, hA⟩ : ∃ A, A = innOf ta k := ⟨_, rfl⟩
      obtain ⟨B, hB⟩ : ∃ B, B = innOf tb k := ⟨_, rfl⟩
      obtain ⟨oa, hoa⟩ : ∃ oa, oa = blkOf ta k := ⟨_, rfl⟩
      obtain ⟨ob, hob⟩ : ∃ ob, ob = blkOf tb k := ⟨_, rfl⟩
      rw [← hA, ← hoa] at hma
      rw [← hB, ← hob] at hmb
      rw [← hoa] at lkA
      rw [← hob] at lkB
      rw [← hA, ← hB] at HSM
      have lenA := hma.len
      have lenB := hmb.len
      have hrg := hma.range
      obtain ⟨la, hla⟩ : ∃ la, la = A.length := ⟨_, rfl⟩
      obtain ⟨lb, hlb⟩ : ∃ lb, lb = B.length := ⟨_, rfl⟩
      rw [← hla] at lenA hrg
      rw [← hlb] at lenB
      have HMA := hid hma
      have HMB := hid hmb
      have HOB := hid hob
      have HBE := hid hB
      have HLA := hid hla
      have hs0 : ((la : Int) == (lb : Int)) = samS A B [] := by
        unfold samS
        rw [← hla, ← hlb, Bool.eq_iff_iff]
        simp
        omega
      have HS0 := hid hs0
      clear hcell hk hAw hCw hma hmb hA hB hoa hob hla hlb hs0
      go_wp2
      go_loopw [9] (fun vs w2 => ∃ seen : Array Nat, vs = .bool (samS A B seen.toList) ∧ Hid (Seen la seen) ∧ Hid (w2.heap[wr.heap.size]? = some (.mapIter oa la seen la)) ∧ Hid (Below wr.heap.size wr w2)) (fun _ w2 => la - (w2.iterSeen wr.heap.size).size)
      case atStart => exact ⟨#[], by rw [← HS0.out], Seen.nil _, World.alloc_heap_new _ _, (Below.refl _ _).alloc (Nat.le_refl _) _⟩
      case round =>
        rename World => w2
        obtain ⟨seen, rfl, HSn, HR2, HB2⟩ := hrel
        have HBw := hid (HBr.out.trans (HB2.out.mono HBr.out.size))
        have hXl := lt_of_block HR2.out
        have hsz2 := HB2.out.size
        rcases MpV.next (HMA.out.below HB2.out) (HLA.out ▸ HR2.out) with ⟨hall, hnx⟩ | ⟨j, hj, hnj, W2, hg2, hs2, hr2, hnx, hen, hma2⟩
        · have hsm : samS A B seen.toList = sameB a b k := by rw [samS_all hall]; exact HSM.out
          rw [hsm]
          have HX := hid hsm
          clear hall hsm
          cases hb : sameB a b k with
          | true =>
            have HTK : Hid (difS a b (ks.take (i + 1)) = difS a b (ks.take i)) := by
              show _ = _
              unfold difS
              rw [List.take_succ_eq_append_getElem (by omega), List.filter_append, ← HK.out]
              simp [hb]
            have HB := hid hb
            clear hb
            go_wp2
            go_roundw
            case rel => exact ⟨i + 1, p, m, d, by go_num, rfl, by omega, by show _ = _; rw [HTK.out]; exact HM.out, by omega, hid (by rw [HTK.out]; exact own_below HO.out HB2.out), HBw⟩
            case measure => simp [intOf]; omega
          | false =>
            have HTK : Hid (difS a b (ks.take (i + 1)) = difS a b (ks.take i) ++ [k]) := by
              show _ = _
              unfold difS
              rw [List.take_succ_eq_append_getElem (by omega), List.filter_append, ← HK.out]
              simp [hb]
            have HO2 := hid (own_below HO.out HB2.out)
            have hUs := HBw.out.size
            have HB := hid hb
            clear hb
            go_wp2_with (refine wpList_append_src rfl (.tmp 64) (.tmp 66) 28 28 rfl U.heap.size 9 (.string ⟨#[]⟩) 1 16 Try.underlying28 infoStr rfl (by decide) p m d _ rfl (own_below HO2.out ((Below.refl _ _).alloc (Nat.le_refl _) _)) _ 1 [.string k] rfl (src_rd (by decide) Try.underlying28 1 rfl (rd_new2 (by simp)) (by simp [Value.oneCell'])) (by unfold maxLen; omega) (by omega) (by simp; omega) ?_; intro q' c' w6 hown6 hg6 _; have P6 := hid (And.intro hown6 hg6); clear hown6 hg6)
            obtain ⟨hown6, hg6⟩ := P6.out
            have hB6 : Below U.heap.size U w6 := (HBw.out.alloc hUs _).grown hg6 (by simp; omega) (fun g hg => (HO2.out.lt g hg).1)
            go_roundw
            case rel =>
              refine ⟨i + 1, q', m + 1, c', by go_num, rfl, by omega, ?_, by omega, ?_, hid hB6⟩
              · show _ = _
                rw [HTK.out, List.length_append, ← HM.out]; rfl
              · show _
                rw [HTK.out]
                have e : strs (difS a b (ks.take i) ++ [k]) = strs (difS a b (ks.take i)) ++ [.string k] := by simp [strs]
                rw [e]
                exact hown6
            case measure => simp [intOf]; omega
        · have hj' : j < A.length := hj
          obtain ⟨v, hv⟩ : ∃ v, v = A[j].1 := ⟨_, rfl⟩
          obtain ⟨s0, hs0⟩ : ∃ s0, s0 = A[j].2.1 := ⟨_, rfl⟩
          obtain ⟨s1, hs1⟩ : ∃ s1, s1 = A[j].2.2 := ⟨_, rfl⟩
          have hpush : samS A B (seen.push j).toList = (samS A B seen.toList && decide (look1 B v = some (s0, s1))) := by rw [samS_push hj', hv, hs0, hs1]
          have hk2 : Below wr.heap.size wr W2 := HB2.out.grown hg2 (by omega) (fun k e => by cases e; exact Nat.le_refl _)
          have hbU := HBr.out.trans (hk2.mono HBr.out.size)
          have HSn2 : Hid (Seen la (seen.push j)) := hid (HSn.out.push (by rw [← HLA.out] at hj'; exact hj') hnj)
          have HR3 : Hid (W2.heap[wr.heap.size]? = some (.mapIter oa la (seen.push j) la)) := hid (by rw [HLA.out]; exact hr2)
          have HSZ : Hid (la - (seen.push j).size < la - (w2.iterSeen wr.heap.size).size) := by
            show _ < _
            rw [show w2.iterSeen wr.heap.size = seen from by unfold World.iterSeen; rw [HR2.out]]
            have := HSn.out.size_lt (i := j) (by rw [← HLA.out] at hj'; exact hj') hnj
            simp; omega
          change ∀ ty, (Instr.next (.pointer (some ⟨wr.heap.size, 0, none⟩)) false ty).run Try.prog w2 = .ok (.tuple #[.bool true, .int .u32 ((A[j].1 : Nat) : Int), .agg #[.int .u8 ((A[j].2.1 : Nat) : Int), .string A[j].2.2]]) W2 at hnx
          change (Instr.entry (.pointer (some ⟨wr.heap.size, 0, none⟩))).run Try.prog W2 = .ok (.tuple #[.int .u32 ((A[j].1 : Nat) : Int), .agg #[.int .u8 ((A[j].2.1 : Nat) : Int), .string A[j].2.2]]) W2 at hen
          rw [← hv, ← hs0, ← hs1] at hnx hen
          have hba : Below W2.heap.size W2 (W2.alloc (.cells #[.int .u8 (s0 : Int), .string s1] 72)) := (Below.refl _ _).alloc (Nat.le_refl _) _
          have hC3 := (HC4.out.below hbU).below hba
          have lkB := hC3.lkV k
          have hmb3 := (hC3.mpv k).lk v
          have HKW := hid (hk2.trans (hba.mono (by have := hk2.size; omega)))
          obtain ⟨sb, hsb⟩ : ∃ sb, sb = samS A B seen.toList := ⟨_, rfl⟩
          rw [← hsb]
          rw [← hsb] at hpush
          change (Instr.lookup 70 (.map (blkOf tb k)) (.int .u32 (v : Int)) true).run Try.prog (W2.alloc (.cells #[.int .u8 (s0 : Int), .string s1] 72)) = .ok (.tuple #[((look1 (innOf tb k) v).map evS).getD (.agg #[.int .u8 0, .string ⟨#[]⟩]), .bool (look1 (innOf tb k) v).isSome]) (W2.alloc (.cells #[.int .u8 (s0 : Int), .string s1] 72)) at hmb3
          rw [← HOB.out, ← HBE.out] at hmb3
          rw [← HOB.out] at lkB
          have HPU := hid hpush
          have HHB := hid hbU
          clear hj hj' hv hs0 hs1 hg2 hs2 hr2 hk2 hbU hba hC3 hsb hpush hnj hma2
          cases hlo : look1 B v with
          | none =>
            rw [hlo] at hmb3
            have HP2 : Hid (samS A B (seen.push j).toList = false) := by show _ = _; rw [HPU.out, hlo]; simp
            simp only [Option.map_none, Option.getD_none, Option.isSome_none] at hmb3
            have hb3 : Below wr.heap.size wr ((W2.alloc (.cells #[.int .u8 (s0 : Int), .string s1] 72)).alloc (.cells #[.int .u8 0, .string ⟨#[]⟩] 72)) := HKW.out.alloc HKW.out.size _
            have HB3 := hid hb3
            have HR4 : Hid (((W2.alloc (.cells #[.int .u8 (s0 : Int), .string s1] 72)).alloc (.cells #[.int .u8 0, .string ⟨#[]⟩] 72)).heap[wr.heap.size]? = some (.mapIter oa la (seen.push j) la)) := hid (by
              have h1 := lt_of_block HR3.out
              rw [RowKit.Below.heap_alloc _ _ _ (by simp; omega), RowKit.Below.heap_alloc _ _ _ h1]; exact HR3.out)
            have HLO := hid hlo
            clear hlo hb3
            cases sb
            all_goals go_wp2
            all_goals go_roundw
            case rel => exact ⟨seen.push j, by rw [HP2.out], HSn2, HR4, HB3⟩
            case measure => rw [show World.iterSeen _ wr.heap.size = seen.push j from by unfold World.iterSeen; rw [HR4.out]]; exact HSZ.out
            case rel => exact ⟨seen.push j, by rw [HP2.out], HSn2, HR4, HB3⟩
            case measure => rw [show World.iterSeen _ wr.heap.size = seen.push j from by unfold World.iterSeen; rw [HR4.out]]; exact HSZ.out
          | some o =>
            obtain ⟨o0, o1⟩ := o
            rw [hlo] at hmb3
            have HP2 : Hid (samS A B (seen.push j).toList = (sb && decide ((o0, o1) = (s0, s1)))) := by show _ = _; rw [HPU.out, hlo]; simp
            simp only [Option.map_some, Option.getD_some, Option.isSome_some] at hmb3
            have heq := eqlSaid (o0, o1) (s0, s1)
            dsimp only at heq
            obtain ⟨eb, hebb⟩ : ∃ eb, eb = decide ((o0, o1) = (s0, s1)) := ⟨_, rfl⟩
            rw [← hebb] at heq
            have HEB := hid hebb
            have hb3 : Below wr.heap.size wr ((W2.alloc (.cells #[.int .u8 (s0 : Int), .string s1] 72)).alloc (.cells #[.int .u8 (o0 : Int), .string o1] 72)) := HKW.out.alloc HKW.out.size _
            have HB3 := hid hb3
            have HR4 : Hid (((W2.alloc (.cells #[.int .u8 (s0 : Int), .string s1] 72)).alloc (.cells #[.int .u8 (o0 : Int), .string o1] 72)).heap[wr.heap.size]? = some (.mapIter oa la (seen.push j) la)) := hid (by
              have h1 := lt_of_block HR3.out
              rw [RowKit.Below.heap_alloc _ _ _ (by simp; omega), RowKit.Below.heap_alloc _ _ _ h1]; exact HR3.out)
            have HLO := hid hlo
            clear hlo hb3 hebb
            cases sb
            all_goals go_wp2
            all_goals go_roundw
            case rel => exact ⟨seen.push j, by rw [HP2.out]; rfl, HSn2, HR4, HB3⟩
            case measure => rw [show World.iterSeen _ wr.heap.size = seen.push j from by unfold World.iterSeen; rw [HR4.out]]; exact HSZ.out
            case rel => exact ⟨seen.push j, by rw [HP2.out, HEB.out]; rfl, HSn2, HR4, HB3⟩
            case measure => rw [show World.iterSeen _ wr.heap.size = seen.push j from by unfold World.iterSeen; rw [HR4.out]]; exact HSZ.out
    · obtain rfl : i = N := by omega
      have htk : ks.take i = ks := List.take_of_length_le (by rw [← HN.out]; exact Nat.le_refl _)
      have ho := HO.out
      have hm := HM.out
      rw [htk] at ho hm
      have hdf : difS a b ks = diffS a b := by rw [HKS.out]; rfl
      rw [hdf] at ho hm
      obtain ⟨q', c', hsl, hc1, hc2, hc3⟩ := own_shape ho
      cases hsl
      have hcl := clipS_any p m d wr hc1 hc2 hc3
      have HO3 := hid ho
      have HM3 := hid hm
      have HC3 := hid hc3
      clear htk ho hm hdf hc1 hc2 hc3
      go_wp2_with (go_at_call 25; with_reducible refine hcl.mono ?_; rintro e w6 ⟨rfl, rfl⟩)
      go_ret
      rw [← HM3.out]
      refine ⟨p, rfl, fun e => ?_, (Fr.of_own HO3.out).rd, HB4.out.trans (HBr.out.mono HB4.out.size)⟩
      have := HC3.out e
      rcases HO3.out.2 with ⟨hv, h0⟩ | ⟨g, cap, cur, hv, _⟩
      · exact h0
      · cases hv; cases e
end Go.Proofs.Herb
