
/- Bytes in memory, CRC-32C bit by bit and by its table, and what a slice of the call's own is: plain lemmas and laws of append; no program. No condition. -/
import Derived.WalkKit
import Derived.Laws.BitsAllLaws
import Derived.Laws.CopyOwn
import Derived.Deep.MidRow
import Derived.Laws.AppendOwnNone
import Derived.ArgAppend
namespace Go.Proofs.Herb
open Go.RowKit
theorem hid {p : Prop} (h : p) : Hid p := h
/-! bytes in memory -/
def bv (c : UInt8) : Value := .int .u8 (c.toNat : Int)
theorem bv_one {l : List UInt8} : ∀ u ∈ l.map bv, u.oneCell' = true := by
  intro u hu
  simp at hu
  obtain ⟨a, _, rfl⟩ := hu
  rfl
/-- the cells that a slice's address leads to hold these values -/
def Rd (w : World) (a : Option Addr) (xs : List Value) : Prop :=
  xs = [] ∨ ∃ b off, a = some ⟨b, off, none⟩ ∧ ∀ j u, xs[j]? = some u → w.cell? ⟨b, off + j, none⟩ = some u
/-- one bit of CRC-32C -/
def crcBit (x : BitVec 32) : BitVec 32 := (x >>> 1) ^^^ (if x.getLsbD 0 then 0x82f63b78#32 else 0#32)
def crcBits : Nat → BitVec 32 → BitVec 32
  | 0, x => x
  | n + 1, x => crcBits n (crcBit x)
theorem crcBit_xor (a b : BitVec 32) : crcBit (a ^^^ b) = crcBit a ^^^ crcBit b := by
  unfold crcBit
  have e : (a ^^^ b) >>> 1 = (a >>> 1) ^^^ (b >>> 1) := by
    apply BitVec.eq_of_getLsbD_eq; intro i hi; simp
  rw [e, BitVec.getLsbD_xor]
  generalize a >>> 1 = u
  generalize b >>> 1 = v
  apply BitVec.eq_of_getLsbD_eq; intro i _
  simp only [BitVec.getLsbD_xor]
  cases a.getLsbD 0 <;> cases b.getLsbD 0 <;> simp only [Bool.xor_self, Bool.false_xor, if_true, if_false, Bool.false_eq_true, BitVec.getLsbD_zero, Bool.xor_false] <;> generalize u.getLsbD i = p <;> generalize v.getLsbD i = q <;> generalize BitVec.getLsbD 0x82f63b78#32 i = r <;> cases p <;> cases q <;> cases r <;> rfl
theorem crcBits_xor (n : Nat) (a b : BitVec 32) : crcBits n (a ^^^ b) = crcBits n a ^^^ crcBits n b := by
  induction n generalizing a b with
  | zero => rfl
  | succ n ih => simp only [crcBits, crcBit_xor, ih]
theorem crcBits_high (n : Nat) (a : BitVec 32) (h : ∀ i, i < n → a.getLsbD i = false) : crcBits n a = a >>> n := by
  induction n generalizing a with
  | zero => simp [crcBits]
  | succ n ih =>
    have h0 := h 0 (by omega)
    have e : crcBit a = a >>> 1 := by unfold crcBit; rw [h0]; simp
    rw [crcBits, e, ih]
    · apply BitVec.eq_of_getLsbD_eq; intro i hi; simp; congr 1; omega
    · intro i hi
      rw [BitVec.getLsbD_ushiftRight]; exact h (1 + i) (by omega)
/-- a byte more, bit by bit -/
def crcByte (x : BitVec 32) (c : BitVec 8) : BitVec 32 := crcBits 8 (x ^^^ c.setWidth 32)
theorem crcByte_table (x : BitVec 32) (c : BitVec 8) : crcByte x c = (x >>> 8) ^^^ crcBits 8 ((x.setWidth 8 ^^^ c).setWidth 32) := by
  unfold crcByte
  have e : x ^^^ c.setWidth 32 = ((x >>> 8) <<< 8) ^^^ ((x.setWidth 8 ^^^ c).setWidth 32) := by
    apply BitVec.eq_of_getLsbD_eq; intro i hi
    simp only [BitVec.getLsbD_xor, BitVec.getLsbD_setWidth, BitVec.getLsbD_shiftLeft, BitVec.getLsbD_ushiftRight]
    by_cases h : i < 8
    · simp [h, hi]
    · simp [h, hi, show 8 + (i - 8) = i by omega]
  rw [e, crcBits_xor, crcBits_high 8 ((x >>> 8) <<< 8)]
  · congr 1
    apply BitVec.eq_of_getLsbD_eq; intro i hi
    simp only [BitVec.getLsbD_shiftLeft, BitVec.getLsbD_ushiftRight]
    by_cases h : 8 + i < 32
    · simp [h]
    · simp [h]; exact BitVec.getLsbD_of_ge x _ (by omega)
  · intro i hi
    simp [hi]
theorem crcBit_form (X : BitVec 32) : bits BinOp.xor IntKind.u32 ((X.toNat : Int) / 2) (bits BinOp.and IntKind.u32 2197175160 (-bits BinOp.and IntKind.u32 (X.toNat : Int) 1 % 4294967296)) = ((crcBit X).toNat : Int) := by
  have hX := X.isLt
  have e1 : bits BinOp.and IntKind.u32 (X.toNat : Int) 1 = ((X.toNat % 2 : Nat) : Int) := by
    rw [show (1 : Int) = ((1 : Nat) : Int) from rfl, u32_and_nat _ _ hX (by decide), Nat.and_one_is_mod]
  rw [e1]
  have e0 : ((X.toNat : Int) / 2) = ((X.toNat / 2 : Nat) : Int) := by omega
  rw [e0]
  have hb : X.getLsbD 0 = decide (X.toNat % 2 = 1) := by
    rw [BitVec.getLsbD, Nat.testBit_zero]
  unfold crcBit
  rw [hb]
  rcases Nat.mod_two_eq_zero_or_one X.toNat with h | h
  · rw [h]
    have e2 : -((0 : Nat) : Int) % 4294967296 = ((0 : Nat) : Int) := by decide
    rw [e2, show (2197175160 : Int) = ((2197175160 : Nat) : Int) from rfl, u32_and_nat _ _ (by decide) (by decide), Nat.and_zero, u32_xor_nat _ _ (by omega) (by decide)]
    simp [BitVec.toNat_ushiftRight, Nat.shiftRight_eq_div_pow]
  · rw [h]
    have e2 : -((1 : Nat) : Int) % 4294967296 = ((4294967295 : Nat) : Int) := by decide
    rw [e2, show (2197175160 : Int) = ((2197175160 : Nat) : Int) from rfl, u32_and_nat _ _ (by decide) (by decide), show (2197175160 &&& 4294967295 : Nat) = 2197175160 from by decide, u32_xor_nat _ _ (by omega) (by decide)]
    simp [BitVec.toNat_ushiftRight, Nat.shiftRight_eq_div_pow]

theorem crcBits_snoc (n : Nat) (x : BitVec 32) : crcBits (n + 1) x = crcBit (crcBits n x) := by
  induction n generalizing x with
  | zero => rfl
  | succ n ih => rw [crcBits, ih]; rfl
/-- CRC-32C, a byte more, and bytes more -/
def crcFold (x : BitVec 32) (l : List UInt8) : BitVec 32 := l.foldl (fun x c => crcByte x c.toBitVec) x
def crcMore (s : BitVec 32) (l : List UInt8) : BitVec 32 := ~~~ (crcFold (~~~ s) l)
theorem crcFold_snoc (x : BitVec 32) (l : List UInt8) (c : UInt8) : crcFold x (l ++ [c]) = crcByte (crcFold x l) c.toBitVec := by simp [crcFold]
theorem crc_not_form (s : BitVec 32) : bits BinOp.xor IntKind.u32 IntKind.u32.max (s.toNat : Int) = ((~~~ s).toNat : Int) := by
  have hs := s.isLt
  rw [show IntKind.u32.max = ((4294967295 : Nat) : Int) from rfl, u32_xor_nat _ _ (by decide) hs]
  rw [show ~~~ s = BitVec.allOnes 32 ^^^ s from (BitVec.allOnes_xor).symm, BitVec.toNat_xor]
  rfl
theorem crc_idx_form (X : BitVec 32) (q : UInt8) : bits BinOp.xor IntKind.u8 ((X.toNat : Int) % 256) (q.toNat : Int) = (((X.setWidth 8 ^^^ q.toBitVec).toNat : Nat) : Int) := by
  have hq : q.toNat < 256 := q.toBitVec.isLt
  rw [show ((X.toNat : Int) % 256) = ((X.toNat % 256 : Nat) : Int) by omega, u8_xor_nat _ _ (by omega) hq, BitVec.toNat_xor, BitVec.toNat_setWidth]
  rfl
theorem crc_byte_form (X : BitVec 32) (q : UInt8) (T : Nat) (hT : T = (X.setWidth 8 ^^^ q.toBitVec).toNat) : bits BinOp.xor IntKind.u32 ((X.toNat : Int) / 256) ((crcBits 8 (BitVec.ofNat 32 T)).toNat : Int) = ((crcByte X q.toBitVec).toNat : Int) := by
  have hX := X.isLt
  have hY := (crcBits 8 (BitVec.ofNat 32 T)).isLt
  rw [show ((X.toNat : Int) / 256) = ((X.toNat / 256 : Nat) : Int) by omega, u32_xor_nat _ _ (by omega) hY, crcByte_table, BitVec.toNat_xor, BitVec.toNat_ushiftRight, Nat.shiftRight_eq_div_pow, hT]
  rw [BitVec.ofNat_toNat]
def crcTab (k : Nat) : Value := .int .u32 ((crcBits 8 (BitVec.ofNat 32 k)).toNat : Int)
def crcTable : Array Value := ((List.range 256).map crcTab).toArray

theorem Rd.cell {w : World} {a : Option Addr} {xs : List Value} (h : Rd w a xs) {k : Nat} (hk : k < xs.length) : ∃ b off, a = some ⟨b, off, none⟩ ∧ w.cell? ⟨b, off + k, none⟩ = some xs[k] := by
  rcases h with rfl | ⟨b, off, rfl, hc⟩
  · simp at hk
  · exact ⟨b, off, rfl, hc k _ (List.getElem?_eq_getElem hk)⟩
theorem Rd.lt {w : World} {a : Option Addr} {xs : List Value} (h : Rd w a xs) {b off : Nat} (ha : a = some ⟨b, off, none⟩) (hx : 0 < xs.length) : b < w.heap.size := by
  obtain ⟨b', off', e, hc⟩ := h.cell hx
  rw [ha] at e; simp at e; obtain ⟨rfl, rfl⟩ := e
  exact World.block_lt_of_cell? w _ hc
theorem Rd.below {w w' : World} {a : Option Addr} {xs : List Value} (h : Rd w a xs) (hb : Below w.heap.size w w') : Rd w' a xs := by
  rcases h with rfl | ⟨b, off, rfl, hc⟩
  · exact .inl rfl
  · refine .inr ⟨b, off, rfl, fun j u hu => ?_⟩
    have := hc j u hu
    rw [hb.cell (World.block_lt_of_cell? w _ this)]; exact this
theorem Rd.cellB {w w' : World} {a : Option Addr} {xs : List Value} (h : Rd w a xs) (hb : Below w.heap.size w w') {k : Nat} (hk : k < xs.length) : ∃ b off, a = some ⟨b, off, Option.none⟩ ∧ b < w.heap.size ∧ w'.cell? ⟨b, off + k, Option.none⟩ = some xs[k] := by
  obtain ⟨b, off, ha, hc⟩ := h.cell hk
  have hl := World.block_lt_of_cell? w _ hc
  exact ⟨b, off, ha, hl, by rw [hb.cell hl]; exact hc⟩
theorem Rd.add {w : World} {ad : Addr} {xs : List Value} (h : Rd w (some ad) xs) : ∀ j u, xs[j]? = some u → w.cell? (ad.add j) = some u := by
  intro j u hu
  rcases h with rfl | ⟨b, off, e, hc⟩
  · simp at hu
  · simp at e; subst e
    rw [Addr.add_mid]; exact hc j u hu
theorem Rd.none {w : World} {xs : List Value} (h : Rd w none xs) : xs = [] := by
  rcases h with h | ⟨b, off, e, _⟩
  · exact h
  · cases e
theorem Rd.alloc {w : World} {a : Option Addr} {xs : List Value} (h : Rd w a xs) (o : Obj) : Rd (w.alloc o) a xs := h.below ((Below.refl _ _).alloc (Nat.le_refl _) _)
theorem Rd.new (w : World) (cs : List Value) (e : TypeId) : Rd (w.alloc (.cells cs.toArray e)) (some ⟨w.heap.size, 0, Option.none⟩) cs :=
  .inr ⟨_, _, rfl, fun j u hu => by rw [Nat.zero_add, World.cell?_alloc_new]; simpa using hu⟩
theorem Rd.block {w : World} {g off : Nat} {cur : Array Value} {e : TypeId} {fr : Nat × Nat} {xs : List Value} (h : w.heap[g]? = some (.cells cur e fr)) (hx : ∀ j u, xs[j]? = some u → cur[off + j]? = some u) : Rd w (some ⟨g, off, Option.none⟩) xs :=
  .inr ⟨_, _, rfl, fun j u hu => by rw [cell_of_row _ _ _ _ _ _ h]; exact hx j u hu⟩
/-- a slice of the call's own: 'ownsRow', but that the block may be longer than the capacity says -/
def Fr (w : World) (base : Nat) (e : TypeId) (k : Nat) (v : Value) (n : Nat) (xs : List Value) : Prop :=
  xs.length = n * k ∧ ((v = .slice none 0 0 ∧ n = 0) ∨ ∃ g cap cur, v = .slice (some ⟨g, 0, Option.none⟩) n cap ∧ base ≤ g ∧ w.heap[g]? = some (.cells cur e (0, 0)) ∧ n ≤ cap ∧ cap ≤ maxLen ∧ cap * k ≤ cur.size ∧ cur.toList.take (n * k) = xs)
theorem Fr.of_own {w : World} {base : Nat} {e : TypeId} {k : Nat} {v : Value} {n : Nat} {xs : List Value} (h : w.ownsRow base e k v n xs) : Fr w base e k v n xs := by
  obtain ⟨h1, h2⟩ := h
  refine ⟨h1, ?_⟩
  rcases h2 with h2 | ⟨g, cap, cur, hv, hg, hh, hn, hc, hs, ht⟩
  · exact .inl h2
  · exact .inr ⟨g, cap, cur, hv, hg, hh, hn, hc, by omega, ht⟩
theorem Fr.shape {w : World} {base : Nat} {e : TypeId} {k : Nat} {v : Value} {n : Nat} {xs : List Value} (h : Fr w base e k v n xs) : ∃ a c, v = .slice a n c ∧ n ≤ c ∧ c ≤ maxLen ∧ Rd w a xs ∧ (a = none → n = 0 ∧ c = 0) := by
  obtain ⟨h1, h2⟩ := h
  rcases h2 with ⟨rfl, rfl⟩ | ⟨g, cap, cur, hv, hg, hh, hn, hc, hs, ht⟩
  · exact ⟨none, 0, rfl, by omega, by simp [maxLen], .inl (List.eq_nil_of_length_eq_zero (by omega)), fun _ => ⟨rfl, rfl⟩⟩
  · refine ⟨_, cap, hv, hn, hc, .inr ⟨g, 0, rfl, fun j u hu => ?_⟩, fun e => by cases e⟩
    rw [Nat.zero_add, cell_of_row _ _ _ _ _ _ hh]
    rw [← ht, List.getElem?_take] at hu
    split at hu
    · simpa using hu
    · cases hu
theorem Fr.kept {w w' : World} {base : Nat} {e : TypeId} {k : Nat} {v : Value} {n : Nat} {xs : List Value} (h : Fr w base e k v n xs) (hb : ∀ g, base ≤ g → g < w.heap.size → w'.heap[g]? = w.heap[g]?) : Fr w' base e k v n xs := by
  obtain ⟨h1, h2⟩ := h
  refine ⟨h1, ?_⟩
  rcases h2 with h2 | ⟨g, cap, cur, hv, hg, hh, r⟩
  · exact .inl h2
  · exact .inr ⟨g, cap, cur, hv, hg, (hb g hg (lt_of_block hh)).trans hh, r⟩
theorem Fr.below {w w' : World} {base : Nat} {e : TypeId} {k : Nat} {v : Value} {n : Nat} {xs : List Value} (h : Fr w base e k v n xs) (hb : Below w.heap.size w w') : Fr w' base e k v n xs :=
  h.kept fun g _ h2 => hb.block g h2
theorem Fr.mono {w : World} {base base' : Nat} {e : TypeId} {k : Nat} {v : Value} {n : Nat} {xs : List Value} (h : Fr w base e k v n xs) (hb : base' ≤ base) : Fr w base' e k v n xs := by
  obtain ⟨h1, h2⟩ := h
  refine ⟨h1, ?_⟩
  rcases h2 with h2 | ⟨g, cap, cur, hv, hg, r⟩
  · exact .inl h2
  · exact .inr ⟨g, cap, cur, hv, by omega, r⟩
theorem own_below {w w' : World} {base : Nat} {e : TypeId} {k : Nat} {v : Value} {n : Nat} {xs : List Value} (h : w.ownsRow base e k v n xs) (hb : Below w.heap.size w w') : w'.ownsRow base e k v n xs := by
  obtain ⟨h1, h2⟩ := h
  refine ⟨h1, ?_⟩
  rcases h2 with h2 | ⟨g, cap, cur, hv, hg, hh, r⟩
  · exact .inl h2
  · exact .inr ⟨g, cap, cur, hv, hg, (hb.block g (lt_of_block hh)).trans hh, r⟩
theorem own_mono {w : World} {base base' : Nat} {e : TypeId} {k : Nat} {v : Value} {n : Nat} {xs : List Value} (h : w.ownsRow base e k v n xs) (hb : base' ≤ base) : w.ownsRow base' e k v n xs := by
  obtain ⟨h1, h2⟩ := h
  refine ⟨h1, ?_⟩
  rcases h2 with h2 | ⟨g, cap, cur, hv, hg, r⟩
  · exact .inl h2
  · exact .inr ⟨g, cap, cur, hv, by omega, r⟩
theorem Below.grown' {B : Nat} {a w w' : World} {v : Value} {e : TypeId} {k n : Nat} {xs : List Value} (h : Below B a w) (hown : w.ownsRow B e k v n xs) (hg : w.grownBy w' v.ownBlock) (hB : B ≤ w.heap.size) : Below B a w' :=
  h.grown hg hB fun j hj => (hown.lt j hj).1
/-! append of whatever can be read -/
section
variable {P : Program}
theorem wpList_append_rd {w : World} {ops : Array Oper} {rest : List Oper} {o : Oper} {a : Act} {Q : Exit → Act → World → Prop} (hgd : o.guard = none) (s x : Operand) (t : TypeId)
    (ho : o.op = .call { callee := .builtin .append, args := #[s, x], argTypes := #[t, t] })
    (base : Nat) (e : TypeId) (z : Value) (size bytes : Nat) (ht : P.underlying t = some (.slice e)) (hinfo : (P.info? e).map (fun i => (i.zero, i.size, i.bytes)) = some (some z, size, bytes)) (hzs : z.cells.size = size) (hsz : 0 < size)
    (v : Value) (n : Nat) (xs : List Value) (hs : a.eval s = v) (hown : w.ownsRow base e size v n xs)
    (ad : Option Addr) (m c : Nat) (news : List Value) (hx : a.eval x = .slice ad m c) (hnc : ad = none → c = 0) (hl : news.length = m * size) (hr : Rd w ad news) (h1 : ∀ u ∈ news, u.oneCell' = true)
    (h63 : n + m ≤ maxLen) (hbytes : (n + m) * bytes ≤ 140737488355328) (hbase : base ≤ w.heap.size)
    (h : ∀ v' w', w'.ownsRow base e size v' (n + m) (xs ++ news) → w.grownBy w' v.ownBlock → (v' = .slice none 0 0 ↔ v = .slice none 0 0 ∧ m = 0) → wpList P ops Q rest (a.put o.dst v') w') : wpList P ops Q (o :: rest) a w := by
  obtain ⟨i, hi, hz, hsize, hby⟩ := info_parts hinfo
  cases ad with
  | none =>
    have hn := hr.none
    subst hn
    have hm : m = 0 := by
      rcases Nat.eq_zero_or_pos m with h | h
      · exact h
      · have := Nat.mul_pos h hsz; simp at hl; omega
    subst hm
    have hc := hnc rfl
    subst hc
    exact wpList_append_own_none hgd s x t ho base e i size ht hi v n xs hs hown hx (h v w (by simpa using hown) (World.grownBy.refl _ _) (by simp))
  | some ad =>
    exact wpList_append_own w hgd s x t ho base e i z size bytes ht hi hz hsize hby hzs hsz v n xs hs hown ad m c news hx hl hr.add h1 h63 hbytes hbase h
end
theorem i64_or_nat (a b : Nat) (ha : a < 9223372036854775808) (hb : b < 9223372036854775808) : bits .or .i64 (a : Int) (b : Int) = ((a ||| b : Nat) : Int) := by
  have hc : (a ||| b) < 9223372036854775808 := Nat.or_lt_two_pow (n := 63) ha hb
  have h : bits .or .i64 (a : Int) (b : Int) = IntKind.i64.wrap ((BitVec.ofInt 64 (a : Int) ||| BitVec.ofInt 64 (b : Int) : BitVec 64).toNat : Int) := rfl
  rw [h, BitVec.toNat_or, ofInt_u64 a (by omega), ofInt_u64 b (by omega), IntKind.wrap_i64]
  omega
theorem i64_or_bytes (x y : UInt8) : bits .or .i64 (x.toNat : Int) ((y.toNat : Int) * 256) = ((x.toNat + 256 * y.toNat : Nat) : Int) := by
  have hx := x.toNat_lt
  have hy := y.toNat_lt
  rw [show ((y.toNat : Int) * 256) = ((256 * y.toNat : Nat) : Int) by omega, i64_or_nat _ _ (by omega) (by omega), Nat.or_comm, nat_join 8 _ _ (by omega) (by omega), Nat.add_comm]
/-! frames: what a head says -/
def fitsB (kind : Nat) (begun : Bool) (n room had : Nat) : Bool :=
  if kind = 1 then !begun && decide (n ≤ room)
  else if kind = 2 then !begun && decide (n = room)
  else if kind = 3 then begun && decide (n = room) && decide (had + n ≤ 65536)
  else if kind = 4 then begun && decide (n ≤ room) && decide (0 < n) && decide (had + n ≤ 65536)
  else false
theorem crcFold_append (x : BitVec 32) (l k : List UInt8) : crcFold x (l ++ k) = crcFold (crcFold x l) k := by simp [crcFold]
theorem crcMore_append (s : BitVec 32) (l k : List UInt8) : crcMore (crcMore s l) k = crcMore s (l ++ k) := by
  unfold crcMore
  rw [BitVec.not_not, crcFold_append]
/-- a byte of a sum, and a part's head -/
def sumByte (s : BitVec 32) (d : Nat) : UInt8 := UInt8.ofNat (s.toNat / d)
def tailOf (kind : UInt8) (l : List UInt8) : List UInt8 := [UInt8.ofNat l.length, UInt8.ofNat (l.length / 256), kind]
def partSum (kind : UInt8) (l : List UInt8) : BitVec 32 := crcMore 0 (tailOf kind l ++ l)
def headList (kind : UInt8) (l : List UInt8) : List UInt8 :=
  [sumByte (partSum kind l) 1, sumByte (partSum kind l) 256, sumByte (partSum kind l) 65536, sumByte (partSum kind l) 16777216] ++ tailOf kind l
def partB (kind : UInt8) (l : List UInt8) : List UInt8 := headList kind l ++ l
theorem sumByte_toNat (s : BitVec 32) (d : Nat) : ((sumByte s d).toNat : Int) = (s.toNat : Int) / (d : Int) % 256 := by
  unfold sumByte
  rw [UInt8.toNat_ofNat']
  omega
/-! two lists compared, place by place -/
theorem eq_end {α : Type} [BEq α] [LawfulBEq α] (l k : List α) (j : Nat) (h : l.take j = k.take j) (_h1 : j ≤ l.length) (_h2 : j ≤ k.length) (_hj : l.length ≤ j ∨ k.length ≤ j) : (((l.length : Int)) == (k.length : Int)) = (l == k) := by
  rw [Bool.eq_iff_iff, beq_iff_eq, beq_iff_eq]
  constructor
  · intro e
    rw [List.take_of_length_le (by omega), List.take_of_length_le (by omega)] at h
    exact h
  · rintro rfl; rfl
theorem eq_round {α : Type} (l k : List α) (j : Nat) (h : l.take j = k.take j) (h1 : j < l.length) (h2 : j < k.length) (he : l[j] = k[j]) : l.take (j + 1) = k.take (j + 1) := by
  rw [List.take_succ_eq_append_getElem h1, List.take_succ_eq_append_getElem h2, h, he]
theorem eq_not {α : Type} [BEq α] [LawfulBEq α] (l k : List α) (j : Nat) (h1 : j < l.length) (h2 : j < k.length) (he : l[j] ≠ k[j]) : (l == k) = false := by
  rw [beq_eq_false_iff_ne]
  rintro rfl
  exact he rfl
/-! a whole block stored -/
section
variable {P : Program}
theorem run_storeVar_block (w : World) (g : Nat) (t ty : TypeId) (cur cells : Array Value) (hg : w.heap[g]? = some (.cells cur t (0, 0))) (hs : cur.size = cells.size)
    (hi : (P.info? ty).map (·.size) = some cells.size) (h1 : ∀ v ∈ cells.toList, v.oneCell' = true) :
    (storeVar ty ⟨g, 0, none⟩ (.agg cells)).run P w = .ok () (w.setRow g cells) := by
  have h := run_storeCells_at P g 0 t cells.toList 0 cur w hg (by simp [hs]) h1
  cases hq : P.info? ty with
  | none => simp [hq] at hi
  | some i =>
    have hz : cells.size = i.size := by simp [hq] at hi; omega
    have e : (List.take (0 + 0) cur.toList ++ cells.toList ++ List.drop (0 + 0 + cells.toList.length) cur.toList).toArray = cells := by
      rw [List.drop_of_length_le (by simp [hs])]; simp
    rw [e] at h
    simp [storeVar, sizeOf, typeInfo, hq, Value.cells, hz, h]
theorem wp_store_block {op : Oper} {a : Act} {w : World} {K : Act → World → Prop} {Q : Exit → Act → World → Prop} (ty : TypeId) (x y : Operand) (ho : op.op = .store ty x y)
    (g : Nat) (t : TypeId) (cur cells : Array Value) (hx : a.eval x = .pointer (some ⟨g, 0, none⟩)) (hy : a.eval y = .agg cells)
    (hg : w.heap[g]? = some (.cells cur t (0, 0))) (hs : cur.size = cells.size)
    (hi : (P.info? ty).map (·.size) = some cells.size) (h1 : ∀ v ∈ cells.toList, v.oneCell' = true)
    (h : K (a.put op.dst undef) (w.setRow g cells)) : op.wp P a w K Q := by
  unfold Oper.wp execOp
  simp only [ho, hx, hy, Instr.storeAt, Instr.sureAddr, Sem.run_bind, Sem.run_pure, Result.andThen_ok, run_storeVar_block w g t ty cur cells hg hs hi h1]
  exact h
theorem wpList_store_block {ops : Array Oper} {rest : List Oper} {op : Oper} {a : Act} {w : World} {Q : Exit → Act → World → Prop} (hgd : op.guard = none) (ty : TypeId) (x y : Operand) (ho : op.op = .store ty x y)
    (g : Nat) (t : TypeId) (cur cells : Array Value) (hx : a.eval x = .pointer (some ⟨g, 0, none⟩)) (hy : a.eval y = .agg cells)
    (hg : w.heap[g]? = some (.cells cur t (0, 0))) (hs : cur.size = cells.size)
    (hi : (P.info? ty).map (·.size) = some cells.size) (h1 : ∀ v ∈ cells.toList, v.oneCell' = true)
    (h : wpList P ops Q rest (a.put op.dst undef) (w.setRow g cells)) : wpList P ops Q (op :: rest) a w :=
  wpList_plain hgd fun _ hK => wp_store_block ty x y ho g t cur cells hx hy hg hs hi h1 (hK _ _ h)
end
theorem crcTable_of {cur : Array Value} (hs : cur.size = 256) (h : ∀ j, j < 256 → cur[j]? = some (crcTab j)) : cur = crcTable := by
  apply Array.ext
  · simp [crcTable, hs]
  · intro i h1 h2
    have := h i (by omega)
    rw [Array.getElem?_eq_getElem h1] at this
    simp only [Option.some.injEq] at this
    rw [this]; simp [crcTable]
theorem crcTable_cell {T : Nat} (h : T < 256) : crcTable[T]? = some (.int .u32 ((crcBits 8 (BitVec.ofNat 32 T)).toNat : Int)) := by
  simp [crcTable, h, crcTab]
theorem crcTable_size : crcTable.size = 256 := by simp [crcTable]
theorem crcTable_one : ∀ v ∈ crcTable.toList, v.oneCell' = true := by
  intro v hv
  simp [crcTable] at hv
  obtain ⟨a, _, rfl⟩ := hv
  rfl
end Go.Proofs.Herb
