
/- Unions: the order of texts, keys rising each once, what a key is in a list of facts, what comes of another view: plain. -/
import Derived.Test.YtnkkfdlmcpnokaaFct
namespace Go.Proofs.Herb
open Go.RowKit
abbrev bL := Op.bytesLess
theorem bl_cons (x y : UInt8) (a b : List UInt8) : bL (x :: a) (y :: b) = true ↔ x < y ∨ (x = y ∧ bL a b = true) := by
  show (decide (x < y) || (x == y && Op.bytesLess a b)) = true ↔ _
  simp
theorem bl_irrefl : ∀ a : List UInt8, bL a a = false
  | [] => rfl
  | x :: a => by
    have h := bl_irrefl a
    rw [Bool.eq_false_iff]
    intro e
    rcases (bl_cons x x a a).1 e with h1 | ⟨_, h1⟩
    · exact absurd h1 (UInt8.lt_irrefl x)
    · rw [h] at h1; cases h1
theorem bl_trans : ∀ {a b c : List UInt8}, bL a b = true → bL b c = true → bL a c = true
  | _, [], _, h, _ => by simp [bL, Op.bytesLess] at h
  | _, _ :: _, [], _, h => by simp [bL, Op.bytesLess] at h
  | [], _ :: _, _ :: _, _, _ => rfl
  | x :: a, y :: b, z :: c, h1, h2 => by
    rw [bl_cons] at *
    rcases h1 with h1 | ⟨rfl, h1⟩
    · rcases h2 with h2 | ⟨rfl, _⟩
      · exact .inl (UInt8.lt_trans h1 h2)
      · exact .inl h1
    · rcases h2 with h2 | ⟨rfl, h2⟩
      · exact .inl h2
      · exact .inr ⟨rfl, bl_trans h1 h2⟩
theorem bl_total : ∀ {a b : List UInt8}, bL a b = false → a ≠ b → bL b a = true
  | [], [], _, h => absurd rfl h
  | [], _ :: _, h, _ => by simp [bL, Op.bytesLess] at h
  | _ :: _, [], _, _ => rfl
  | x :: a, y :: b, h, hne => by
    rw [bl_cons]
    have h1 : ¬ (x < y ∨ (x = y ∧ bL a b = true)) := fun e => by rw [(bl_cons x y a b).2 e] at h; cases h
    by_cases e : x = y
    · subst e
      refine .inr ⟨rfl, bl_total ?_ (fun e => hne (by rw [e]))⟩
      rw [Bool.eq_false_iff]; exact fun e => h1 (.inr ⟨rfl, e⟩)
    · left
      have h2 : ¬ x < y := fun e => h1 (.inl e)
      rcases UInt8.lt_or_lt_of_ne e with h3 | h3
      · exact absurd h3 h2
      · exact h3
theorem bl_asymm {a b : List UInt8} (h : bL a b = true) : bL b a = false := by
  rw [Bool.eq_false_iff]
  intro e
  have := bl_trans h e
  rw [bl_irrefl] at this
  cases this

/-! keys, rising, each once -/
def ltS (a b : ByteArray) : Bool := bL a.data.toList b.data.toList
theorem ba_eq {a b : ByteArray} (h : a.data.toList = b.data.toList) : a = b := by
  obtain ⟨⟨a⟩⟩ := a; obtain ⟨⟨b⟩⟩ := b; simp at h; rw [h]
theorem ltS_irrefl (a : ByteArray) : ltS a a = false := bl_irrefl _
theorem ltS_trans {a b c : ByteArray} (h : ltS a b = true) (k : ltS b c = true) : ltS a c = true := bl_trans h k
theorem ltS_total {a b : ByteArray} (h : ltS a b = false) (hne : a ≠ b) : ltS b a = true := bl_total h fun e => hne (ba_eq e)
theorem ltS_asymm {a b : ByteArray} (h : ltS a b = true) : ltS b a = false := bl_asymm h
theorem ltS_ne {a b : ByteArray} (h : ltS a b = true) : a ≠ b := fun e => by rw [e, ltS_irrefl] at h; cases h
/-- a text laid in where it belongs, unless it is there -/
def insS (k : ByteArray) : List ByteArray → List ByteArray
  | [] => [k]
  | x :: l => if ltS x k = true then x :: insS k l else if x = k then x :: l else k :: x :: l
def nmS (l : List ByteArray) : List ByteArray := l.foldl (fun o k => insS k o) []
def StrictS (l : List ByteArray) : Prop := l.Pairwise fun a b => ltS a b = true
theorem insS_mem (k y : ByteArray) : ∀ l : List ByteArray, y ∈ insS k l ↔ y = k ∨ y ∈ l
  | [] => by simp [insS]
  | x :: l => by
    have ih := insS_mem k y l
    unfold insS
    split
    · rw [List.mem_cons, ih, List.mem_cons]
      constructor
      · rintro (h | h | h)
        · exact .inr (.inl h)
        · exact .inl h
        · exact .inr (.inr h)
      · rintro (h | h | h)
        · exact .inr (.inl h)
        · exact .inl h
        · exact .inr (.inr h)
    · split
      · rename_i e
        subst e
        constructor
        · exact .inr
        · rintro (h | h)
          · rw [h]; exact List.mem_cons_self
          · exact h
      · rw [List.mem_cons]
theorem insS_strict (k : ByteArray) : ∀ l : List ByteArray, StrictS l → StrictS (insS k l)
  | [], _ => by simp [insS, StrictS]
  | x :: l, h => by
    have ih := insS_strict k l (List.pairwise_cons.1 h).2
    have hx := (List.pairwise_cons.1 h).1
    unfold insS
    split
    · rename_i e
      refine List.pairwise_cons.2 ⟨fun y hy => ?_, ih⟩
      rcases (insS_mem k y l).1 hy with rfl | hy
      · exact e
      · exact hx y hy
    · rename_i e
      split
      · exact h
      · rename_i hne
        have hk : ltS k x = true := ltS_total (by simpa using e) hne
        refine List.pairwise_cons.2 ⟨fun y hy => ?_, h⟩
        rcases List.mem_cons.1 hy with rfl | hy
        · exact hk
        · exact ltS_trans hk (hx y hy)
theorem foldS : ∀ (l o : List ByteArray), StrictS o → StrictS (l.foldl (fun o k => insS k o) o) ∧ ∀ y, y ∈ l.foldl (fun o k => insS k o) o ↔ y ∈ o ∨ y ∈ l
  | [], o, h => ⟨h, fun y => by simp⟩
  | k :: l, o, h => by
    obtain ⟨h1, h2⟩ := foldS l (insS k o) (insS_strict k o h)
    refine ⟨h1, fun y => ?_⟩
    rw [List.foldl_cons, h2, insS_mem, List.mem_cons]
    constructor
    · rintro ((h | h) | h)
      · exact .inr (.inl h)
      · exact .inl h
      · exact .inr (.inr h)
    · rintro (h | h | h)
      · exact .inl (.inr h)
      · exact .inl (.inl h)
      · exact .inr h
theorem nmS_strict (l : List ByteArray) : StrictS (nmS l) := (foldS l [] List.Pairwise.nil).1
theorem nmS_mem {l : List ByteArray} {y : ByteArray} : y ∈ nmS l ↔ y ∈ l := by
  have := (foldS l [] List.Pairwise.nil).2 y
  unfold nmS; rw [this]; simp
/-- a strict list is told by its members -/
theorem strict_unique : ∀ {l m : List ByteArray}, StrictS l → StrictS m → (∀ y, y ∈ l ↔ y ∈ m) → l = m
  | [], [], _, _, _ => rfl
  | [], y :: m, _, _, h => by have := (h y).2 List.mem_cons_self; cases this
  | x :: l, [], _, _, h => by have := (h x).1 List.mem_cons_self; cases this
  | x :: l, y :: m, hl, hm, h => by
    have hx := (List.pairwise_cons.1 hl).1
    have hy := (List.pairwise_cons.1 hm).1
    have e : x = y := by
      rcases List.mem_cons.1 ((h x).1 List.mem_cons_self) with e | e
      · exact e
      · rcases List.mem_cons.1 ((h y).2 List.mem_cons_self) with e' | e'
        · exact e'.symm
        · have := ltS_asymm (hy x e); rw [hx y e'] at this; cases this
    subst e
    congr 1
    refine strict_unique (List.pairwise_cons.1 hl).2 (List.pairwise_cons.1 hm).2 fun z => ⟨fun hz => ?_, fun hz => ?_⟩
    · rcases List.mem_cons.1 ((h z).1 (List.mem_cons_of_mem _ hz)) with e | e
      · exact absurd e.symm (ltS_ne (hx z hz))
      · exact e
    · rcases List.mem_cons.1 ((h z).2 (List.mem_cons_of_mem _ hz)) with e | e
      · exact absurd e.symm (ltS_ne (hy z hz))
      · exact e
theorem strict_nm {l m : List ByteArray} (h : StrictS m) (hm : ∀ y, y ∈ m ↔ y ∈ l) : m = nmS l := strict_unique h (nmS_strict l) fun y => (hm y).trans nmS_mem.symm
theorem strict_filter {l : List ByteArray} (h : StrictS l) (p : ByteArray → Bool) : StrictS (l.filter p) := List.Pairwise.sublist List.filter_sublist h
/-! what a key is in a list -/
def findF (l : List Fact) (k : ByteArray) (v : Nat) : Option Fact := l.find? fun f => decide (f.key = k) && decide (f.valid = v)
def lookF (l : List Fact) (k : ByteArray) (v : Nat) : Option (Nat × ByteArray) := (findF l k v).map fun f => (f.kind, f.val)
def withinB (a b : List Fact) (k : ByteArray) : Bool := a.all fun f => !decide (f.key = k) || decide (lookF b k f.valid = lookF a k f.valid)
def sameB (a b : List Fact) (k : ByteArray) : Bool := withinB a b k && withinB b a k
theorem findF_some {l : List Fact} {k : ByteArray} {v : Nat} {f : Fact} (h : findF l k v = some f) : f ∈ l ∧ f.key = k ∧ f.valid = v := by
  have h1 := List.find?_some h
  have h2 := List.mem_of_find?_eq_some h
  simp at h1
  exact ⟨h2, h1⟩
theorem findF_none {l : List Fact} {k : ByteArray} {v : Nat} : findF l k v = none ↔ ∀ f ∈ l, f.key = k → f.valid ≠ v := by
  unfold findF
  rw [List.find?_eq_none]
  constructor
  · intro h f hf hk hv
    exact h f hf (by simp [hk, hv])
  · intro h f hf e
    simp at e
    exact h f hf e.1 e.2
theorem lookF_none {l : List Fact} {k : ByteArray} {v : Nat} : lookF l k v = none ↔ ∀ f ∈ l, f.key = k → f.valid ≠ v := by
  unfold lookF; rw [Option.map_eq_none_iff]; exact findF_none
theorem lookF_isSome {l : List Fact} {f : Fact} (h : f ∈ l) : ∃ s, lookF l f.key f.valid = some s := by
  cases e : lookF l f.key f.valid with
  | some s => exact ⟨s, rfl⟩
  | none => exact absurd rfl (lookF_none.1 e f h rfl)
theorem lookF_mem {l : List Fact} {k : ByteArray} {v : Nat} {s : Nat × ByteArray} (h : lookF l k v = some s) : ∃ f ∈ l, f.key = k ∧ f.valid = v := by
  unfold lookF at h
  cases e : findF l k v with
  | none => rw [e] at h; cases h
  | some f => obtain ⟨h1, h2, h3⟩ := findF_some e; exact ⟨f, h1, h2, h3⟩
theorem withinB_iff {a b : List Fact} {k : ByteArray} : withinB a b k = true ↔ ∀ v s, lookF a k v = some s → lookF b k v = some s := by
  unfold withinB
  rw [List.all_eq_true]
  constructor
  · intro h v s hs
    obtain ⟨f, hf, hk, hv⟩ := lookF_mem hs
    have := h f hf
    simp [hk, hv] at this
    rw [this]; exact hs
  · intro h f hf
    by_cases hk : f.key = k
    · obtain ⟨s, hs⟩ := lookF_isSome hf
      rw [hk] at hs
      simp [hk, hs, h _ _ hs]
    · simp [hk]
theorem sameB_iff {a b : List Fact} {k : ByteArray} : sameB a b k = true ↔ ∀ v, lookF a k v = lookF b k v := by
  unfold sameB
  rw [Bool.and_eq_true, withinB_iff, withinB_iff]
  constructor
  · rintro ⟨h1, h2⟩ v
    cases ea : lookF a k v with
    | some s => exact (h1 v s ea).symm
    | none =>
      cases eb : lookF b k v with
      | none => rfl
      | some s => rw [h2 v s eb] at ea; cases ea
  · intro h
    exact ⟨fun v s e => by rw [← h v]; exact e, fun v s e => by rw [h v]; exact e⟩
theorem sameB_symm (a b : List Fact) (k : ByteArray) : sameB a b k = sameB b a k := Bool.and_comm _ _
theorem sameB_refl (a : List Fact) (k : ByteArray) : sameB a a k = true := sameB_iff.2 fun _ => rfl
theorem look_no {l : List Fact} {k : ByteArray} (h : k ∉ l.map (·.key)) (v : Nat) : lookF l k v = none := lookF_none.2 fun _ hf e => absurd (e ▸ List.mem_map_of_mem hf) h
theorem sameB_no {a b : List Fact} {k : ByteArray} (ha : k ∉ a.map (·.key)) (hb : k ∉ b.map (·.key)) : sameB a b k = true := sameB_iff.2 fun v => by rw [look_no ha, look_no hb]
theorem sameB_not {a b : List Fact} {k : ByteArray} (h : sameB a b k = false) : k ∈ a.map (·.key) ∨ k ∈ b.map (·.key) := by
  by_cases ha : k ∈ a.map (·.key)
  · exact .inl ha
  · by_cases hb : k ∈ b.map (·.key)
    · exact .inr hb
    · rw [sameB_no ha hb] at h; cases h
def keyL (l : List Fact) : List ByteArray := l.map (·.key)
/-- is a text among some? -/
def inS (k : ByteArray) (l : List ByteArray) : Bool := l.any fun x => decide (x = k)
theorem inS_iff {k : ByteArray} {l : List ByteArray} : inS k l = true ↔ k ∈ l := by
  unfold inS; rw [List.any_eq_true]
  constructor
  · rintro ⟨x, hx, e⟩; rw [← of_decide_eq_true e]; exact hx
  · intro h; exact ⟨k, h, by simp⟩
def diffS (a b : List Fact) : List ByteArray := (nmS (keyL a ++ keyL b)).filter fun k => !sameB a b k
theorem diffS_mem {a b : List Fact} {k : ByteArray} : k ∈ diffS a b ↔ sameB a b k = false := by
  unfold diffS
  rw [List.mem_filter, nmS_mem, List.mem_append]
  constructor
  · rintro ⟨_, h⟩; simpa using h
  · intro h; exact ⟨sameB_not h, by rw [h]; rfl⟩
theorem diffS_strict (a b : List Fact) : StrictS (diffS a b) := strict_filter (nmS_strict _) _
theorem diffS_nil {a b : List Fact} : diffS a b = [] ↔ ∀ k, sameB a b k = true := by
  constructor
  · intro h k
    cases e : sameB a b k with
    | true => rfl
    | false => have := diffS_mem.2 e; rw [h] at this; cases this
  · intro h
    apply List.eq_nil_iff_forall_not_mem.2
    intro k hk
    rw [diffS_mem, h k] at hk; cases hk
/-! times, falling, each once -/
def insD (v : Nat) : List Nat → List Nat
  | [] => [v]
  | x :: l => if v < x then x :: insD v l else if x = v then x :: l else v :: x :: l
def StrictD (l : List Nat) : Prop := l.Pairwise fun a b => b < a
theorem insD_mem (v y : Nat) : ∀ l : List Nat, y ∈ insD v l ↔ y = v ∨ y ∈ l
  | [] => by simp [insD]
  | x :: l => by
    have ih := insD_mem v y l
    unfold insD
    split
    · rw [List.mem_cons, ih, List.mem_cons]
      constructor
      · rintro (h | h | h)
        · exact .inr (.inl h)
        · exact .inl h
        · exact .inr (.inr h)
      · rintro (h | h | h)
        · exact .inr (.inl h)
        · exact .inl h
        · exact .inr (.inr h)
    · split
      · rename_i e
        subst e
        constructor
        · exact .inr
        · rintro (h | h)
          · rw [h]; exact List.mem_cons_self
          · exact h
      · rw [List.mem_cons]
theorem insD_strict (v : Nat) : ∀ l : List Nat, StrictD l → StrictD (insD v l)
  | [], _ => by simp [insD, StrictD]
  | x :: l, h => by
    have ih := insD_strict v l (List.pairwise_cons.1 h).2
    have hx := (List.pairwise_cons.1 h).1
    unfold insD
    split
    · rename_i e
      refine List.pairwise_cons.2 ⟨fun y hy => ?_, ih⟩
      rcases (insD_mem v y l).1 hy with rfl | hy
      · exact e
      · exact hx y hy
    · split
      · exact h
      · refine List.pairwise_cons.2 ⟨fun y hy => ?_, h⟩
        rcases List.mem_cons.1 hy with rfl | hy
        · omega
        · have := hx y hy; omega
def dnD (l : List Nat) : List Nat := l.foldl (fun o v => insD v o) []
theorem foldD : ∀ (l o : List Nat), StrictD o → StrictD (l.foldl (fun o k => insD k o) o) ∧ ∀ y, y ∈ l.foldl (fun o k => insD k o) o ↔ y ∈ o ∨ y ∈ l
  | [], o, h => ⟨h, fun y => by simp⟩
  | k :: l, o, h => by
    obtain ⟨h1, h2⟩ := foldD l (insD k o) (insD_strict k o h)
    refine ⟨h1, fun y => ?_⟩
    rw [List.foldl_cons, h2, insD_mem, List.mem_cons]
    constructor
    · rintro ((h | h) | h)
      · exact .inr (.inl h)
      · exact .inl h
      · exact .inr (.inr h)
    · rintro (h | h | h)
      · exact .inl (.inr h)
      · exact .inl (.inl h)
      · exact .inr h
theorem dnD_strict (l : List Nat) : StrictD (dnD l) := (foldD l [] List.Pairwise.nil).1
theorem dnD_mem {l : List Nat} {y : Nat} : y ∈ dnD l ↔ y ∈ l := by
  have := (foldD l [] List.Pairwise.nil).2 y
  unfold dnD; rw [this]; simp
theorem strictD_unique : ∀ {l m : List Nat}, StrictD l → StrictD m → (∀ y, y ∈ l ↔ y ∈ m) → l = m
  | [], [], _, _, _ => rfl
  | [], y :: m, _, _, h => by have := (h y).2 List.mem_cons_self; cases this
  | x :: l, [], _, _, h => by have := (h x).1 List.mem_cons_self; cases this
  | x :: l, y :: m, hl, hm, h => by
    have hx := (List.pairwise_cons.1 hl).1
    have hy := (List.pairwise_cons.1 hm).1
    have e : x = y := by
      rcases List.mem_cons.1 ((h x).1 List.mem_cons_self) with e | e
      · exact e
      · rcases List.mem_cons.1 ((h y).2 List.mem_cons_self) with e' | e'
        · exact e'.symm
        · have := hy x e; have := hx y e'; omega
    subst e
    congr 1
    refine strictD_unique (List.pairwise_cons.1 hl).2 (List.pairwise_cons.1 hm).2 fun z => ⟨fun hz => ?_, fun hz => ?_⟩
    · rcases List.mem_cons.1 ((h z).1 (List.mem_cons_of_mem _ hz)) with e | e
      · have := hx z hz; omega
      · exact e
    · rcases List.mem_cons.1 ((h z).2 (List.mem_cons_of_mem _ hz)) with e | e
      · have := hy z hz; omega
      · exact e
/-! what comes of another view -/
structure Chg where
  key : ByteArray
  valid : Nat
  kind : Nat
  val : ByteArray
def Chg.cells (c : Chg) : List Value := [.string c.key, .int .u32 (c.valid : Int), .int .u8 (c.kind : Int), .string c.val]
def cgCells (l : List Chg) : List Value := l.flatMap Chg.cells
def timesF (l : List Fact) (k : ByteArray) : List Nat := (l.filter fun f => decide (f.key = k)).map (·.valid)
theorem timesF_mem {l : List Fact} {k : ByteArray} {v : Nat} : v ∈ timesF l k ↔ ∃ s, lookF l k v = some s := by
  unfold timesF
  rw [List.mem_map]
  constructor
  · rintro ⟨f, hf, hv⟩
    rw [List.mem_filter] at hf
    have hk : f.key = k := by simpa using hf.2
    obtain ⟨s, hs⟩ := lookF_isSome hf.1
    exact ⟨s, by rw [← hk, ← hv]; exact hs⟩
  · rintro ⟨s, hs⟩
    obtain ⟨f, hf, hk, hv⟩ := lookF_mem hs
    exact ⟨f, List.mem_filter.2 ⟨hf, by simp [hk]⟩, hv⟩
def hasT (a b : List Fact) (k : ByteArray) : Bool := (timesF a k).all fun v => (lookF b k v).isSome
theorem hasT_iff {a b : List Fact} {k : ByteArray} : hasT a b k = true ↔ ∀ v s, lookF a k v = some s → ∃ t, lookF b k v = some t := by
  unfold hasT
  rw [List.all_eq_true]
  constructor
  · intro h v s hs
    have := h v (timesF_mem.2 ⟨s, hs⟩)
    exact Option.isSome_iff_exists.1 this
  · intro h v hv
    obtain ⟨s, hs⟩ := timesF_mem.1 hv
    exact Option.isSome_iff_exists.2 (h v s hs)
/-- a change of a time, if it is another one there -/
def chg1 (a b : List Fact) (k : ByteArray) (v : Nat) : List Chg := if lookF a k v = lookF b k v then [] else match lookF b k v with
  | some s => [⟨k, v, s.1, s.2⟩]
  | none => []
def brS (a b : List Fact) (k : ByteArray) : List Chg := (dnD (timesF b k)).flatMap (chg1 a b k)
def clashB (base a b : List Fact) (k : ByteArray) : Bool := !sameB a b k && !sameB b base k && !(sameB a base k && hasT a b k)
def comesB (base a b : List Fact) (k : ByteArray) : Bool := !sameB a b k && !sameB b base k && (sameB a base k && hasT a b k)
def uKeys (base a b : List Fact) : List ByteArray := nmS (keyL base ++ keyL a ++ keyL b)
def uClash (base a b : List Fact) : List ByteArray := (uKeys base a b).filter (clashB base a b)
def uAll (base a b : List Fact) : List Chg := (uKeys base a b).flatMap fun k => if comesB base a b k = true then brS a b k else []
def uChg (base a b : List Fact) : List Chg := if uClash base a b = [] then uAll base a b else []
/-- facts of changes -/
def cgF (c : Chg) : Fact := ⟨c.key, c.valid, 0, 0, c.kind, c.val⟩
def overF (l : List Fact) (c : List Chg) : List Fact := c.map cgF ++ l
theorem findF_append (a b : List Fact) (k : ByteArray) (v : Nat) : findF (a ++ b) k v = (findF a k v).or (findF b k v) := by unfold findF; rw [List.find?_append]
theorem lookF_append (a b : List Fact) (k : ByteArray) (v : Nat) : lookF (a ++ b) k v = (lookF a k v).or (lookF b k v) := by
  unfold lookF; rw [findF_append]
  cases findF a k v <;> rfl
theorem uKeys_mem {base a b : List Fact} {k : ByteArray} : k ∈ uKeys base a b ↔ k ∈ keyL base ∨ k ∈ keyL a ∨ k ∈ keyL b := by
  unfold uKeys; rw [nmS_mem, List.mem_append, List.mem_append, or_assoc]
theorem uClash_mem {base a b : List Fact} {k : ByteArray} : k ∈ uClash base a b ↔ clashB base a b k = true := by
  unfold uClash
  rw [List.mem_filter, uKeys_mem]
  constructor
  · exact fun h => h.2
  · intro h
    refine ⟨?_, h⟩
    have h1 : sameB a b k = false := by unfold clashB at h; simp at h; exact h.1.1
    exact .inr (sameB_not h1)
theorem chg1_mem {a b : List Fact} {k : ByteArray} {v : Nat} {c : Chg} : c ∈ chg1 a b k v ↔ ∃ s, lookF b k v = some s ∧ lookF a k v ≠ some s ∧ c = ⟨k, v, s.1, s.2⟩ := by
  unfold chg1
  split
  · rename_i e
    constructor
    · intro h; cases h
    · rintro ⟨s, h1, h2, _⟩; exact absurd (e.trans h1) h2
  · rename_i e
    cases hb : lookF b k v with
    | none => simp
    | some s =>
      rw [hb] at e
      simp only [List.mem_singleton, Option.some.injEq]
      constructor
      · rintro rfl; exact ⟨s, rfl, e, rfl⟩
      · rintro ⟨t, rfl, _, rfl⟩; rfl
theorem brS_mem {a b : List Fact} {k : ByteArray} {c : Chg} : c ∈ brS a b k ↔ ∃ v s, lookF b k v = some s ∧ lookF a k v ≠ some s ∧ c = ⟨k, v, s.1, s.2⟩ := by
  unfold brS
  rw [List.mem_flatMap]
  constructor
  · rintro ⟨v, _, h⟩; exact ⟨v, chg1_mem.1 h⟩
  · rintro ⟨v, s, h1, h2, h3⟩
    exact ⟨v, dnD_mem.2 (timesF_mem.2 ⟨s, h1⟩), chg1_mem.2 ⟨s, h1, h2, h3⟩⟩
theorem uAll_mem {base a b : List Fact} {c : Chg} : c ∈ uAll base a b ↔ comesB base a b c.key = true ∧ ∃ s, lookF b c.key c.valid = some s ∧ lookF a c.key c.valid ≠ some s ∧ (c.kind, c.val) = s := by
  unfold uAll
  rw [List.mem_flatMap]
  constructor
  · rintro ⟨k, hk, h⟩
    split at h
    · rename_i hc
      obtain ⟨v, s, h1, h2, rfl⟩ := brS_mem.1 h
      exact ⟨hc, s, h1, h2, rfl⟩
    · cases h
  · rintro ⟨hc, s, h1, h2, h3⟩
    refine ⟨c.key, ?_, ?_⟩
    · have h1 : sameB a b c.key = false := by unfold comesB at hc; simp at hc; exact hc.1.1
      exact uKeys_mem.2 (.inr (sameB_not h1))
    · rw [if_pos hc]
      refine brS_mem.2 ⟨c.valid, s, h1, h2, ?_⟩
      obtain ⟨k, v, x, y⟩ := c
      subst h3; rfl
/-- the changes laid over a list -/
theorem look_over {base a b : List Fact} (k : ByteArray) (v : Nat) : lookF (overF a (uAll base a b)) k v = if comesB base a b k = true then (lookF b k v).or (lookF a k v) else lookF a k v := by
  unfold overF
  rw [lookF_append]
  have hl : ∀ s, lookF ((uAll base a b).map cgF) k v = some s → comesB base a b k = true ∧ lookF b k v = some s := by
    intro s hs
    unfold lookF at hs
    cases e : findF ((uAll base a b).map cgF) k v with
    | none => rw [e] at hs; cases hs
    | some f =>
      rw [e] at hs
      obtain ⟨hf, hk, hv⟩ := findF_some e
      obtain ⟨c, hc, rfl⟩ := List.mem_map.1 hf
      obtain ⟨h1, t, h2, h3, h4⟩ := uAll_mem.1 hc
      simp only [Option.map_some, Option.some.injEq] at hs
      have hk' : c.key = k := hk
      have hv' : c.valid = v := hv
      rw [hk'] at h1 h2; rw [hv'] at h2
      refine ⟨h1, ?_⟩
      rw [h2, ← h4, ← hs]; rfl
  cases e : lookF ((uAll base a b).map cgF) k v with
  | some s =>
    obtain ⟨h1, h2⟩ := hl s e
    rw [if_pos h1, h2, Option.some_or]
  | none =>
    rw [Option.none_or]
    split
    · rename_i hc
      cases hb : lookF b k v with
      | none => rfl
      | some s =>
        rw [Option.some_or]
        by_cases ha : lookF a k v = some s
        · exact ha
        · have hm : (⟨k, v, s.1, s.2⟩ : Chg) ∈ uAll base a b := uAll_mem.2 ⟨hc, s, hb, ha, rfl⟩
          have := lookF_none.1 e (cgF ⟨k, v, s.1, s.2⟩) (List.mem_map_of_mem hm) rfl
          exact absurd rfl this
    · rfl
theorem comes_same {base a b : List Fact} {k : ByteArray} (h : comesB base a b k = true) (v : Nat) : lookF (overF a (uAll base a b)) k v = lookF b k v := by
  rw [look_over, if_pos h]
  cases hb : lookF b k v with
  | some s => rfl
  | none =>
    rw [Option.none_or]
    have ht : hasT a b k = true := by unfold comesB at h; simp at h; exact h.2.2
    cases ha : lookF a k v with
    | none => rfl
    | some s =>
      obtain ⟨t, h2⟩ := hasT_iff.1 ht v s ha
      rw [h2] at hb; cases hb
/-! the statements, plain -/
def ofK (l : List Fact) (k : ByteArray) : List Fact := l.filter fun f => decide (f.key = k)
theorem findF_ofK (l : List Fact) (k : ByteArray) (v : Nat) : findF (ofK l k) k v = findF l k v := by
  unfold findF ofK
  rw [List.find?_filter]
  congr 1
  funext f
  by_cases h : f.key = k <;> simp [h]
theorem lookF_ofK (l : List Fact) (k : ByteArray) (v : Nat) : lookF (ofK l k) k v = lookF l k v := by unfold lookF; rw [findF_ofK]
theorem keyL_ofK {l : List Fact} {k y : ByteArray} (h : y ∈ keyL (ofK l k)) : y = k := by
  unfold keyL ofK at h
  obtain ⟨f, hf, rfl⟩ := List.mem_map.1 h
  rw [List.mem_filter] at hf
  simpa using hf.2
theorem taken_b {base a b : List Fact} (h : uClash base a b = []) {k : ByteArray} (hk : k ∈ diffS base b) : diffS (ofK (overF a (uChg base a b)) k) (ofK b k) = [] := by
  rw [diffS_nil]
  intro y
  by_cases hy : y = k
  · subst hy
    rw [sameB_iff]
    intro v
    rw [lookF_ofK, lookF_ofK]
    unfold uChg
    rw [if_pos h]
    by_cases hc : comesB base a b y = true
    · exact comes_same hc v
    · rw [look_over, if_neg hc]
      have hn : clashB base a b y ≠ true := fun e => by
        have := uClash_mem.2 e; rw [h] at this; cases this
      have hd := diffS_mem.1 hk
      rw [sameB_symm] at hd
      unfold clashB at hn
      unfold comesB at hc
      rw [hd] at hn hc
      cases hs : sameB a b y with
      | true => exact sameB_iff.1 hs v
      | false =>
        rw [hs] at hn hc
        cases hx : (sameB a base y && hasT a b y) <;> rw [hx] at hn hc <;> simp at hn hc
  · refine sameB_no ?_ ?_
    · exact fun e => hy (keyL_ofK e)
    · exact fun e => hy (keyL_ofK e)
theorem taken_a {base a b : List Fact} (h : uClash base a b = []) {k : ByteArray} (hk : k ∈ diffS (overF a (uChg base a b)) a) : k ∈ diffS base b := by
  rw [diffS_mem] at hk ⊢
  rw [sameB_symm]
  unfold uChg at hk
  rw [if_pos h] at hk
  by_cases hc : comesB base a b k = true
  · unfold comesB at hc; simp at hc; exact hc.1.2
  · exfalso
    have : sameB (overF a (uAll base a b)) a k = true := sameB_iff.2 fun v => by rw [look_over, if_neg hc]
    rw [this] at hk; cases hk
theorem has_app {a base b : List Fact} {k : ByteArray} (h : sameB a base k = true) (hb : ∃ p, b = p ++ base) : hasT a b k = true := by
  obtain ⟨p, rfl⟩ := hb
  refine hasT_iff.2 fun v s hs => ?_
  rw [sameB_iff.1 h v] at hs
  rw [lookF_append, hs]
  cases lookF p k v with
  | none => exact ⟨s, rfl⟩
  | some t => exact ⟨t, rfl⟩
theorem turned_one (base x y : List Fact) : uClash base (x ++ base) (y ++ base) = (diffS (x ++ base) (y ++ base)).filter fun k => inS k (diffS base (x ++ base)) && inS k (diffS base (y ++ base)) := by
  refine strict_unique (strict_filter (nmS_strict _) _) (strict_filter (diffS_strict _ _) _) fun k => ?_
  rw [uClash_mem, List.mem_filter, diffS_mem, Bool.and_eq_true, inS_iff, inS_iff, diffS_mem, diffS_mem, sameB_symm base, sameB_symm base]
  unfold clashB
  cases h1 : sameB (x ++ base) (y ++ base) k <;> cases h2 : sameB (y ++ base) base k <;> cases h3 : sameB (x ++ base) base k <;> simp
  have := has_app (b := y ++ base) h3 ⟨y, rfl⟩
  exact this
theorem clash_symm_app (base x y : List Fact) : uClash base (y ++ base) (x ++ base) = uClash base (x ++ base) (y ++ base) := by
  refine strict_unique (strict_filter (nmS_strict _) _) (strict_filter (nmS_strict _) _) fun k => ?_
  rw [turned_one, turned_one, List.mem_filter, List.mem_filter, diffS_mem, diffS_mem, sameB_symm (y ++ base)]
  simp only [Bool.and_comm]
theorem plain_b (a b : List Fact) : uClash b a b = [] ∧ uChg b a b = [] := by
  have h : uClash b a b = [] := by
    apply List.eq_nil_iff_forall_not_mem.2
    intro k hk
    rw [uClash_mem] at hk
    unfold clashB at hk; simp [sameB_refl] at hk
  refine ⟨h, ?_⟩
  unfold uChg
  rw [if_pos h]
  apply List.eq_nil_iff_forall_not_mem.2
  intro c hc
  have := (uAll_mem.1 hc).1
  unfold comesB at this; simp [sameB_refl] at this
theorem plain_a (base a : List Fact) : uClash base a a = [] ∧ uChg base a a = [] := by
  have h : uClash base a a = [] := by
    apply List.eq_nil_iff_forall_not_mem.2
    intro k hk
    rw [uClash_mem] at hk
    unfold clashB at hk; simp [sameB_refl] at hk
  refine ⟨h, ?_⟩
  unfold uChg
  rw [if_pos h]
  apply List.eq_nil_iff_forall_not_mem.2
  intro c hc
  have := (uAll_mem.1 hc).1
  unfold comesB at this; simp [sameB_refl] at this
theorem plain_c (a p : List Fact) : uClash a a (p ++ a) = [] ∧ diffS (overF a (uChg a a (p ++ a))) (p ++ a) = [] := by
  have ht : ∀ k, hasT a (p ++ a) k = true := fun k => has_app (sameB_refl a k) ⟨p, rfl⟩
  have h : uClash a a (p ++ a) = [] := by
    apply List.eq_nil_iff_forall_not_mem.2
    intro k hk
    rw [uClash_mem] at hk
    unfold clashB at hk; simp [sameB_refl, ht] at hk
  refine ⟨h, ?_⟩
  rw [diffS_nil]
  intro k
  rw [sameB_iff]
  intro v
  unfold uChg
  rw [if_pos h]
  by_cases hc : comesB a a (p ++ a) k = true
  · exact comes_same hc v
  · rw [look_over, if_neg hc]
    cases hs : sameB a (p ++ a) k with
    | true => exact sameB_iff.1 hs v
    | false =>
      exfalso; apply hc
      unfold comesB
      rw [sameB_symm (p ++ a), hs, sameB_refl, ht]; rfl
end Go.Proofs.Herb
