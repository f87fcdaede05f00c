/- The contract of tables.items. For facts that can be read. -/
import Derived.Test.YtljdlilcpcokhaaDoorKyy
import Derived.Test.YtljdlilcpcokhaaDoorCmp
import Derived.Test.YtljdlilcpcokhaaDoorAps
import Derived.Laws.IdiomStrings
import Derived.Laws.BytesString
import Derived.Laws.BytesArg
import Derived.Deep.DeepCutAuto
import Derived.BigQuiet
import Derived.Deep.QuietTactic
import Derived.IntWalk
namespace Go.Proofs.Herb
open Go.RowKit
theorem convB (w : World) (a : Option Addr) (n c : Nat) (l : List UInt8) (hn : l.length = n) (hr : Rd w a (l.map bv)) : (convert 27 9 (.slice a n c)).run Tryd.prog w = .ok (.string ⟨l.toArray⟩) w := by
  subst hn
  rcases hr with h0 | ⟨b, off, rfl, hc⟩
  · obtain rfl : l = [] := by simpa using h0
    cases a with
    | none => exact run_convert_bytes_nil w 27 5 Tryd.underlying27 Tryd.underlying5 0 c 9 Tryd.underlying9
    | some ad => exact run_convert_bytes_back (P := Tryd.prog) w 27 9 5 ad c [] Tryd.underlying27 Tryd.underlying5 Tryd.underlying9 (fun j hj => absurd hj (by simp))
  · exact run_convert_bytes_back (P := Tryd.prog) w 27 9 5 ⟨b, off, none⟩ c l Tryd.underlying27 Tryd.underlying5 Tryd.underlying9 (fun j hj => by
      rw [Addr.add_mid]
      exact hc j _ (by rw [List.getElem?_map, List.getElem?_eq_getElem hj]; rfl))
theorem infoItem : (Tryd.prog.info? 55).map (fun i => (i.zero, i.size, i.bytes)) = some (some (.agg #[.string ⟨#[]⟩, .string ⟨#[]⟩]), 2, 32) := by kernel_rfl
/-- may this fact stand behind those ahead of it? -/
def GoodAt (line : Nat) (fs : List Fact) (i : Nat) : Prop := ∃ h : i < fs.length, mayF fs[i] = true ∧ fs[i].line = line ∧ fs[i].val.size ≤ 256 ∧ ∀ j, (hj : j + 1 = i) → cmpF (fs[j]'(by omega)) fs[i] < 0
def GoodF (line : Nat) (fs : List Fact) : Prop := ∀ i, i < fs.length → GoodAt line fs i
def itemF (f : Fact) : Item := ⟨⟨(kput f).toArray⟩, f.val⟩
def itemsF (fs : List Fact) : List Item := fs.map itemF
def IPut (line : Nat) (fs : List Fact) (b0 : Nat) (w : World) (e : Ending) (w' : World) : Prop :=
  Below b0 w w' ∧ ∃ q c b, ((b = false ∧ ¬ (GoodF line fs ∧ 0 < fs.length)) ∨ (b = true ∧ GoodF line fs ∧ 0 < fs.length)) ∧
    ∃ m, e = .returned (.tuple #[.slice q m c, .bool b]) ∧ (b = true → m = fs.length ∧ w'.ownsRow b0 55 2 (.slice q m c) m (iCells (itemsF fs)))
set_option maxRecDepth 100000 in
set_option maxHeartbeats 4000000 in
theorem items_any (line : Nat) (q : Option Addr) (n c : Nat) (fs : List Fact) (w : World) (hn : fs.length = n) (hm : n ≤ 6000) (hr : Rd w q (fCells fs)) (ho : ∀ f ∈ fs, f.Ok) :
    Calls Tryd.prog 14 #[.int .u64 (line : Int), .slice q n c] w (IPut line fs w.heap.size w) := by
  have hmk := run_make_cap (P := Tryd.prog) 45 55 (.agg #[.string ⟨#[]⟩, .string ⟨#[]⟩]) 2 32 Tryd.underlying45 infoItem (n : Int) n rfl (by omega) (by omega)
  have hown0 := World.ownsRow_made (base := w.heap.size) (e := 55) (size := 2) w (madeCells (Value.agg #[.string ⟨#[]⟩, .string ⟨#[]⟩]).cells (n * 2)) n (Nat.le_refl _) (by unfold maxLen; omega) (by rw [size_madeCells])
  have Hown0 := hid hown0
  have Hn := hid hn
  have Hr := hid hr
  have Ho := hid ho
  clear hn hr ho hown0
  go_enter Tryd.func14, Tryd.ntmps14
  go_wp2_with fail
  clear hmk
  go_loopw [6, 16] (fun v i wr => ∃ (k : Nat) (p : Option Addr) (d : Nat), k ≤ n ∧ i = .int .i64 (k : Int) ∧ v = .slice p k d ∧ wr.ownsRow w.heap.size 55 2 (.slice p k d) k (iCells (itemsF (fs.take k))) ∧ (∀ i, i < k → GoodAt line fs i) ∧ Below w.heap.size w wr) (fun _ i _ => n - (intOf i).toNat)
  case atStart => exact ⟨0, _, _, Nat.zero_le _, rfl, rfl, Hown0.out, fun i h => by omega, (Below.refl _ _).alloc (Nat.le_refl _) _⟩
  case round =>
    obtain ⟨k, p, d, hk, rfl, rfl, hown, hgd, hB⟩ := hrel
    have Hown := hid hown
    have Hgd := hid hgd
    have HB := hid hB
    have hbs := hB.size
    clear hown hgd hB Hown0
    by_cases hlt : k < n
    · have hkl : k < fs.length := by rw [Hn.out]; exact hlt
      obtain ⟨bq, off, rfl, hbq, hfa⟩ := fact_at (Hr.out.below HB.out) hkl
      obtain ⟨f, hf⟩ : ∃ f, f = fs[k] := ⟨_, rfl⟩
      rw [← hf] at hfa
      have hok := Ho.out _ (List.getElem_mem hkl)
      rw [← hf] at hok
      have Hf := hid hf
      clear hf
      have hmay := may_any
      obtain ⟨key, valid, seq, fl, kind, val⟩ := f
      obtain ⟨a0, a1, a2, a3, a4, a5⟩ := hfa
      dsimp only at a0 a1 a2 a3 a4 a5
      have i0 : (0 : Int) ≤ (k : Int) := by omega
      have i1 : (k : Int) < (n : Int) := by omega
      have Hok := hid hok
      clear hok hmay
      go_upto_region 5 with (fail)
      have hba : (wr.alloc (.cells #[.string key, .int .u32 (valid : Int), .int .u64 (seq : Int), .int .u64 (fl : Int), .int .u8 (kind : Int), .string val] 43)).heap[wr.heap.size]? = some (.cells #[.string key, .int .u32 (valid : Int), .int .u64 (seq : Int), .int .u64 (fl : Int), .int .u8 (kind : Int), .string val] 43 (0, 0)) := heap_alloc_new _ _
      generalize hwa : wr.alloc (.cells #[.string key, .int .u32 (valid : Int), .int .u64 (seq : Int), .int .u64 (fl : Int), .int .u8 (kind : Int), .string val] 43) = wa at hba
      obtain ⟨X, hX⟩ : ∃ X, X = wr.heap.size := ⟨_, rfl⟩
      have hBa : Below wr.heap.size wr wa := by rw [← hwa]; exact (Below.refl _ _).alloc (Nat.le_refl _) _
      have hXa : X < wa.heap.size := by rw [← hwa, hX]; simp
      rw [← hX] at hba ⊢
      have Howna := hid (own_below Hown.out hBa)
      have HBa := hid (HB.out.trans (hBa.mono hbs))
      have Hba := hid hba
      have Hr2 := hid (Hr.out.below HBa.out)
      have hwX : w.heap.size ≤ X := by omega
      have cells : ∀ w', Below wa.heap.size wa w' → FactAt w' X 0 ⟨key, valid, seq, fl, kind, val⟩ := fun w' hb => by
        have h := (hb.block X hXa).trans hba
        exact ⟨(cell_of_row w' _ _ _ _ _ h).trans rfl, (cell_of_row w' _ _ _ _ _ h).trans rfl, (cell_of_row w' _ _ _ _ _ h).trans rfl, (cell_of_row w' _ _ _ _ _ h).trans rfl, (cell_of_row w' _ _ _ _ _ h).trans rfl, (cell_of_row w' _ _ _ _ _ h).trans rfl⟩
      have HC := hid cells
      obtain ⟨e0, e1, e2, e3, e4, e5⟩ := HC.out wa (Below.refl _ _)
      dsimp only [Nat.zero_add] at e0 e1 e2 e3 e4 e5
      clear hba hBa hwa Hown hX cells a0 a1 a2 a3 a4 a5
      have bad : ¬ GoodAt line fs k → ∀ (w' : World), Below wa.heap.size wa w' → IPut line fs w.heap.size w (.returned (.tuple #[.slice none 0 0, .bool false])) w' := fun hb w' hw =>
        ⟨HBa.out.trans (hw.mono (by omega)), none, 0, false, .inl ⟨rfl, fun h => hb (h.1 k hkl)⟩, 0, rfl, fun h => by cases h⟩
      have HBad := hid bad
      clear bad
      by_cases hmf : mayF ⟨key, valid, seq, fl, kind, val⟩ = true
      · have HK := hid (kput_ok ⟨key, valid, seq, fl, kind, val⟩ Hok.out wa hmf)
        unfold Fact.cells at HK
        by_cases hli : fl = line
        · have b1 : ((fl : Int) != (line : Int)) = false := by simp [hli]
          by_cases hvs : val.size ≤ 256
          · have b2 : decide ((256 : Int) < (val.size : Int)) = false := by simp; omega
            by_cases hk0 : k = 0
            · subst hk0
              have b3 : decide ((0 : Int) < ((0 : Nat) : Int)) = false := rfl
              have hgood : GoodAt line fs 0 := ⟨hkl, by rw [← Hf.out]; exact hmf, by rw [← Hf.out]; exact hli, by rw [← Hf.out]; exact hvs, fun j hj => by omega⟩
              have HGood := hid hgood
              clear hgood hmf hli hvs
              go_wp2_with fail
              (with_reducible refine HK.out.mono ?_)
              rintro e w3 ⟨q9, rfl, hf9, hb3⟩
              obtain ⟨f0, f1, f2, f3, f4, f5⟩ := HC.out _ hb3
              dsimp only [Nat.zero_add] at f0 f1 f2 f3 f4 f5
              obtain ⟨CC, hCC⟩ : ∃ CC : World → Prop, CC = fun w' => Below w3.heap.size w3 w' := ⟨_, rfl⟩
              have hs3 := hb3.size
              have Hb3 := hid hb3
              have Hf9 := hid hf9
              clear hb3 hf9 e0 e1 e2 e3 e4 e5
              go_upto_region 6 with (fail)
              have CD : CC { w3 with drawn := w3.drawn + 1 } := by rw [hCC]; exact (Below.refl _ _).drew
              have hSA : ∀ w', CC w' → w'.cell? ⟨X, 0, none⟩ = some (.string key) ∧ w'.cell? ⟨X, 1, none⟩ = some (.int .u32 (valid : Int)) ∧ w'.cell? ⟨X, 2, none⟩ = some (.int .u64 (seq : Int)) ∧ w'.cell? ⟨X, 3, none⟩ = some (.int .u64 (fl : Int)) ∧ w'.cell? ⟨X, 4, none⟩ = some (.int .u8 (kind : Int)) ∧ w'.cell? ⟨X, 5, none⟩ = some (.string val) := fun w' h => by
                rw [hCC] at h
                have hb := Hb3.out.trans (h.mono hs3)
                obtain ⟨f0, f1, f2, f3, f4, f5⟩ := HC.out _ hb
                exact ⟨f0, f1, f2, f3, f4, f5⟩
              have HCmp := hid (trivial)
              have HSA := hid hSA
              have HCC := hid hCC
              clear hSA hCC
              refine region_quiet_c (C := CC) (by kernel_rfl) (by kernel_rfl) CD ?_
              repeat (go_big_quiet_step ((intro hw'; first | (with_reducible exact rfl) | (have hc := HSA.out _ hw'; go_simp; with_reducible exact rfl))))
              refine wpQuiet_nil ?_
              intro w5 hw5
              rw [HCC.out] at hw5
              have hb5 := Hb3.out.trans (hw5.mono hs3)
              have hX5 : w5.cell? ⟨X, 5, none⟩ = some (.string val) := by have := (HC.out _ hb5).c5; dsimp only [Nat.zero_add] at this; exact this
              have hcv := convB w5 q9 (kput ⟨key, valid, seq, fl, kind, val⟩).length (kput ⟨key, valid, seq, fl, kind, val⟩).length (kput ⟨key, valid, seq, fl, kind, val⟩) rfl ((Hf9.out.below (hw5.mono (Nat.le_refl _))).rd)
              have Hown5 := hid (own_below Howna.out hb5)
              have HB5 := hid (HBa.out.trans (hb5.mono (by omega)))
              have hs5 := hb5.size
              obtain ⟨KS, hKS⟩ : ∃ KS : ByteArray, KS = ⟨(kput ⟨key, valid, seq, fl, kind, val⟩).toArray⟩ := ⟨_, rfl⟩
              rw [← hKS] at hcv
              have HKS := hid hKS
              clear hb5 hw5 hKS
              go_wp2_with (refine wpList_append_src rfl (.tmp 54) (.tmp 60) 45 45 rfl w.heap.size 55 (.agg #[.string ⟨#[]⟩, .string ⟨#[]⟩]) 2 32 Tryd.underlying45 infoItem rfl (by decide) p 0 d _ rfl (own_below Hown5.out ((Below.refl _ _).alloc (Nat.le_refl _) _)) _ 1 [.string KS, .string val] rfl (src_rd (by decide) Tryd.underlying45 1 rfl (Rd.new w5 [.string KS, .string val] 55) (by simp [Value.oneCell'])) (by unfold maxLen; omega) (by omega) (by simp; omega) ?_; intro q' c' w6 hown6 hg6 _; have P6 := hid (And.intro hown6 hg6); clear hown6 hg6)
              obtain ⟨hown6, hg6⟩ := P6.out
              go_roundw
              case rel =>
                refine ⟨0 + 1, q', c', by omega, by go_num, rfl, ?_, fun i hi => ?_, (HB5.out.alloc (by omega) _).grown hg6 (by simp; omega) (fun g hg => (Hown5.out.lt g hg).1)⟩
                · have e : itemsF (fs.take (0 + 1)) = itemsF (fs.take (0)) ++ [⟨KS, val⟩] := by
                    unfold itemsF
                    rw [List.take_succ_eq_append_getElem hkl, List.map_append, ← Hf.out, HKS.out]; rfl
                  rw [e, iCells_append]
                  exact hown6
                · by_cases e : i = 0
                  · subst e; exact HGood.out
                  · exact Hgd.out i (by omega)
              case measure => simp [intOf]; omega
            · obtain ⟨j, rfl⟩ : ∃ j, k = j + 1 := ⟨k - 1, by omega⟩
              have b3 : decide ((0 : Int) < ((j + 1 : Nat) : Int)) = true := by simp
              have s1 : IntKind.i64.wrap (((j + 1 : Nat) : Int) - 1) = (j : Int) := by rw [IntWalk.i64_in _ (by omega)]; omega
              have j0 : (0 : Int) ≤ (j : Int) := by omega
              have j1 : (j : Int) < (n : Int) := by omega
              obtain ⟨g, hg⟩ : ∃ g, g = fs[j] := ⟨_, rfl⟩
              have hgg : ∀ w', Below wa.heap.size wa w' → FactAt w' bq (off + j * 6) g := fun w' hb => by
                obtain ⟨b', off', e, _, h⟩ := fact_at (j := j) (Hr2.out.below hb) (by omega)
                cases e
                rw [hg]; exact h
              obtain ⟨C, hC⟩ : ∃ C, C = cmpF g ⟨key, valid, seq, fl, kind, val⟩ := ⟨_, rfl⟩
              have Hg := hid hg
              clear hg
              obtain ⟨gk, gv, gs, gl, gd, gx⟩ := g
              have HG := hid hgg
              have HCV := hid hC
              clear hgg hC
              by_cases hcm : C < 0
              · have b4 : decide ((0 : Int) ≤ C) = false := by simp; omega
                have hgood : GoodAt line fs (j + 1) := ⟨hkl, by rw [← Hf.out]; exact hmf, by rw [← Hf.out]; exact hli, by rw [← Hf.out]; exact hvs, fun i hi => by
                  obtain rfl : i = j := by omega
                  rw [← Hf.out, ← Hg.out, ← HCV.out]; exact hcm⟩
                have HGood := hid hgood
                clear hgood hmf hli hvs hcm
                go_wp2_with fail
                (with_reducible refine HK.out.mono ?_)
                rintro e w3 ⟨q9, rfl, hf9, hb3⟩
                obtain ⟨f0, f1, f2, f3, f4, f5⟩ := HC.out _ hb3
                dsimp only [Nat.zero_add] at f0 f1 f2 f3 f4 f5
                obtain ⟨CC, hCC⟩ : ∃ CC : World → Prop, CC = fun w' => Below w3.heap.size w3 w' := ⟨_, rfl⟩
                have hs3 := hb3.size
                have Hb3 := hid hb3
                have Hf9 := hid hf9
                clear hb3 hf9 e0 e1 e2 e3 e4 e5
                go_upto_region 6 with (fail)
                have CD : CC { w3 with drawn := w3.drawn + 1 } := by rw [hCC]; exact (Below.refl _ _).drew
                have hSA : ∀ w', CC w' → w'.cell? ⟨X, 0, none⟩ = some (.string key) ∧ w'.cell? ⟨X, 1, none⟩ = some (.int .u32 (valid : Int)) ∧ w'.cell? ⟨X, 2, none⟩ = some (.int .u64 (seq : Int)) ∧ w'.cell? ⟨X, 3, none⟩ = some (.int .u64 (fl : Int)) ∧ w'.cell? ⟨X, 4, none⟩ = some (.int .u8 (kind : Int)) ∧ w'.cell? ⟨X, 5, none⟩ = some (.string val) ∧ w'.cell? ⟨bq, off + j * 6, none⟩ = some (.string gk) ∧ w'.cell? ⟨bq, off + j * 6 + 1, none⟩ = some (.int .u32 (gv : Int)) ∧ w'.cell? ⟨bq, off + j * 6 + 2, none⟩ = some (.int .u64 (gs : Int)) ∧ w'.cell? ⟨bq, off + j * 6 + 3, none⟩ = some (.int .u64 (gl : Int)) ∧ w'.cell? ⟨bq, off + j * 6 + 4, none⟩ = some (.int .u8 (gd : Int)) ∧ w'.cell? ⟨bq, off + j * 6 + 5, none⟩ = some (.string gx) := fun w' h => by
                  rw [hCC] at h
                  have hb := Hb3.out.trans (h.mono hs3)
                  obtain ⟨f0, f1, f2, f3, f4, f5⟩ := HC.out _ hb
                  obtain ⟨g0, g1, g2, g3, g4, g5⟩ := HG.out _ hb
                  dsimp only at g0 g1 g2 g3 g4 g5
                  exact ⟨f0, f1, f2, f3, f4, f5, g0, g1, g2, g3, g4, g5⟩
                have hCmp : ∀ w', CC w' → Calls Tryd.prog 39 #[.agg #[.string gk, .int .u32 (gv : Int), .int .u64 (gs : Int), .int .u64 (gl : Int), .int .u8 (gd : Int), .string gx], .agg #[.string key, .int .u32 (valid : Int), .int .u64 (seq : Int), .int .u64 (fl : Int), .int .u8 (kind : Int), .string val]] w' fun e w'' => e = .returned (.int .i64 C) ∧ CC w'' := fun w' h => by
                  have hh := cmpF_any ⟨gk, gv, gs, gl, gd, gx⟩ ⟨key, valid, seq, fl, kind, val⟩ w'
                  rw [← HCV.out] at hh
                  rw [hCC] at h ⊢
                  exact hh.mono fun _ _ ⟨h1, h2⟩ => ⟨h1, h.trans (h2.mono h.size)⟩
                have HCmp := hid hCmp
                have HSA := hid hSA
                have HCC := hid hCC
                clear hSA hCC hCmp
                refine region_quiet_c (C := CC) (by kernel_rfl) (by kernel_rfl) CD ?_
                repeat (go_big_quiet_step ((intro hw'; first | (with_reducible exact rfl) | (have hc := HSA.out _ hw'; go_simp; with_reducible exact rfl) | (go_at_call 39; exact HCmp.out _ hw'))))
                refine wpQuiet_nil ?_
                intro w5 hw5
                rw [HCC.out] at hw5
                have hb5 := Hb3.out.trans (hw5.mono hs3)
                have hX5 : w5.cell? ⟨X, 5, none⟩ = some (.string val) := by have := (HC.out _ hb5).c5; dsimp only [Nat.zero_add] at this; exact this
                have hcv := convB w5 q9 (kput ⟨key, valid, seq, fl, kind, val⟩).length (kput ⟨key, valid, seq, fl, kind, val⟩).length (kput ⟨key, valid, seq, fl, kind, val⟩) rfl ((Hf9.out.below (hw5.mono (Nat.le_refl _))).rd)
                have Hown5 := hid (own_below Howna.out hb5)
                have HB5 := hid (HBa.out.trans (hb5.mono (by omega)))
                have hs5 := hb5.size
                obtain ⟨KS, hKS⟩ : ∃ KS : ByteArray, KS = ⟨(kput ⟨key, valid, seq, fl, kind, val⟩).toArray⟩ := ⟨_, rfl⟩
                rw [← hKS] at hcv
                have HKS := hid hKS
                clear hb5 hw5 hKS
                go_wp2_with (refine wpList_append_src rfl (.tmp 54) (.tmp 60) 45 45 rfl w.heap.size 55 (.agg #[.string ⟨#[]⟩, .string ⟨#[]⟩]) 2 32 Tryd.underlying45 infoItem rfl (by decide) p (j + 1) d _ rfl (own_below Hown5.out ((Below.refl _ _).alloc (Nat.le_refl _) _)) _ 1 [.string KS, .string val] rfl (src_rd (by decide) Tryd.underlying45 1 rfl (Rd.new w5 [.string KS, .string val] 55) (by simp [Value.oneCell'])) (by unfold maxLen; omega) (by omega) (by simp; omega) ?_; intro q' c' w6 hown6 hg6 _; have P6 := hid (And.intro hown6 hg6); clear hown6 hg6)
                obtain ⟨hown6, hg6⟩ := P6.out
                go_roundw
                case rel =>
                  refine ⟨(j + 1) + 1, q', c', by omega, by go_num, rfl, ?_, fun i hi => ?_, (HB5.out.alloc (by omega) _).grown hg6 (by simp; omega) (fun g hg => (Hown5.out.lt g hg).1)⟩
                  · have e : itemsF (fs.take ((j + 1) + 1)) = itemsF (fs.take ((j + 1))) ++ [⟨KS, val⟩] := by
                      unfold itemsF
                      rw [List.take_succ_eq_append_getElem hkl, List.map_append, ← Hf.out, HKS.out]; rfl
                    rw [e, iCells_append]
                    exact hown6
                  · by_cases e : i = (j + 1)
                    · subst e; exact HGood.out
                    · exact Hgd.out i (by omega)
                case measure => simp [intOf]; omega
              · have b4 : decide ((0 : Int) ≤ C) = true := by simp; omega
                have hbd : ¬ GoodAt line fs (j + 1) := fun ⟨_, _, _, _, h⟩ => by
                  have := h j rfl
                  rw [← Hf.out, ← Hg.out, ← HCV.out] at this; exact hcm this
                have HBd := hid hbd
                clear hbd hmf hli hvs hcm
                go_wp2_with fail
                (with_reducible refine HK.out.mono ?_)
                rintro e w3 ⟨q9, rfl, hf9, hb3⟩
                obtain ⟨f0, f1, f2, f3, f4, f5⟩ := HC.out _ hb3
                dsimp only [Nat.zero_add] at f0 f1 f2 f3 f4 f5
                obtain ⟨CC, hCC⟩ : ∃ CC : World → Prop, CC = fun w' => Below w3.heap.size w3 w' := ⟨_, rfl⟩
                have hs3 := hb3.size
                have Hb3 := hid hb3
                have Hf9 := hid hf9
                clear hb3 hf9 e0 e1 e2 e3 e4 e5
                go_upto_region 6 with (fail)
                have CD : CC { w3 with drawn := w3.drawn + 1 } := by rw [hCC]; exact (Below.refl _ _).drew
                have hSA : ∀ w', CC w' → w'.cell? ⟨X, 0, none⟩ = some (.string key) ∧ w'.cell? ⟨X, 1, none⟩ = some (.int .u32 (valid : Int)) ∧ w'.cell? ⟨X, 2, none⟩ = some (.int .u64 (seq : Int)) ∧ w'.cell? ⟨X, 3, none⟩ = some (.int .u64 (fl : Int)) ∧ w'.cell? ⟨X, 4, none⟩ = some (.int .u8 (kind : Int)) ∧ w'.cell? ⟨X, 5, none⟩ = some (.string val) ∧ w'.cell? ⟨bq, off + j * 6, none⟩ = some (.string gk) ∧ w'.cell? ⟨bq, off + j * 6 + 1, none⟩ = some (.int .u32 (gv : Int)) ∧ w'.cell? ⟨bq, off + j * 6 + 2, none⟩ = some (.int .u64 (gs : Int)) ∧ w'.cell? ⟨bq, off + j * 6 + 3, none⟩ = some (.int .u64 (gl : Int)) ∧ w'.cell? ⟨bq, off + j * 6 + 4, none⟩ = some (.int .u8 (gd : Int)) ∧ w'.cell? ⟨bq, off + j * 6 + 5, none⟩ = some (.string gx) := fun w' h => by
                  rw [hCC] at h
                  have hb := Hb3.out.trans (h.mono hs3)
                  obtain ⟨f0, f1, f2, f3, f4, f5⟩ := HC.out _ hb
                  obtain ⟨g0, g1, g2, g3, g4, g5⟩ := HG.out _ hb
                  dsimp only at g0 g1 g2 g3 g4 g5
                  exact ⟨f0, f1, f2, f3, f4, f5, g0, g1, g2, g3, g4, g5⟩
                have hCmp : ∀ w', CC w' → Calls Tryd.prog 39 #[.agg #[.string gk, .int .u32 (gv : Int), .int .u64 (gs : Int), .int .u64 (gl : Int), .int .u8 (gd : Int), .string gx], .agg #[.string key, .int .u32 (valid : Int), .int .u64 (seq : Int), .int .u64 (fl : Int), .int .u8 (kind : Int), .string val]] w' fun e w'' => e = .returned (.int .i64 C) ∧ CC w'' := fun w' h => by
                  have hh := cmpF_any ⟨gk, gv, gs, gl, gd, gx⟩ ⟨key, valid, seq, fl, kind, val⟩ w'
                  rw [← HCV.out] at hh
                  rw [hCC] at h ⊢
                  exact hh.mono fun _ _ ⟨h1, h2⟩ => ⟨h1, h.trans (h2.mono h.size)⟩
                have HCmp := hid hCmp
                have HSA := hid hSA
                have HCC := hid hCC
                clear hSA hCC hCmp
                refine region_quiet_c (C := CC) (by kernel_rfl) (by kernel_rfl) CD ?_
                repeat (go_big_quiet_step ((intro hw'; first | (with_reducible exact rfl) | (have hc := HSA.out _ hw'; go_simp; with_reducible exact rfl) | (go_at_call 39; exact HCmp.out _ hw'))))
                refine wpQuiet_nil ?_
                intro w5 hw5
                rw [HCC.out] at hw5
                go_wp2_with fail
                go_ret2
                exact HBad.out HBd.out _ (Hb3.out.trans (hw5.mono hs3))
          · have b2 : decide ((256 : Int) < (val.size : Int)) = true := by simp; omega
            have hbd : ¬ GoodAt line fs k := fun ⟨_, _, _, h, _⟩ => by rw [← Hf.out] at h; exact hvs h
            have HBd := hid hbd
            clear hbd hmf hli hvs
            go_wp2_with fail
            (with_reducible refine HK.out.mono ?_)
            rintro e w3 ⟨q9, rfl, hf9, hb3⟩
            obtain ⟨f0, f1, f2, f3, f4, f5⟩ := HC.out _ hb3
            dsimp only [Nat.zero_add] at f0 f1 f2 f3 f4 f5
            obtain ⟨CC, hCC⟩ : ∃ CC : World → Prop, CC = fun w' => Below w3.heap.size w3 w' := ⟨_, rfl⟩
            have hs3 := hb3.size
            have Hb3 := hid hb3
            have Hf9 := hid hf9
            clear hb3 hf9 e0 e1 e2 e3 e4 e5
            go_upto_region 6 with (fail)
            have CD : CC { w3 with drawn := w3.drawn + 1 } := by rw [hCC]; exact (Below.refl _ _).drew
            have hSA : ∀ w', CC w' → w'.cell? ⟨X, 0, none⟩ = some (.string key) ∧ w'.cell? ⟨X, 1, none⟩ = some (.int .u32 (valid : Int)) ∧ w'.cell? ⟨X, 2, none⟩ = some (.int .u64 (seq : Int)) ∧ w'.cell? ⟨X, 3, none⟩ = some (.int .u64 (fl : Int)) ∧ w'.cell? ⟨X, 4, none⟩ = some (.int .u8 (kind : Int)) ∧ w'.cell? ⟨X, 5, none⟩ = some (.string val) := fun w' h => by
              rw [hCC] at h
              have hb := Hb3.out.trans (h.mono hs3)
              obtain ⟨f0, f1, f2, f3, f4, f5⟩ := HC.out _ hb
              exact ⟨f0, f1, f2, f3, f4, f5⟩
            have HCmp := hid (trivial)
            have HSA := hid hSA
            have HCC := hid hCC
            clear hSA hCC
            refine region_quiet_c (C := CC) (by kernel_rfl) (by kernel_rfl) CD ?_
            repeat (go_big_quiet_step ((intro hw'; first | (with_reducible exact rfl) | (have hc := HSA.out _ hw'; go_simp; with_reducible exact rfl))))
            refine wpQuiet_nil ?_
            intro w5 hw5
            rw [HCC.out] at hw5
            go_wp2_with fail
            go_ret2
            exact HBad.out HBd.out _ (Hb3.out.trans (hw5.mono hs3))
        · have b1 : ((fl : Int) != (line : Int)) = true := by simp; omega
          have hbd : ¬ GoodAt line fs k := fun ⟨_, _, h, _⟩ => by rw [← Hf.out] at h; exact hli h
          have HBd := hid hbd
          clear hbd hmf hli
          go_wp2_with fail
          (with_reducible refine HK.out.mono ?_)
          rintro e w3 ⟨q9, rfl, hf9, hb3⟩
          obtain ⟨f0, f1, f2, f3, f4, f5⟩ := HC.out _ hb3
          dsimp only [Nat.zero_add] at f0 f1 f2 f3 f4 f5
          obtain ⟨CC, hCC⟩ : ∃ CC : World → Prop, CC = fun w' => Below w3.heap.size w3 w' := ⟨_, rfl⟩
          have hs3 := hb3.size
          have Hb3 := hid hb3
          have Hf9 := hid hf9
          clear hb3 hf9 e0 e1 e2 e3 e4 e5
          go_upto_region 6 with (fail)
          have CD : CC { w3 with drawn := w3.drawn + 1 } := by rw [hCC]; exact (Below.refl _ _).drew
          have hSA : ∀ w', CC w' → w'.cell? ⟨X, 0, none⟩ = some (.string key) ∧ w'.cell? ⟨X, 1, none⟩ = some (.int .u32 (valid : Int)) ∧ w'.cell? ⟨X, 2, none⟩ = some (.int .u64 (seq : Int)) ∧ w'.cell? ⟨X, 3, none⟩ = some (.int .u64 (fl : Int)) ∧ w'.cell? ⟨X, 4, none⟩ = some (.int .u8 (kind : Int)) ∧ w'.cell? ⟨X, 5, none⟩ = some (.string val) := fun w' h => by
            rw [hCC] at h
            have hb := Hb3.out.trans (h.mono hs3)
            obtain ⟨f0, f1, f2, f3, f4, f5⟩ := HC.out _ hb
            exact ⟨f0, f1, f2, f3, f4, f5⟩
          have HCmp := hid (trivial)
          have HSA := hid hSA
          have HCC := hid hCC
          clear hSA hCC
          refine region_quiet_c (C := CC) (by kernel_rfl) (by kernel_rfl) CD ?_
          repeat (go_big_quiet_step ((intro hw'; first | (with_reducible exact rfl) | (have hc := HSA.out _ hw'; go_simp; with_reducible exact rfl))))
          refine wpQuiet_nil ?_
          intro w5 hw5
          rw [HCC.out] at hw5
          go_wp2_with fail
          go_ret2
          exact HBad.out HBd.out _ (Hb3.out.trans (hw5.mono hs3))
      · have hmf : mayF ⟨key, valid, seq, fl, kind, val⟩ = false := by simpa using hmf
        have hbd : ¬ GoodAt line fs k := fun ⟨h, h1, _⟩ => by rw [← Hf.out, hmf] at h1; cases h1
        have HBd := hid hbd
        have HK := hid (kput_no ⟨key, valid, seq, fl, kind, val⟩ wa Hok.out.key hmf)
        unfold Fact.cells at HK
        clear hmf hbd
        go_wp2_with fail
        (with_reducible refine HK.out.mono ?_)
        rintro e w3 ⟨rfl, hb3⟩
        obtain ⟨f0, f1, f2, f3, f4, f5⟩ := HC.out _ hb3
        dsimp only [Nat.zero_add] at f0 f1 f2 f3 f4 f5
        obtain ⟨CC, hCC⟩ : ∃ CC : World → Prop, CC = fun w' => Below w3.heap.size w3 w' := ⟨_, rfl⟩
        have hs3 := hb3.size
        have Hb3 := hid hb3
        clear hb3 e0 e1 e2 e3 e4 e5
        go_upto_region 6 with (fail)
        have CD : CC { w3 with drawn := w3.drawn + 1 } := by rw [hCC]; exact (Below.refl _ _).drew
        have hSA : ∀ w', CC w' → w'.cell? ⟨X, 3, none⟩ = some (.int .u64 (fl : Int)) ∧ w'.cell? ⟨X, 5, none⟩ = some (.string val) := fun w' h => by
          rw [hCC] at h
          obtain ⟨_, _, _, f3, _, f5⟩ := HC.out _ (Hb3.out.trans (h.mono hs3))
          exact ⟨f3, f5⟩
        have HSA := hid hSA
        have HCC := hid hCC
        clear hSA hCC
        refine region_quiet_c (C := CC) (by kernel_rfl) (by kernel_rfl) CD ?_
        repeat (go_big_quiet_step ((intro hw'; first | (with_reducible exact rfl) | (have hc := HSA.out _ hw'; go_simp; with_reducible exact rfl))))
        refine wpQuiet_nil ?_
        intro w5 hw5
        rw [HCC.out] at hw5
        go_wp2_with fail
        go_ret2
        exact HBad.out HBd.out _ (Hb3.out.trans (hw5.mono hs3))
    · obtain rfl : k = n := by omega
      have hlen := Hn.out
      have htk : fs.take k = fs := List.take_of_length_le (by omega)
      have hgf : GoodF line fs := fun i hi => Hgd.out i (by omega)
      have HGF := hid hgf
      have HTK := hid htk
      have Hlen := hid hlen
      clear hlen htk hgf
      by_cases h0 : 0 < k
      · have d1 : decide ((0 : Int) < (k : Int)) = true := by simp; omega
        go_wp2_with fail
        go_ret2
        refine ⟨HB.out, p, d, true, .inr ⟨rfl, HGF.out, by rw [Hlen.out]; exact h0⟩, k, ?_, fun _ => ⟨Hlen.out.symm, ?_⟩⟩
        · first | rfl | simp [h0]
        · have := Hown.out; rw [HTK.out] at this; exact this
      · obtain rfl : k = 0 := by omega
        go_wp2_with fail
        go_ret2
        exact ⟨HB.out, p, d, false, .inl ⟨rfl, fun h => by have := h.2; have := Hlen.out; omega⟩, 0, rfl, fun h => by cases h⟩
end Go.Proofs.Herb
