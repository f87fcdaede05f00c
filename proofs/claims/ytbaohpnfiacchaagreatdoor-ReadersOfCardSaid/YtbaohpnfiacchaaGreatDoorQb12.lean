/- What tables.Build wants inside its range: appends, a store of a whole struct; its results. -/
import Derived.OwnWalkIn
import Derived.Laws.CopyOwn
import Derived.Test.YtbaohpnfiacchaaGreatDoorQb03
import Derived.Test.YtbaohpnfiacchaaGreatDoorQb04
import Derived.Test.YtbaohpnfiacchaaGreatDoorQb05
namespace Go.Proofs.Herb
open Go.RowKit
section
variable {F:Fence} {nF:Nat} {ops:Array Oper} {rest:List Oper} {o:Oper} {a:Act} {w:World} {Q:Exit → Act → World → Prop}
theorem wpListIn_append_src (hgd:o.guard = none) (s x:Operand) (t tx:TypeId)
  (ho:o.op = .call { callee:=.builtin .append,args := #[s,x],argTypes := #[t,tx] })
  (base:Nat) (e:TypeId) (z:Value) (size bytes:Nat) (ht:Tryz.prog.underlying t = some (.slice e)) (hinfo:(Tryz.prog.info? e).map (fun i=>(i.zero,i.size,i.bytes)) = some (some z,size,bytes)) (hzs:z.cells.size = size) (hsz:0 < size)
  (q:Option Addr) (n c:Nat) (xs:List Value) (hs:a.eval s = .slice q n c) (hown:w.ownsRow base e size (.slice q n c) n xs)
  (X:Value) (m:Nat) (news:List Value) (hx:a.eval x = X) (hsrc:Src Tryz.prog size tx X m news w) (h63:n + m ≤ maxLen) (hbytes:(n + m) * bytes ≤ 140737488355328) (hbase:base ≤ w.heap.size)
  (h:∀ q' c' w',w'.ownsRow base e size (.slice q' (n + m) c') (n + m) (xs ++ news) → w.grownBy w' (Value.ownBlock (.slice q n c)) → (q' = q ∨ ∃ g,q' = some ⟨g,0,none⟩ ∧ w.heap.size ≤ g) → wpListIn F nF Tryz.prog ops Q rest (a.put o.dst (.slice q' (n + m) c')) w'):wpListIn F nF Tryz.prog ops Q (o :: rest) a w:=by
 obtain ⟨i,hi,hz,hsize,hby⟩:=info_parts hinfo
 obtain ⟨q',c',w',hrun,h1,h2,h3⟩:=run_append_own_src (P:=Tryz.prog) w base t tx o.type e i z size bytes ht hi hz hsize hby hzs hsz _ n xs hown X m news hsrc h63 hbytes hbase
 refine wpListIn_plain hgd fun K hK => ?_
 unfold Oper.wpIn
 refine ⟨by simp [Oper.about,ho,resolve,Target.leads,Sem.run_pure], ?_⟩
 rw [Oper.semAt_plain F _ _ (by rw [ho];intro c hc';cases hc')]
 unfold execOp
 simp only [ho,resolve,invoke,builtin,Sem.run_bind,Sem.run_pure,Result.andThen_ok,List.map_toArray,List.map_cons,List.map_nil,hs,hx,hrun]
 refine hK _ _ (h q' c' w' h1 h2 ?_)
 rcases h3 with h3 | h3
 ·rw [Value.slice.injEq] at h3;exact .inl h3.1.symm
 ·exact .inr h3
theorem opIn_append_src {K:Act → World → Prop} (s x:Operand) (t tx:TypeId)
  (ho:o.op = .call { callee:=.builtin .append,args := #[s,x],argTypes := #[t,tx] })
  (base:Nat) (e:TypeId) (z:Value) (size bytes:Nat) (ht:Tryz.prog.underlying t = some (.slice e)) (hinfo:(Tryz.prog.info? e).map (fun i=>(i.zero,i.size,i.bytes)) = some (some z,size,bytes)) (hzs:z.cells.size = size) (hsz:0 < size)
  (q:Option Addr) (n c:Nat) (xs:List Value) (hs:a.eval s = .slice q n c) (hown:w.ownsRow base e size (.slice q n c) n xs)
  (X:Value) (m:Nat) (news:List Value) (hx:a.eval x = X) (hsrc:Src Tryz.prog size tx X m news w) (h63:n + m ≤ maxLen) (hbytes:(n + m) * bytes ≤ 140737488355328) (hbase:base ≤ w.heap.size)
  (h:∀ q' c' w',w'.ownsRow base e size (.slice q' (n + m) c') (n + m) (xs ++ news) → w.grownBy w' (Value.ownBlock (.slice q n c)) → (q' = q ∨ ∃ g,q' = some ⟨g,0,none⟩ ∧ w.heap.size ≤ g) → K (a.put o.dst (.slice q' (n + m) c')) w'):o.wpIn F nF Tryz.prog a w K Q:=by
 obtain ⟨i,hi,hz,hsize,hby⟩:=info_parts hinfo
 obtain ⟨q',c',w',hrun,h1,h2,h3⟩:=run_append_own_src (P:=Tryz.prog) w base t tx o.type e i z size bytes ht hi hz hsize hby hzs hsz _ n xs hown X m news hsrc h63 hbytes hbase
 unfold Oper.wpIn
 refine ⟨by simp [Oper.about,ho,resolve,Target.leads,Sem.run_pure], ?_⟩
 rw [Oper.semAt_plain F _ _ (by rw [ho];intro c hc';cases hc')]
 unfold execOp
 simp only [ho,resolve,invoke,builtin,Sem.run_bind,Sem.run_pure,Result.andThen_ok,List.map_toArray,List.map_cons,List.map_nil,hs,hx,hrun]
 refine h q' c' w' h1 h2 ?_
 rcases h3 with h3 | h3
 ·rw [Value.slice.injEq] at h3;exact .inl h3.1.symm
 ·exact .inr h3
theorem wpListIn_store_block (hgd:o.guard = none) (ty:TypeId) (x y:Operand) (ho:o.op = .store ty x y)
  (g:Nat) (t:TypeId) (cur cells:Array Value) (hx:a.eval x = .pointer (some ⟨g,0,none⟩)) (hy:a.eval y = .agg cells)
  (hg:w.heap[g]? = some (.cells cur t (0,0))) (hs:cur.size = cells.size)
  (hi:(Tryz.prog.info? ty).map (·.size) = some cells.size) (h1:∀ v ∈ cells.toList,v.oneCell' = true)
  (h:wpListIn F nF Tryz.prog ops Q rest (a.put o.dst undef) (w.setRow g cells)):wpListIn F nF Tryz.prog ops Q (o :: rest) a w:=by
 refine wpListIn_plain hgd fun K hK => ?_
 unfold Oper.wpIn
 refine ⟨by simp [Oper.about,ho], ?_⟩
 rw [Oper.semAt_plain F _ _ (by rw [ho];intro c hc';cases hc')]
 unfold execOp
 simp only [ho,hx,hy,Instr.storeAt,Instr.sureAddr,Sem.run_bind,Sem.run_pure,Result.andThen_ok,run_storeVar_block w g t ty cur cells hg hs hi h1]
 exact hK _ _ h
end
theorem opIn_load_row {F:Fence} {nF:Nat} {o:Oper} {a:Act} {w:World} {K:Act → World → Prop} {Q:Exit → Act → World → Prop} (ty:TypeId) (x:Operand) (ho:o.op = .load ty x)
  (g:Nat) (hx:a.eval x = .pointer (some ⟨g,0,none⟩)) (cs:Array Value) (hl:(loadVar ty ⟨g,0,none⟩).run Tryz.prog w = .ok (.agg cs) w)
  (h:K (a.put o.dst (.agg cs)) w):o.wpIn F nF Tryz.prog a w K Q:=by
 unfold Oper.wpIn
 refine ⟨fun f hf=>(by rw [show o.about Tryz.prog w a.eval = none by (unfold Oper.about;rw [ho])] at hf;cases hf), ?_⟩
 rw [Oper.semAt_plain F _ _ (by rw [ho];intro c hc';cases hc')]
 unfold execOp
 simp only [ho,hx,Instr.loadAt,Instr.sureAddr,Sem.run_bind,Sem.run_pure,Result.andThen_ok,hl]
 exact h
theorem opIn_store_block {F:Fence} {nF:Nat} {o:Oper} {a:Act} {w:World} {K:Act → World → Prop} {Q:Exit → Act → World → Prop} (ty:TypeId) (x y:Operand) (ho:o.op = .store ty x y)
  (g:Nat) (t:TypeId) (cur cells:Array Value) (hx:a.eval x = .pointer (some ⟨g,0,none⟩)) (hy:a.eval y = .agg cells)
  (hg:w.heap[g]? = some (.cells cur t (0,0))) (hs:cur.size = cells.size)
  (hi:(Tryz.prog.info? ty).map (·.size) = some cells.size) (h1:∀ v ∈ cells.toList,v.oneCell' = true)
  (h:K (a.put o.dst undef) (w.setRow g cells)):o.wpIn F nF Tryz.prog a w K Q:=by
 unfold Oper.wpIn
 refine ⟨by simp [Oper.about,ho], ?_⟩
 rw [Oper.semAt_plain F _ _ (by rw [ho];intro c hc';cases hc')]
 unfold execOp
 simp only [ho,hx,hy,Instr.storeAt,Instr.sureAddr,Sem.run_bind,Sem.run_pure,Result.andThen_ok,run_storeVar_block w g t ty cur cells hg hs hi h1]
 exact h
def zProps:Array Value := #[.int .u64 0,.int .u64 0,.string ⟨#[]⟩,.string ⟨#[]⟩,.int .u64 0,.int .u64 0,.int .u32 0,.int .u32 0]
theorem build_results {tmps:Array Value} {w:World} {B4 B5 B6:Nat} {v:Value} {arr:Array Value} {e:Int} (h4:tmps.getD 4 undef = .pointer (some ⟨B4,0,none⟩)) (h5:tmps.getD 5 undef = .pointer (some ⟨B5,0,none⟩)) (h6:tmps.getD 6 undef = .pointer (some ⟨B6,0,none⟩))
  (g4:Boxed w B4 22 v) (g5:w.heap[B5]? = some (.cells arr 49 (0,0))) (hs:arr.size = 8) (g6:Boxed w B6 31 (.int .i64 e)) :
  (results Tryz.f19 tmps).run Tryz.prog w = .ok (.tuple #[v,.agg arr,.int .i64 e]) w:=by
 have r5:=run_loadVar_row (P:=Tryz.prog) w B5 _ 49 arr (0,0) _ g5 Tryz.underlying49 rfl (by rw [hs];exact infoProps)
 have c4:=g4.cell
 have c6:=g6.cell
 have hr:(Tryz.f19).results = #[.cell 4 22,.cell 5 49,.cell 6 31]:=rfl
 have e4:(loadVar 22 ⟨B4,0,none⟩).run Tryz.prog w = .ok v w:=by go_simp
 have e6:(loadVar 31 ⟨B6,0,none⟩).run Tryz.prog w = .ok (.int .i64 e) w:=by go_simp
 simp [results,asAddr] at h4 h5 h6 ⊢
 simp [h4,h5,h6,e4,r5,e6]
structure Res (W:World) (B:Nat) (v:Value) (arr:Array Value) (e:Int):Prop where
 r4:Boxed W B 22 v
 r5:W.heap[B + 1]? = some (.cells arr 49 (0,0))
 r6:Boxed W (B + 2) 31 (.int .i64 e)
 hs:arr.size = 8
theorem Res.below {W A:World} {B:Nat} {v:Value} {arr:Array Value} {e:Int} (h:Res A B v arr e) (hb:Below A.heap.size A W):Res W B v arr e :=
 ⟨(hb.block _ h.r4.lt).trans h.r4,(hb.block _ (lt_of_block h.r5)).trans h.r5,(hb.block _ h.r6.lt).trans h.r6,h.hs⟩
theorem Res.keep {W A:World} {B:Nat} {v:Value} {arr:Array Value} {e:Int} (h:Res A B v arr e) (hk:∀ k,B ≤ k → k ≤ B + 2 → W.heap[k]? = A.heap[k]?):Res W B v arr e :=
 ⟨(hk _ (by omega) (by omega)).trans h.r4,(hk _ (by omega) (by omega)).trans h.r5,(hk _ (by omega) (by omega)).trans h.r6,h.hs⟩
def setRes (W:World) (B:Nat) (v:Value) (arr:Array Value) (e:Int):World:=((W.setCell ⟨B,0,none⟩ v).setRow (B + 1) arr).setCell ⟨B + 2,0,none⟩ (.int .i64 e)
theorem Res.step {W:World} {B:Nat} {v:Value} {arr:Array Value} {e:Int} (h:Res W B v arr e) (v':Value) (arr':Array Value) (hs':arr'.size = 8) :
  W.cell? ⟨B,0,none⟩ = some v ∧ W.frozen? ⟨B,0,none⟩ = false ∧ (W.setCell ⟨B,0,none⟩ v').heap[B + 1]? = some (.cells arr 49 (0,0)) ∧
  ((W.setCell ⟨B,0,none⟩ v').setRow (B + 1) arr').cell? ⟨B + 2,0,none⟩ = some (.int .i64 e) ∧ ((W.setCell ⟨B,0,none⟩ v').setRow (B + 1) arr').frozen? ⟨B + 2,0,none⟩ = false ∧
  ∀ e',Res (setRes W B v' arr' e') B v' arr' e':=by
 have h1:(W.setCell ⟨B,0,none⟩ v').heap[B + 1]? = some (.cells arr 49 (0,0)):=(heap_setCell_other _ _ _ _ (show B + 1 ≠ B by omega)).trans h.r5
 have h2:Boxed ((W.setCell ⟨B,0,none⟩ v').setRow (B + 1) arr') (B + 2) 31 (.int .i64 e) :=
  (setRow_other _ _ _ _ (by omega)).trans ((heap_setCell_other _ _ _ _ (show B + 2 ≠ B by omega)).trans h.r6)
 refine ⟨h.r4.cell,h.r4.frozen,h1,h2.cell,h2.frozen,fun e'=>⟨?_, ?_,h2.set _,hs'⟩⟩
 ·exact (heap_setCell_other _ _ _ _ (show B ≠ B + 2 by omega)).trans ((setRow_other _ _ _ _ (by omega)).trans (h.r4.set v'))
 ·exact (heap_setCell_other _ _ _ _ (show B + 1 ≠ B + 2 by omega)).trans (setRow_heap _ _ _ _ _ _ h1)
theorem setRes_below {W0 W:World} {B b0:Nat} (hb:Below b0 W0 W) (h:b0 ≤ B) (v:Value) (arr:Array Value) (e:Int):Below b0 W0 (setRes W B v arr e) :=
 (below_setRow (hb.setCell (p:=⟨B,0,none⟩) h v) (by omega) arr).setCell (p:=⟨B + 2,0,none⟩) (by show b0 ≤ B + 2;omega) _
theorem Res.done {W:World} {B:Nat} {v:Value} {arr:Array Value} {e:Int} (h:Res W B v arr e) {tmps:Array Value} (h4:tmps.getD 4 undef = .pointer (some ⟨B,0,none⟩)) (h5:tmps.getD 5 undef = .pointer (some ⟨B + 1,0,none⟩)) (h6:tmps.getD 6 undef = .pointer (some ⟨B + 2,0,none⟩)) :
  (results Tryz.f19 tmps).run Tryz.prog W = .ok (.tuple #[v,.agg arr,.int .i64 e]) W:=build_results h4 h5 h6 h.r4 h.r5 h.hs h.r6
end Go.Proofs.Herb
