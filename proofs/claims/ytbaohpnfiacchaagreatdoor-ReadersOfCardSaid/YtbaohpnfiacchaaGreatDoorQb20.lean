/- A table, opened and read: plain. A table that was built, opened and read: plain. The rest of a slice of bytes. For bytes that can be read. The contracts of readers.must, number, taken and text. For bytes that can be read. The contract of readers.props. For bytes that can be read. Printed by gen_rdb.py. The contract of readers.index. For bytes that can be read. -/
import Derived.WalkLawsBesides
import Derived.Deep.QuietTactic
import Derived.BigQuiet
import Derived.Test.YtbaohpnfiacchaaGreatDoorQb08
import Derived.Test.YtbaohpnfiacchaaGreatDoorQb13
import Derived.Test.YtbaohpnfiacchaaGreatDoorQb15
import Derived.Test.YtbaohpnfiacchaaGreatDoorQb17
import Derived.Test.YtbaohpnfiacchaaGreatDoorQb18
import Derived.Test.YtbaohpnfiacchaaGreatDoorQb19
namespace Go.Proofs.Herb
open Go.RowKit
def tkB (l:List UInt8):Option (Nat × List UInt8):=if (getV 0 0 l).2.2 = 0 then some ((getV 0 0 l).1,l.drop (getV 0 0 l).2.1) else none
def txB (l:List UInt8):Option (ByteArray × List UInt8):=if (getT l).2.2 = 0 then some (⟨(getT l).1.toArray⟩,l.drop (getT l).2.1) else none
theorem tkB_put (n:Nat) (r:List UInt8) (hn:n < 18446744073709551616):tkB (vput n ++ r) = some (n,r):=by
 unfold tkB
 rw [getV_put n r hn,if_pos rfl]
 simp
theorem txB_put (s:ByteArray) (r:List UInt8) (hn:s.size < 18446744073709551616):txB (tput s.data.toList ++ r) = some (s,r):=by
 unfold txB
 rw [getT_put _ r (by rw [Array.length_toList];exact hn),if_pos rfl]
 simp
theorem tkB_len {l r:List UInt8} {n:Nat} (h:tkB l = some (n,r)):r.length < l.length ∧ n < 18446744073709551616:=by
 unfold tkB at h
 split at h
 ·rename_i he
  obtain ⟨h1,h2⟩:=getV_took l 0 0 he
  cases h
  refine ⟨?_,getV_lt l 0 0 (by decide) (by decide)⟩
  rw [List.length_drop]
  omega
 ·cases h
theorem txB_len {l r:List UInt8} {s:ByteArray} (h:txB l = some (s,r)):r.length ≤ l.length ∧ s.size ≤ l.length:=by
 unfold txB at h
 split at h
 ·cases h
  have h1:=getT_len l
  have h2:=getT_took l
  refine ⟨by rw [List.length_drop];omega, ?_⟩
  show (getT l).1.toArray.size ≤ _
  rw [List.size_toArray]
  omega
 ·cases h
def propsR (l:List UInt8):Option Props :=
 (tkB l).bind fun a=>(tkB a.2).bind fun b=>(txB b.2).bind fun c=>(txB c.2).bind fun d=>(tkB d.2).bind fun e=>(tkB e.2).bind fun f=>(tkB f.2).bind fun g=>(tkB g.2).bind fun h =>
  if h.2 = [] ∧ g.1 ≤ 4294967295 ∧ h.1 ≤ 4294967295 then some ⟨a.1,b.1,c.1,d.1,e.1,f.1,g.1,h.1⟩ else none
theorem propsR_put {p:Props} (o:p.Ok):propsR (ppB p) = some p:=by
 have a:=o.line
 have b:=o.many
 have c:=o.low
 have d:=o.high
 have e:=o.least
 have f:=o.greatest
 have g:=o.early
 have h:=o.late
 unfold propsR ppB
 simp only [List.append_assoc]
 rw [tkB_put _ _ a,Option.bind_some,tkB_put _ _ b,Option.bind_some,txB_put _ _ (by omega),Option.bind_some,txB_put _ _ (by omega),Option.bind_some,tkB_put _ _ e,Option.bind_some,tkB_put _ _ f,Option.bind_some,
  tkB_put _ _ (by omega),Option.bind_some]
 rw [← List.append_nil (vput p.late),tkB_put _ _ (by omega),Option.bind_some]
 dsimp only
 rw [if_pos ⟨rfl,by omega,by omega⟩]
structure Chk where
 last:ByteArray
 beg:Nat
 fin:Nat
def Chk.cells (c:Chk):List Value:=[.string c.last,.int .i64 (c.beg:Int),.int .i64 (c.fin:Int)]
def chkCells (l:List Chk):List Value:=l.flatMap Chk.cells
theorem chkCells_cons (c:Chk) (l:List Chk):chkCells (c :: l) = .string c.last :: .int .i64 (c.beg:Int) :: .int .i64 (c.fin:Int) :: chkCells l:=rfl
theorem chkCells_len (l:List Chk):(chkCells l).length = l.length * 3:=by
 induction l with
 | nil=>rfl
 | cons c l ih=>rw [chkCells_cons];simp only [List.length_cons];omega
theorem chkCells_append (l k:List Chk):chkCells (l ++ k) = chkCells l ++ chkCells k:=by unfold chkCells;rw [List.flatMap_append]
theorem chkCells_at:∀ (l:List Chk) (j:Nat) (c:Chk),l[j]? = some c → (chkCells l)[j * 3]? = some (.string c.last) ∧ (chkCells l)[j * 3 + 1]? = some (.int .i64 (c.beg:Int)) ∧ (chkCells l)[j * 3 + 2]? = some (.int .i64 (c.fin:Int))
 | [],_,_,h=>by simp at h
 | y :: l,0,c,h=>by
  simp only [List.getElem?_cons_zero,Option.some.injEq] at h
  subst h
  exact ⟨rfl,rfl,rfl⟩
 | y :: l,j + 1,c,h=>by
  have h2:=chkCells_at l j c (by simpa using h)
  rw [chkCells_cons,show (j + 1) * 3 = j * 3 + 3 from by omega]
  simp only [List.getElem?_cons_succ]
  exact h2
theorem chk_at {w:World} {q:Option Addr} {l:List Chk} {j:Nat} (h:Rd w q (chkCells l)) (hj:j < l.length) :
  ∃ b off,q = some ⟨b,off,none⟩ ∧ b < w.heap.size ∧ w.cell? ⟨b,off + j * 3,none⟩ = some (.string l[j].last) ∧ w.cell? ⟨b,off + j * 3 + 1,none⟩ = some (.int .i64 (l[j].beg:Int)) ∧ w.cell? ⟨b,off + j * 3 + 2,none⟩ = some (.int .i64 (l[j].fin:Int)):=by
 obtain ⟨h0,h1,h2⟩:=chkCells_at l j l[j] (List.getElem?_eq_getElem hj)
 have hl:=chkCells_len l
 obtain ⟨b,off,rfl,hc⟩:=h.cell (k:=j * 3) (by omega)
 refine ⟨b,off,rfl,h.lt rfl (by omega), ?_, ?_, ?_⟩
 ·rw [hc,← h0,List.getElem?_eq_getElem]
 ·obtain ⟨b',off',e',hc'⟩:=h.cell (k:=j * 3 + 1) (by omega)
  cases e'
  rw [Nat.add_assoc,hc',← h1,List.getElem?_eq_getElem]
 ·obtain ⟨b',off',e',hc'⟩:=h.cell (k:=j * 3 + 2) (by omega)
  cases e'
  rw [Nat.add_assoc,hc',← h2,List.getElem?_eq_getElem]
def idxR (fin:Nat):Nat → List Item → Option (List Chk)
 | at_,[]=>if at_ = fin then some [] else none
 | at_,x :: r=>(tkB x.val.data.toList).bind fun a=>(tkB a.2).bind fun b =>
  if b.2 = [] ∧ a.1 = at_ ∧ 0 < b.1 ∧ b.1 ≤ fin - at_ then (idxR fin (at_ + b.1) r).map fun l=>⟨x.key,at_,at_ + b.1⟩ :: l else none
structure Rdr where
 b:List UInt8
 filter:List UInt8
 props:Props
 chunks:List Chk
def ftN (bs:List UInt8) (k:Nat):Nat:=num4 (bs.drop (bs.length - 40)) k
def ftP (bs:List UInt8) (i:Nat):List UInt8:=(bs.drop (ftN bs (4 + 8 * i))).take (ftN bs (8 + 8 * i))
structure Opens (bs:List UInt8) (r:Rdr):Prop where
 b:r.b = bs
 len:40 ≤ bs.length
 magic:(bs.drop (bs.length - 40)).take 4 = [84,66,76,49]
 sum:ftN bs 36 = (crcMore 0 ((bs.drop (bs.length - 40)).take 36)).toNat
 c0:ftN bs 12 = ftN bs 4 + ftN bs 8
 c1:ftN bs 20 = ftN bs 12 + ftN bs 16
 c2:bs.length - 40 = ftN bs 20 + ftN bs 24
 s1:ftN bs 28 = (crcMore 0 (ftP bs 1)).toNat
 s2:ftN bs 32 = (crcMore 0 (ftP bs 2)).toNat
 idx:∃ l,BlkOf (ftP bs 0) l ∧ idxR (ftN bs 4) 0 l = some r.chunks
 filter:r.filter = ftP bs 1
 props:propsR (ftP bs 2) = some r.props
theorem Opens.one {bs:List UInt8} {r s:Rdr} (h:Opens bs r) (k:Opens bs s):s = r:=by
 obtain ⟨l,h1,h2⟩:=h.idx
 obtain ⟨m,k1,k2⟩:=k.idx
 rw [blk_one h1 k1,h2] at k2
 have hp:=h.props
 rw [k.props] at hp
 obtain ⟨a,b,c,d⟩:=r
 obtain ⟨a',b',c',d'⟩:=s
 have e1:=h.b
 have e2:=k.b
 have e3:=h.filter
 have e4:=k.filter
 dsimp only at *
 cases k2
 cases hp
 subst e1 e2 e3 e4
 rfl
theorem idxR_at {fin:Nat}:∀ {l:List Item} {at_:Nat} {cs:List Chk},idxR fin at_ l = some cs → at_ ≤ fin → cs.length = l.length ∧ ∀ c ∈ cs,at_ ≤ c.beg ∧ c.beg < c.fin ∧ c.fin ≤ fin
 | [],at_,cs,h,_=>by
  unfold idxR at h
  split at h
  ·cases h;exact ⟨rfl,fun c hc=>by cases hc⟩
  ·cases h
 | x :: r,at_,cs,h,h0=>by
  unfold idxR at h
  cases ha:tkB x.val.data.toList with
  | none=>rw [ha] at h;cases h
  | some a =>
   rw [ha,Option.bind_some] at h
   cases hb:tkB a.2 with
   | none=>rw [hb] at h;cases h
   | some b =>
    rw [hb,Option.bind_some] at h
    split at h
    ·rename_i hc
     cases hr:idxR fin (at_ + b.1) r with
     | none=>rw [hr] at h;cases h
     | some l =>
      rw [hr] at h
      cases h
      obtain ⟨h1,h2⟩:=idxR_at hr (by omega)
      refine ⟨by simp [h1], ?_⟩
      intro c hm
      rcases List.mem_cons.1 hm with rfl | hm
      ·exact ⟨Nat.le_refl _,by show at_ < at_ + b.1;omega,by show at_ + b.1 ≤ fin;omega⟩
      ·obtain ⟨g1,g2,g3⟩:=h2 c hm
       exact ⟨by omega,g2,g3⟩
    ·cases h
theorem idxR_keys {fin:Nat}:∀ {l:List Item} {at_:Nat} {cs:List Chk},idxR fin at_ l = some cs → cs.map (·.last) = l.map (·.key)
 | [],at_,cs,h=>by
  unfold idxR at h
  split at h
  ·cases h;rfl
  ·cases h
 | x :: r,at_,cs,h=>by
  unfold idxR at h
  cases ha:tkB x.val.data.toList with
  | none=>rw [ha] at h;cases h
  | some a =>
   rw [ha,Option.bind_some] at h
   cases hb:tkB a.2 with
   | none=>rw [hb] at h;cases h
   | some b =>
    rw [hb,Option.bind_some] at h
    split at h
    ·cases hr:idxR fin (at_ + b.1) r with
     | none=>rw [hr] at h;cases h
     | some l =>
      rw [hr] at h
      cases h
      rw [List.map_cons,List.map_cons,idxR_keys hr]
    ·cases h
theorem Opens.facts {bs:List UInt8} {r:Rdr} (h:Opens bs r):0 < r.chunks.length ∧ (∀ c ∈ r.chunks,c.beg < c.fin ∧ c.fin ≤ bs.length) ∧ r.filter.length ≤ bs.length:=by
 obtain ⟨l,h1,h2⟩:=h.idx
 obtain ⟨g1,g2⟩:=idxR_at h2 (Nat.zero_le _)
 have hc:=h.c0
 have hc1:=h.c1
 have hc2:=h.c2
 have hl:0 < l.length:=by
  obtain ⟨hr, -, -⟩:=h1
  exact hr.1
 refine ⟨by omega,fun c hm => ?_, ?_⟩
 ·obtain ⟨k1,k2,k3⟩:=g2 c hm
  omega
 ·rw [h.filter]
  unfold ftP
  rw [List.length_take,List.length_drop]
  omega
def itemF? (line:Nat) (x:Item):Option Fact:=(kgetF x.key.data.toList).map fun f=>⟨f.key,f.valid,f.seq,line,f.kind,x.val⟩
def allSome {α:Type}:List (Option α) → Option (List α)
 | []=>some []
 | none :: _=>none
 | some x :: l=>(allSome l).map (x :: ·)
def ChkOf (r:Rdr) (c:Chk) (fs:List Fact):Prop:=∃ l,BlkOf ((r.b.drop c.beg).take (c.fin - c.beg)) l ∧ lastKey l = c.last ∧ allSome (l.map (itemF? r.props.line)) = some fs
theorem ChkOf.one {r:Rdr} {c:Chk} {l m:List Fact} (h:ChkOf r c l) (k:ChkOf r c m):m = l:=by
 obtain ⟨x,h1, -,h2⟩:=h
 obtain ⟨y,k1, -,k2⟩:=k
 rw [blk_one h1 k1,h2] at k2
 cases k2
 rfl
theorem allSome_len {α:Type}:∀ {l:List (Option α)} {k:List α},allSome l = some k → k.length = l.length
 | [],k,h=>by unfold allSome at h;cases h;rfl
 | none :: _,k,h=>by unfold allSome at h;cases h
 | some x :: l,k,h=>by
  unfold allSome at h
  cases hl:allSome l with
  | none=>rw [hl] at h;cases h
  | some m =>
   rw [hl] at h
   cases h
   have:=allSome_len hl
   simp [this]
theorem allSome_map {α β:Type} (f : α → Option β) (g : α → β):∀ (l:List α),(∀ x ∈ l,f x = some (g x)) → allSome (l.map f) = some (l.map g)
 | [],_=>rfl
 | x :: l,h=>by
  rw [List.map_cons,h x (by simp),allSome,allSome_map f g l (fun y hy=>h y (by simp [hy]))]
  rfl
theorem allSome_mem {α:Type} {l:List (Option α)} {k:List α} (h:allSome l = some k):∀ x ∈ k,some x ∈ l:=by
 induction l generalizing k with
 | nil=>unfold allSome at h;cases h;intro x hx;cases hx
 | cons y l ih =>
  cases y with
  | none=>unfold allSome at h;cases h
  | some y =>
   unfold allSome at h
   cases hl:allSome l with
   | none=>rw [hl] at h;cases h
   | some m =>
    rw [hl] at h
    cases h
    intro x hx
    rcases List.mem_cons.1 hx with rfl | hx
    ·simp
    ·exact List.mem_cons_of_mem _ (ih hl x hx)
theorem ChkOf.pos {r:Rdr} {c:Chk} {l:List Fact} (h:ChkOf r c l):0 < l.length:=by
 obtain ⟨x,h1, -,h2⟩:=h
 have:=allSome_len h2
 rw [List.length_map] at this
 obtain ⟨hr, -, -⟩:=h1
 have:=hr.1
 omega
theorem itemF?_ok {line:Nat} (hl:line < 18446744073709551616) {x:Item} {f:Fact} (hv:x.val.size ≤ maxLen) (h:itemF? line x = some f):f.Ok ∧ mayF f = true ∧ f.line = line ∧ f.val = x.val:=by
 unfold itemF? at h
 cases hk:kgetF x.key.data.toList with
 | none=>rw [hk] at h;cases h
 | some g =>
  rw [hk] at h
  cases h
  obtain ⟨o,m, -, -⟩:=kget_ok hk
  exact ⟨⟨o.valid,o.seq,hl,o.kind,o.key,hv⟩,m,rfl,rfl⟩
end Go.Proofs.Herb
namespace Go.Proofs.Herb
open Go.RowKit
def chkAt (l:List Fact) (i:Nat):Chk:=⟨(((idxI l)[i]?).getD nilI).key,atF l i,atF l (i + 1)⟩
def chksF (l:List Fact):List Chk:=(List.range (idxI l).length).map (chkAt l)
theorem chksF_get (l:List Fact) {i:Nat} (h:i < (idxI l).length):(chksF l)[i]? = some (chkAt l i):=by
 unfold chksF
 rw [List.getElem?_map,List.getElem?_range h]
 rfl
theorem chksF_len (l:List Fact):(chksF l).length = (idxI l).length:=by simp [chksF]
def rdrF (line:Nat) (l:List Fact):Rdr:=⟨tabB line l,filB l,propsF line l,chksF l⟩
theorem num4_drop2 (l:List UInt8) (a k:Nat):num4 (l.drop a) k = num4 l (a + k):=by unfold num4;simp only [List.getElem?_drop,Nat.add_assoc]
theorem idxR_tab {line:Nat} {l:List Fact} (h:GoodF line l ∧ 0 < l.length) (ho:∀ f ∈ l,f.Ok) (hl:(tabB line l).length ≤ 65536):∀ (d i:Nat),i + d = (idxI l).length → idxR (outB l).length (atF l i) ((idxI l).drop i) = some ((chksF l).drop i)
 | 0,i,hi=>by
  obtain rfl:i = (idxI l).length:=by omega
  rw [List.drop_length,show (chksF l).drop (idxI l).length = [] from List.drop_of_length_le (by rw [chksF_len];exact Nat.le_refl _)]
  unfold idxR
  rw [if_pos (atF_end l)]
 | d + 1,i,hi=>by
  have ih:=idxR_tab h ho hl d (i + 1) (by omega)
  obtain ⟨S,m,xs,K,V,hc⟩:=chunk_all h ho hl (show i < (idxI l).length by omega)
  have hlt:i < (idxI l).length:=by omega
  have hout:=out_le line l
  have hg:=hc.idx
  rw [List.getElem?_eq_getElem hlt,Option.some.injEq] at hg
  have hg2:(chksF l)[i]'(by rw [chksF_len];exact hlt) = ⟨K,atF l i,atF l i + S⟩:=by
   have h1:=chksF_get l hlt
   rw [List.getElem?_eq_getElem (by rw [chksF_len];exact hlt),Option.some.injEq] at h1
   rw [h1]
   unfold chkAt
   rw [hc.idx,hc.next]
   rfl
  rw [List.drop_eq_getElem_cons hlt,List.drop_eq_getElem_cons (l:=chksF l) (by rw [chksF_len];exact hlt),hg,hg2]
  have hS:0 < S:=by
   rw [← hc.len]
   have hop:=blk_open hc.blk
   unfold openB at hop
   split at hop
   ·cases hop
   ·omega
  have hin:=hc.inn
  unfold idxR
  dsimp only
  rw [hc.val,tkB_put _ _ (by omega),Option.bind_some,← List.append_nil (vput S),tkB_put _ _ (by omega),Option.bind_some]
  dsimp only
  rw [if_pos ⟨rfl,rfl,hS,by omega⟩,← hc.next,ih]
  rfl
theorem opens_tab {line:Nat} {l:List Fact} (h:GoodF line l ∧ 0 < l.length) (ho:∀ f ∈ l,f.Ok) (hm:l.length ≤ 24000) (hl:(tabB line l).length ≤ 65536):Opens (tabB line l) (rdrF line l):=by
 have tl:=tab_len line l
 have hp:∀ i,i < 3 → ftN (tabB line l) (4 + 8 * i) = partAt l i ∧ ftN (tabB line l) (8 + 8 * i) = (((partsB line l)[i]?).getD []).length ∧ ftP (tabB line l) i = ((partsB line l)[i]?).getD []:=by
  intro i hi
  obtain ⟨h1,h2,h3⟩:=tab_parts line l hl i hi
  have e1:ftN (tabB line l) (4 + 8 * i) = partAt l i:=by
   unfold ftN
   rw [num4_drop2,← h1]
   congr 1;omega
  have e2:ftN (tabB line l) (8 + 8 * i) = (((partsB line l)[i]?).getD []).length:=by
   unfold ftN
   rw [num4_drop2,← h2]
   congr 1;omega
  refine ⟨e1,e2, ?_⟩
  unfold ftP
  rw [e1,e2,h3]
 obtain ⟨a0,b0,p0⟩:=hp 0 (by omega)
 obtain ⟨a1,b1,p1⟩:=hp 1 (by omega)
 obtain ⟨a2,b2,p2⟩:=hp 2 (by omega)
 have d0:((partsB line l)[0]?).getD [] = idxB l:=rfl
 have d1:((partsB line l)[1]?).getD [] = filB l:=rfl
 have d2:((partsB line l)[2]?).getD [] = tailB2 line l:=rfl
 rw [d0] at b0 p0
 rw [d1] at b1 p1
 rw [d2] at b2 p2
 have q0:partAt l 0 = (outB l).length:=rfl
 have q1:partAt l 1 = (outB l ++ idxB l).length:=rfl
 have q2:partAt l 2 = (outB l ++ idxB l ++ filB l).length:=rfl
 simp only [List.length_append] at q1 q2
 have fd:=footB_drop line l
 have f28:=footB_28 line l
 have f32:=footB_32 line l
 have f36:=footB_36 line l
 rw [num4_drop] at f28 f32 f36
 rw [← fd] at f28 f32 f36
 have ix:=idxR_tab h ho hl (idxI l).length 0 (by omega)
 rw [List.drop_zero,List.drop_zero,atF_zero] at ix
 refine ⟨rfl,by omega,by rw [fd];exact footB_take4 line l, ?_, ?_, ?_, ?_, ?_, ?_,⟨idxI l, ?_, ?_⟩,p1.symm, ?_⟩
 ·show ftN _ 36 = _
  rw [fd,footB_take36]
  exact f36
 ·rw [a1,a0,b0,q1,q0]
 ·rw [a2,a1,b1,q2,q1]
 ·rw [a2,b2,q2];omega
 ·rw [p1];exact f28
 ·rw [p2];exact f32
 ·rw [p0];exact idx_blk h ho hl
 ·rw [a0,q0];exact ix
 ·rw [p2]
  exact propsR_put (props_ok h.1 h.2 hm ho)
theorem item_back {line:Nat} {l:List Fact} (hg:GoodF line l) (ho:∀ f ∈ l,f.Ok):∀ f ∈ l,itemF? line (itemF f) = some f:=by
 intro f hf
 obtain ⟨i,hi,rfl⟩:=List.getElem_of_mem hf
 obtain ⟨hlt,m,hln, -, -⟩:=hg i hi
 unfold itemF? itemF
 show (kgetF (kput l[i]).toArray.toList).map _ = _
 rw [show (kput l[i]).toArray.toList = kput l[i] from rfl,kget_kput (ho _ hf) m]
 show some (Fact.mk _ _ _ line _ _) = _
 rw [← hln]
theorem chk_tab {line:Nat} {l:List Fact} (h:GoodF line l ∧ 0 < l.length) (ho:∀ f ∈ l,f.Ok) (hl:(tabB line l).length ≤ 65536) {i:Nat} (hi:i < (chksF l).length) :
  ChkOf (rdrF line l) ((chksF l)[i]) ((l.drop (fromF l i)).take (fromF l (i + 1) - fromF l i)) ∧ fromF l i < fromF l (i + 1) ∧ fromF l (i + 1) ≤ l.length:=by
 have hlt:=hi
 rw [chksF_len] at hlt
 obtain ⟨S,m,xs,K,V,hc⟩:=chunk_all h ho hl hlt
 have h1:=chksF_get l hlt
 rw [List.getElem?_eq_getElem hi,Option.some.injEq] at h1
 have hn:=hc.nextN
 have hf:=hc.fits
 have hp:=hc.pos
 refine ⟨?_,by omega,by omega⟩
 rw [h1]
 have hx:xs = ((l.drop (fromF l i)).take m).map itemF:=by
  apply List.ext_getElem?
  intro k
  by_cases hk:k < m
  ·rw [hc.item k hk,List.getElem?_map,List.getElem?_take_of_lt hk,List.getElem?_drop]
  ·rw [List.getElem?_eq_none (by rw [hc.many];omega),List.getElem?_eq_none (by rw [List.length_map,List.length_take];omega)]
 refine ⟨xs, ?_, ?_, ?_⟩
 ·show BlkOf (((tabB line l).drop (atF l i)).take (atF l (i + 1) - atF l i)) xs
  rw [hc.next,Nat.add_sub_cancel_left,hc.cut]
  exact hc.blk
 ·have hm:=hc.many
  rw [lastKey_eq (k:=m - 1) (by omega),hc.last (by omega)]
  show K = (((idxI l)[i]?).getD nilI).key
  rw [hc.idx];rfl
 ·have hpl:(rdrF line l).props.line = line:=(props_good h.1 h.2).line
  rw [hpl,hx,List.map_map,hn,Nat.add_sub_cancel_left]
  rw [allSome_map (itemF? line ∘ itemF) id _ (fun f hf=>item_back h.1 ho f (List.mem_of_mem_drop (List.mem_of_mem_take hf)))]
  rw [List.map_id]
def ChksOf (r:Rdr):List Chk → List Fact → Prop
 | [],fs=>fs = []
 | c :: cs,fs=>∃ a b,ChkOf r c a ∧ ChksOf r cs b ∧ fs = a ++ b
theorem chks_tab {line:Nat} {l:List Fact} (h:GoodF line l ∧ 0 < l.length) (ho:∀ f ∈ l,f.Ok) (hl:(tabB line l).length ≤ 65536):∀ (d i:Nat),i + d = (chksF l).length → ChksOf (rdrF line l) ((chksF l).drop i) (l.drop (fromF l i))
 | 0,i,hi=>by
  obtain rfl:i = (chksF l).length:=by omega
  rw [List.drop_length]
  show l.drop _ = []
  rw [chksF_len,fromF_end,List.drop_length]
 | d + 1,i,hi=>by
  have hlt:i < (chksF l).length:=by omega
  obtain ⟨h1,h2,h3⟩:=chk_tab h ho hl hlt
  rw [List.drop_eq_getElem_cons hlt]
  refine ⟨_,_,h1,chks_tab h ho hl d (i + 1) (by omega), ?_⟩
  have e:=(List.take_append_drop (fromF l (i + 1) - fromF l i) (l.drop (fromF l i))).symm
  rw [List.drop_drop,show fromF l i + (fromF l (i + 1) - fromF l i) = fromF l (i + 1) by omega] at e
  exact e
theorem all_tab {line:Nat} {l:List Fact} (h:GoodF line l ∧ 0 < l.length) (ho:∀ f ∈ l,f.Ok) (hl:(tabB line l).length ≤ 65536):ChksOf (rdrF line l) (rdrF line l).chunks l:=by
 have h0:=chks_tab h ho hl (chksF l).length 0 (by omega)
 rw [List.drop_zero,fromF_zero,List.drop_zero] at h0
 exact h0
end Go.Proofs.Herb
namespace Go.Proofs.Herb
open Go.RowKit
theorem slice_any (q:Option Addr) (m c T:Nat) (l:List UInt8) (w:World) (hl:l.length = m) (h0:0 < m) (hT:T ≤ m) (hc:m ≤ c) (hr:Rd w q (l.map bv)) :
  ∃ q',(∀ w':World,(Instr.slice 22 (.slice q m c) (some (.int .i64 (T:Int))) none none).run Tryz.prog w' = .ok (.slice q' (m - T) (c - T)) w') ∧ ∀ W,Rd W q (l.map bv) → Rd W q' ((l.drop T).map bv):=by
 obtain ⟨b,off,rfl, -⟩:=hr.cell (k:=0) (by rw [List.length_map];omega)
 refine ⟨some ⟨b,if c = T then off else off + T,none⟩,fun w'=>slice_from _ b off m c T w' hT hc rfl,fun W hW => ?_⟩
 by_cases e:c = T
 ·rw [List.drop_of_length_le (by omega)]
  exact .inl rfl
 ·rw [if_neg e,List.map_drop]
  exact hW.drop T
end Go.Proofs.Herb
namespace Go.Proofs.Herb
open Go.RowKit
theorem tk_pos {l:List UInt8} (h:(getV 0 0 l).2.2 = 0):0 < l.length:=by
 cases l with
 | nil=>simp [getV] at h
 | cons c r=>simp
theorem tx_pos {l:List UInt8} (h:(getT l).2.2 = 0):0 < l.length:=by
 cases l with
 | nil=>simp [getT,getV] at h
 | cons c r=>simp
def corrupt:List PanicEntry:=[{ v:=.iface 31 (.int .i64 13),recovered:=false }]
theorem must_ok (w:World):Calls Tryz.prog 55 #[.bool true] w fun e w'=>e = .returned (.tuple #[]) ∧ w = w':=by
 go_enter Tryz.func55,Tryz.ntmps55
 go_wp2
 go_end0
 exact ⟨rfl,rfl⟩
theorem must_no (w:World):Calls Tryz.prog 55 #[.bool false] w fun e w'=>e = .panicked corrupt ∧ w = w':=by
 go_enter Tryz.func55,Tryz.ntmps55
 go_wp2
 exact ⟨rfl,rfl,rfl⟩
set_option maxRecDepth 100000 in
set_option maxHeartbeats 1000000 in
theorem numR_any (q:Option Addr) (m c a:Nat) (l:List UInt8) (w:World) (hl:l.length = m) (h4:a + 4 ≤ m) (hm:m ≤ 4611686018427387904) (hr:Rd w q (l.map bv)) :
  Calls Tryz.prog 56 #[.slice q m c,.int .i64 (a:Int)] w fun e w'=>e = .returned (.int .i64 (num4 l a:Int)) ∧ Below w.heap.size w w':=by
 obtain ⟨b,off,rfl, -⟩:=hr.cell (k:=0) (by rw [List.length_map];omega)
 have c0:=rd_num hr (a:=a) (by omega)
 have c1:=rd_num hr (a:=a + 1) (by omega)
 have c2:=rd_num hr (a:=a + 2) (by omega)
 have c3:=rd_num hr (a:=a + 3) (by omega)
 have hn:num4 l a = ((l[a]?).getD 0).toNat + 256 * ((l[a + 1]?).getD 0).toNat + 65536 * ((l[a + 2]?).getD 0).toNat + 16777216 * ((l[a + 3]?).getD 0).toNat:=rfl
 rw [hn]
 generalize (l[a]?).getD 0 = x0 at *
 generalize (l[a + 1]?).getD 0 = x1 at *
 generalize (l[a + 2]?).getD 0 = x2 at *
 generalize (l[a + 3]?).getD 0 = x3 at *
 have hf:=or4_form x0 x1 x2 x3
 have w1:IntKind.i64.wrap ((a:Int) + 1) = ((a + 1:Nat):Int):=by rw [IntWalk.i64_in _ (by omega)];omega
 have w2:IntKind.i64.wrap ((a:Int) + 2) = ((a + 2:Nat):Int):=by rw [IntWalk.i64_in _ (by omega)];omega
 have w3:IntKind.i64.wrap ((a:Int) + 3) = ((a + 3:Nat):Int):=by rw [IntWalk.i64_in _ (by omega)];omega
 have i0:(a:Int) < (m:Int):=by omega
 have i1:((a + 1:Nat):Int) < (m:Int):=by omega
 have i2:((a + 2:Nat):Int) < (m:Int):=by omega
 have i3:((a + 3:Nat):Int) < (m:Int):=by omega
 obtain ⟨a1,ha1⟩:∃ n,n = a + 1:=⟨_,rfl⟩
 obtain ⟨a2,ha2⟩:∃ n,n = a + 2:=⟨_,rfl⟩
 obtain ⟨a3,ha3⟩:∃ n,n = a + 3:=⟨_,rfl⟩
 rw [← ha1] at w1 i1 c1
 rw [← ha2] at w2 i2 c2
 rw [← ha3] at w3 i3 c3
 clear hr hl hn h4 ha1 ha2 ha3
 go_enter Tryz.func56,Tryz.ntmps56
 go_upto_region 1 with (fail)
 go_quiet (fail)
 go_wp2
 go_ret
 have h0:=x0.toNat_lt
 have h1:=x1.toNat_lt
 have h2:=x2.toNat_lt
 have h3:=x3.toNat_lt
 have k:∀ x:Int, -9223372036854775808 ≤ x ∧ x ≤ 9223372036854775807 → wrap64 x = x:=fun x hx=>by
  unfold wrap64
  omega
 refine ⟨?_,below_drewN (Below.refl _ _) nq⟩
 rw [k (x0.toNat:Int) (by omega),k (x1.toNat:Int) (by omega),k (x2.toNat:Int) (by omega),k (x3.toNat:Int) (by omega),k ((x1.toNat:Int) * 256) (by omega),k ((x2.toNat:Int) * 65536) (by omega),k ((x3.toNat:Int) * 16777216) (by omega),hf]
 rfl
set_option maxRecDepth 100000 in
set_option maxHeartbeats 1000000 in
theorem taken_ok (q:Option Addr) (m c:Nat) (l:List UInt8) (w:World) (hl:l.length = m) (hc:m ≤ c) (hcm:m ≤ 9223372036854775806) (hr:Rd w q (l.map bv)) {n:Nat} {r:List UInt8} (h:tkB l = some (n,r)) :
  Calls Tryz.prog 95 #[.slice q m c] w fun e w'=>(∃ q' c',e = .returned (.tuple #[.int .u64 (n:Int),.slice q' r.length c']) ∧ r.length ≤ c' ∧ c' ≤ c ∧ ∀ W,Rd W q (l.map bv) → Rd W q' (r.map bv)) ∧ Below w.heap.size w w':=by
 have HG:=hid (vget_any q m c l w hl hcm hr)
 unfold tkB at h
 split at h
 ·rename_i he
  rw [he] at HG
  have tk1:(getV 0 0 l).2.1 ≤ m:=by have:=getV_took l 0 0 he;omega
  obtain ⟨N,hN⟩:∃ N,N = (getV 0 0 l).1:=⟨_,rfl⟩
  obtain ⟨T,hT⟩:∃ N,N = (getV 0 0 l).2.1:=⟨_,rfl⟩
  rw [← hT] at tk1
  rw [← hN,← hT] at HG h
  obtain ⟨rfl,rfl⟩:N = n ∧ l.drop T = r:=by cases h;exact ⟨rfl,rfl⟩
  have HM:=hid must_ok
  have hdl:(l.drop T).length = m - T:=by rw [List.length_drop,hl]
  rw [hdl]
  have HSl:=hid (show ∃ q',(∀ w':World,(Instr.slice 22 (.slice q m c) (some (.int .i64 (T:Int))) none none).run Tryz.prog w' = .ok (.slice q' (m - T) (c - T)) w') ∧ ∀ W,Rd W q (l.map bv) → Rd W q' ((l.drop T).map bv) from slice_any q m c T l w hl (by have:=tk_pos he;omega) tk1 hc hr)
  have Hr:=hid hr
  clear hr hl hN hT he h hdl
  obtain ⟨q',hsl,hrd⟩:=HSl.out
  have Hrd:=hid hrd
  clear hrd HSl
  go_enter Tryz.func95,Tryz.ntmps95
  go_wp2_with fail
  refine HG.out.mono ?_
  rintro e w1 ⟨rfl,hb1⟩
  have HB1:=hid hb1
  clear HG hb1
  go_wp2_with fail
  refine (HM.out _).mono ?_
  rintro e w2 ⟨rfl,rfl⟩
  go_upto_region 3 with (fail)
  go_quiet (fail)
  go_wp2
  go_ret2
  exact ⟨⟨_,_,rfl,by omega,by omega,Hrd.out⟩,below_drewN HB1.out nq⟩
 ·cases h
set_option maxRecDepth 100000 in
set_option maxHeartbeats 1000000 in
theorem taken_no (q:Option Addr) (m c:Nat) (l:List UInt8) (w:World) (hl:l.length = m) (_hc:m ≤ c) (hcm:m ≤ 9223372036854775806) (hr:Rd w q (l.map bv)) (h:tkB l = none) :
  Calls Tryz.prog 95 #[.slice q m c] w fun e w'=>e = .panicked corrupt ∧ Below w.heap.size w w':=by
 have HG:=hid (vget_any q m c l w hl hcm hr)
 unfold tkB at h
 split at h
 ·cases h
 ·rename_i he
  obtain ⟨x,hx⟩:∃ x,x = (getV 0 0 l).2.2:=⟨_,rfl⟩
  rw [← hx] at HG he
  have hx0:(x == 0) = false:=by simpa using he
  have HM:=hid must_no
  clear hr hl hx he h
  go_enter Tryz.func95,Tryz.ntmps95
  go_wp2_with fail
  refine HG.out.mono ?_
  rintro e w1 ⟨rfl,hb1⟩
  have HB1:=hid hb1
  clear HG hb1
  go_wp2_with fail
  refine (HM.out _).mono ?_
  rintro e w2 ⟨rfl,rfl⟩
  go_wp2
  exact ⟨rfl,rfl,HB1.out⟩
set_option maxRecDepth 100000 in
set_option maxHeartbeats 1000000 in
theorem text_ok (q:Option Addr) (m c:Nat) (l:List UInt8) (w:World) (hl:l.length = m) (hc:m ≤ c) (hcm:c ≤ 9223372036854775806) (hr:Rd w q (l.map bv)) {n:ByteArray} {r:List UInt8} (h:txB l = some (n,r)) :
  Calls Tryz.prog 96 #[.slice q m c] w fun e w'=>(∃ q' c',e = .returned (.tuple #[.string n,.slice q' r.length c']) ∧ r.length ≤ c' ∧ c' ≤ c ∧ ∀ W,Rd W q (l.map bv) → Rd W q' (r.map bv)) ∧ Below w.heap.size w w':=by
 have HG:=hid (vtext_any q m c l w hl hc hcm hr)
 unfold txB at h
 split at h
 ·rename_i he
  rw [he] at HG
  have tk1:(getT l).2.1 ≤ m:=by have:=getT_took l;omega
  obtain ⟨N,hN⟩:∃ N,N = (⟨(getT l).1.toArray⟩:ByteArray):=⟨_,rfl⟩
  obtain ⟨T,hT⟩:∃ N,N = (getT l).2.1:=⟨_,rfl⟩
  rw [← hT] at tk1
  rw [← hN,← hT] at HG h
  obtain ⟨rfl,rfl⟩:N = n ∧ l.drop T = r:=by cases h;exact ⟨rfl,rfl⟩
  have HM:=hid must_ok
  have hdl:(l.drop T).length = m - T:=by rw [List.length_drop,hl]
  rw [hdl]
  have HSl:=hid (show ∃ q',(∀ w':World,(Instr.slice 22 (.slice q m c) (some (.int .i64 (T:Int))) none none).run Tryz.prog w' = .ok (.slice q' (m - T) (c - T)) w') ∧ ∀ W,Rd W q (l.map bv) → Rd W q' ((l.drop T).map bv) from slice_any q m c T l w hl (by have:=tx_pos he;omega) tk1 hc hr)
  have Hr:=hid hr
  clear hr hl hN hT he h hdl
  obtain ⟨q',hsl,hrd⟩:=HSl.out
  have Hrd:=hid hrd
  clear hrd HSl
  go_enter Tryz.func96,Tryz.ntmps96
  go_wp2_with fail
  refine HG.out.mono ?_
  rintro e w1 ⟨rfl,hb1⟩
  have HB1:=hid hb1
  clear HG hb1
  go_wp2_with fail
  refine (HM.out _).mono ?_
  rintro e w2 ⟨rfl,rfl⟩
  go_upto_region 3 with (fail)
  go_quiet (fail)
  go_wp2
  go_ret2
  exact ⟨⟨_,_,rfl,by omega,by omega,Hrd.out⟩,below_drewN HB1.out nq⟩
 ·cases h
set_option maxRecDepth 100000 in
set_option maxHeartbeats 1000000 in
theorem text_no (q:Option Addr) (m c:Nat) (l:List UInt8) (w:World) (hl:l.length = m) (hc:m ≤ c) (hcm:c ≤ 9223372036854775806) (hr:Rd w q (l.map bv)) (h:txB l = none) :
  Calls Tryz.prog 96 #[.slice q m c] w fun e w'=>e = .panicked corrupt ∧ Below w.heap.size w w':=by
 have HG:=hid (vtext_any q m c l w hl hc hcm hr)
 unfold txB at h
 split at h
 ·cases h
 ·rename_i he
  obtain ⟨x,hx⟩:∃ x,x = (getT l).2.2:=⟨_,rfl⟩
  rw [← hx] at HG he
  have hx0:(x == 0) = false:=by simpa using he
  have HM:=hid must_no
  clear hr hl hx he h
  go_enter Tryz.func96,Tryz.ntmps96
  go_wp2_with fail
  refine HG.out.mono ?_
  rintro e w1 ⟨rfl,hb1⟩
  have HB1:=hid hb1
  clear HG hb1
  go_wp2_with fail
  refine (HM.out _).mono ?_
  rintro e w2 ⟨rfl,rfl⟩
  go_wp2
  exact ⟨rfl,rfl,HB1.out⟩
end Go.Proofs.Herb
namespace Go.Proofs.Herb
open Go.RowKit
def PrrP (l:List UInt8) (b0:Nat) (w:World) (e:Ending) (w':World):Prop :=
 Below b0 w w' ∧ ((propsR l = none ∧ e = .panicked corrupt) ∨ ∃ p,propsR l = some p ∧ e = .returned (.agg p.cells.toArray))
theorem infoProps8:(Tryz.prog.info? 49).map (·.size) = some 8:=by kernel_rfl
theorem prr_results {tmps:Array Value} {w:World} {B:Nat} {C:Array Value} (h2:tmps.getD 2 undef = .pointer (some ⟨B,0,none⟩)) (g:w.heap[B]? = some (.cells C 49 (0,0))) (hC:C.size = 8) :
  (results Tryz.f58 tmps).run Tryz.prog w = .ok (.agg C) w:=by
 have r2:=run_loadVar_row (P:=Tryz.prog) w B _ 49 C (0,0) _ g Tryz.underlying49 rfl (by rw [hC];exact infoProps8)
 have hr:(Tryz.f58).results = #[.cell 2 49]:=rfl
 simp [results,asAddr] at h2 ⊢
 simp [h2,r2]
set_option maxRecDepth 100000 in
set_option maxHeartbeats 4000000 in
theorem propsR_any (q:Option Addr) (m c:Nat) (l:List UInt8) (w:World) (hl:l.length = m) (hc:m ≤ c) (hcm:c ≤ 9223372036854775806) (hr:Rd w q (l.map bv)) :
  Calls Tryz.prog 58 #[.slice q m c] w (PrrP l w.heap.size w):=by
 have HR0:=hid (fun (W:World) (hW:Below w.heap.size w W)=>hr.below hW)
 obtain ⟨r0,hr0⟩:∃ r,Hid (r = l):=⟨_,hid rfl⟩
 have HL0:=hid hl
 rw [← hr0.out] at HL0 HR0 ⊢
 obtain ⟨B,hBe⟩:∃ B,Hid (B = w.heap.size):=⟨_,hid rfl⟩
 have hlt:B < w.heap.size + 1:=by rw [hBe.out];omega
 clear hr hl
 go_enter Tryz.func58,Tryz.ntmps58
 go_wp2_with fail
 obtain ⟨W0,hW0⟩:∃ W,W = w.alloc (.cells #[.int .u64 0,.int .u64 0,.string ⟨#[]⟩,.string ⟨#[]⟩,.int .u64 0,.int .u64 0,.int .u32 0,.int .u32 0] 49):=⟨_,rfl⟩
 rw [← hW0,← hBe.out]
 have HRow0:=hid (show W0.heap[B]? = some (.cells #[.int .u64 0,.int .u64 0,.string ⟨#[]⟩,.string ⟨#[]⟩,.int .u64 0,.int .u64 0,.int .u32 0,.int .u32 0] 49 (0,0)) by rw [hW0,hBe.out];exact heap_alloc_new w _)
 have HB0:=hid (show Below w.heap.size w W0 by rw [hW0];exact (Below.refl _ _).alloc (Nat.le_refl _) _)
 clear hW0
 obtain ⟨o0,ho0⟩:∃ o,Hid (o = tkB r0):=⟨_,hid rfl⟩
 cases o0 with
 | none =>
  have HP:=hid (taken_no q m c r0 W0 HL0.out hc (by omega) (HR0.out _ HB0.out) ho0.out.symm)
  have HN:=hid (show propsR r0 = none by unfold propsR;rw [← ho0.out];rfl)
  go_wp2_with fail
  refine HP.out.mono ?_
  rintro e w2 ⟨rfl,hb⟩
  have HBx:=hid (HB0.out.trans (hb.mono HB0.out.size))
  clear hb HP
  go_wp2
  refine ⟨rfl, ?_,.inl ⟨HN.out,rfl⟩⟩
  first | exact HBx.out | (rw [hBe.out];exact HBx.out)
 | some x0 =>
 obtain ⟨n0,r1⟩:=x0
 have HT0:=hid ho0.out.symm
 have HP0:=hid (taken_ok q m c r0 W0 HL0.out hc (by omega) (HR0.out _ HB0.out) ho0.out.symm)
 go_wp2_with fail
 refine HP0.out.mono ?_
 rintro e V0 ⟨⟨q1,c1,rfl,hc1,hcc1,hrd1⟩,hb0⟩
 have HR1:=hid (fun (W:World) (hW:Below w.heap.size w W)=>hrd1 W (HR0.out W hW))
 have HBv0:=hid (HB0.out.trans (hb0.mono HB0.out.size))
 have hrow:=(hb0.block _ (lt_of_block HRow0.out)).trans HRow0.out
 clear HP0 hrd1 hb0
 have HRv:=hid hrow
 have cc:V0.cell? ⟨B,0,none⟩ = some (.int .u64 0):=by rw [cell_of_row _ _ _ _ _ _ hrow];rfl
 have cf:V0.frozen? ⟨B,0,none⟩ = false:=frozen_of_row _ _ _ _ _ hrow
 clear hrow
 go_wp2_with fail
 obtain ⟨W1,hW1⟩:∃ W,W = V0.setCell ⟨B,0,none⟩ (.int .u64 (n0:Int)):=⟨_,rfl⟩
 rw [← hW1]
 have HRow1:=hid (show W1.heap[B]? = some (.cells #[.int .u64 (n0:Int),.int .u64 0,.string ⟨#[]⟩,.string ⟨#[]⟩,.int .u64 0,.int .u64 0,.int .u32 0,.int .u32 0] 49 (0,0)) by rw [hW1];exact Go.heap_setCell_same _ _ 0 _ _ _ HRv.out)
 have HB1:=hid (show Below w.heap.size w W1 by rw [hW1];exact HBv0.out.setCell (p:=⟨B,0,none⟩) (by show w.heap.size ≤ B;rw [hBe.out];exact Nat.le_refl _) _)
 clear hW1 cc cf HRv HBv0
 obtain ⟨o1,ho1⟩:∃ o,Hid (o = tkB r1):=⟨_,hid rfl⟩
 cases o1 with
 | none =>
  have HP:=hid (taken_no q1 r1.length c1 r1 W1 rfl hc1 (by omega) (HR1.out _ HB1.out) ho1.out.symm)
  have HN:=hid (show propsR r0 = none by unfold propsR;rw [HT0.out,Option.bind_some,← ho1.out];rfl)
  go_wp2_with fail
  refine HP.out.mono ?_
  rintro e w2 ⟨rfl,hb⟩
  have HBx:=hid (HB1.out.trans (hb.mono HB1.out.size))
  clear hb HP
  go_wp2
  refine ⟨rfl, ?_,.inl ⟨HN.out,rfl⟩⟩
  first | exact HBx.out | (rw [hBe.out];exact HBx.out)
 | some x1 =>
 obtain ⟨n1,r2⟩:=x1
 have HT1:=hid ho1.out.symm
 have HP1:=hid (taken_ok q1 r1.length c1 r1 W1 rfl hc1 (by omega) (HR1.out _ HB1.out) ho1.out.symm)
 go_wp2_with fail
 refine HP1.out.mono ?_
 rintro e V1 ⟨⟨q2,c2,rfl,hc2,hcc2,hrd2⟩,hb1⟩
 have HR2:=hid (fun (W:World) (hW:Below w.heap.size w W)=>hrd2 W (HR1.out W hW))
 have HBv1:=hid (HB1.out.trans (hb1.mono HB1.out.size))
 have hrow:=(hb1.block _ (lt_of_block HRow1.out)).trans HRow1.out
 clear HP1 hrd2 hb1
 have HRv:=hid hrow
 have cc:V1.cell? ⟨B,1,none⟩ = some (.int .u64 0):=by rw [cell_of_row _ _ _ _ _ _ hrow];rfl
 have cf:V1.frozen? ⟨B,1,none⟩ = false:=frozen_of_row _ _ _ _ _ hrow
 clear hrow
 go_wp2_with fail
 obtain ⟨W2,hW2⟩:∃ W,W = V1.setCell ⟨B,1,none⟩ (.int .u64 (n1:Int)):=⟨_,rfl⟩
 rw [← hW2]
 have HRow2:=hid (show W2.heap[B]? = some (.cells #[.int .u64 (n0:Int),.int .u64 (n1:Int),.string ⟨#[]⟩,.string ⟨#[]⟩,.int .u64 0,.int .u64 0,.int .u32 0,.int .u32 0] 49 (0,0)) by rw [hW2];exact Go.heap_setCell_same _ _ 1 _ _ _ HRv.out)
 have HB2:=hid (show Below w.heap.size w W2 by rw [hW2];exact HBv1.out.setCell (p:=⟨B,1,none⟩) (by show w.heap.size ≤ B;rw [hBe.out];exact Nat.le_refl _) _)
 clear hW2 cc cf HRv HBv1
 obtain ⟨o2,ho2⟩:∃ o,Hid (o = txB r2):=⟨_,hid rfl⟩
 cases o2 with
 | none =>
  have HP:=hid (text_no q2 r2.length c2 r2 W2 rfl hc2 (by omega) (HR2.out _ HB2.out) ho2.out.symm)
  have HN:=hid (show propsR r0 = none by unfold propsR;rw [HT0.out,Option.bind_some,HT1.out,Option.bind_some,← ho2.out];rfl)
  go_wp2_with fail
  refine HP.out.mono ?_
  rintro e w2 ⟨rfl,hb⟩
  have HBx:=hid (HB2.out.trans (hb.mono HB2.out.size))
  clear hb HP
  go_wp2
  refine ⟨rfl, ?_,.inl ⟨HN.out,rfl⟩⟩
  first | exact HBx.out | (rw [hBe.out];exact HBx.out)
 | some x2 =>
 obtain ⟨n2,r3⟩:=x2
 have HT2:=hid ho2.out.symm
 have HP2:=hid (text_ok q2 r2.length c2 r2 W2 rfl hc2 (by omega) (HR2.out _ HB2.out) ho2.out.symm)
 go_wp2_with fail
 refine HP2.out.mono ?_
 rintro e V2 ⟨⟨q3,c3,rfl,hc3,hcc3,hrd3⟩,hb2⟩
 have HR3:=hid (fun (W:World) (hW:Below w.heap.size w W)=>hrd3 W (HR2.out W hW))
 have HBv2:=hid (HB2.out.trans (hb2.mono HB2.out.size))
 have hrow:=(hb2.block _ (lt_of_block HRow2.out)).trans HRow2.out
 clear HP2 hrd3 hb2
 have HRv:=hid hrow
 have cc:V2.cell? ⟨B,2,none⟩ = some (.string ⟨#[]⟩):=by rw [cell_of_row _ _ _ _ _ _ hrow];rfl
 have cf:V2.frozen? ⟨B,2,none⟩ = false:=frozen_of_row _ _ _ _ _ hrow
 clear hrow
 go_wp2_with fail
 obtain ⟨W3,hW3⟩:∃ W,W = V2.setCell ⟨B,2,none⟩ (.string n2):=⟨_,rfl⟩
 rw [← hW3]
 have HRow3:=hid (show W3.heap[B]? = some (.cells #[.int .u64 (n0:Int),.int .u64 (n1:Int),.string n2,.string ⟨#[]⟩,.int .u64 0,.int .u64 0,.int .u32 0,.int .u32 0] 49 (0,0)) by rw [hW3];exact Go.heap_setCell_same _ _ 2 _ _ _ HRv.out)
 have HB3:=hid (show Below w.heap.size w W3 by rw [hW3];exact HBv2.out.setCell (p:=⟨B,2,none⟩) (by show w.heap.size ≤ B;rw [hBe.out];exact Nat.le_refl _) _)
 clear hW3 cc cf HRv HBv2
 obtain ⟨o3,ho3⟩:∃ o,Hid (o = txB r3):=⟨_,hid rfl⟩
 cases o3 with
 | none =>
  have HP:=hid (text_no q3 r3.length c3 r3 W3 rfl hc3 (by omega) (HR3.out _ HB3.out) ho3.out.symm)
  have HN:=hid (show propsR r0 = none by unfold propsR;rw [HT0.out,Option.bind_some,HT1.out,Option.bind_some,HT2.out,Option.bind_some,← ho3.out];rfl)
  go_wp2_with fail
  refine HP.out.mono ?_
  rintro e w2 ⟨rfl,hb⟩
  have HBx:=hid (HB3.out.trans (hb.mono HB3.out.size))
  clear hb HP
  go_wp2
  refine ⟨rfl, ?_,.inl ⟨HN.out,rfl⟩⟩
  first | exact HBx.out | (rw [hBe.out];exact HBx.out)
 | some x3 =>
 obtain ⟨n3,r4⟩:=x3
 have HT3:=hid ho3.out.symm
 have HP3:=hid (text_ok q3 r3.length c3 r3 W3 rfl hc3 (by omega) (HR3.out _ HB3.out) ho3.out.symm)
 go_wp2_with fail
 refine HP3.out.mono ?_
 rintro e V3 ⟨⟨q4,c4,rfl,hc4,hcc4,hrd4⟩,hb3⟩
 have HR4:=hid (fun (W:World) (hW:Below w.heap.size w W)=>hrd4 W (HR3.out W hW))
 have HBv3:=hid (HB3.out.trans (hb3.mono HB3.out.size))
 have hrow:=(hb3.block _ (lt_of_block HRow3.out)).trans HRow3.out
 clear HP3 hrd4 hb3
 have HRv:=hid hrow
 have cc:V3.cell? ⟨B,3,none⟩ = some (.string ⟨#[]⟩):=by rw [cell_of_row _ _ _ _ _ _ hrow];rfl
 have cf:V3.frozen? ⟨B,3,none⟩ = false:=frozen_of_row _ _ _ _ _ hrow
 clear hrow
 go_wp2_with fail
 obtain ⟨W4,hW4⟩:∃ W,W = V3.setCell ⟨B,3,none⟩ (.string n3):=⟨_,rfl⟩
 rw [← hW4]
 have HRow4:=hid (show W4.heap[B]? = some (.cells #[.int .u64 (n0:Int),.int .u64 (n1:Int),.string n2,.string n3,.int .u64 0,.int .u64 0,.int .u32 0,.int .u32 0] 49 (0,0)) by rw [hW4];exact Go.heap_setCell_same _ _ 3 _ _ _ HRv.out)
 have HB4:=hid (show Below w.heap.size w W4 by rw [hW4];exact HBv3.out.setCell (p:=⟨B,3,none⟩) (by show w.heap.size ≤ B;rw [hBe.out];exact Nat.le_refl _) _)
 clear hW4 cc cf HRv HBv3
 obtain ⟨o4,ho4⟩:∃ o,Hid (o = tkB r4):=⟨_,hid rfl⟩
 cases o4 with
 | none =>
  have HP:=hid (taken_no q4 r4.length c4 r4 W4 rfl hc4 (by omega) (HR4.out _ HB4.out) ho4.out.symm)
  have HN:=hid (show propsR r0 = none by unfold propsR;rw [HT0.out,Option.bind_some,HT1.out,Option.bind_some,HT2.out,Option.bind_some,HT3.out,Option.bind_some,← ho4.out];rfl)
  go_wp2_with fail
  refine HP.out.mono ?_
  rintro e w2 ⟨rfl,hb⟩
  have HBx:=hid (HB4.out.trans (hb.mono HB4.out.size))
  clear hb HP
  go_wp2
  refine ⟨rfl, ?_,.inl ⟨HN.out,rfl⟩⟩
  first | exact HBx.out | (rw [hBe.out];exact HBx.out)
 | some x4 =>
 obtain ⟨n4,r5⟩:=x4
 have HT4:=hid ho4.out.symm
 have HP4:=hid (taken_ok q4 r4.length c4 r4 W4 rfl hc4 (by omega) (HR4.out _ HB4.out) ho4.out.symm)
 go_wp2_with fail
 refine HP4.out.mono ?_
 rintro e V4 ⟨⟨q5,c5,rfl,hc5,hcc5,hrd5⟩,hb4⟩
 have HR5:=hid (fun (W:World) (hW:Below w.heap.size w W)=>hrd5 W (HR4.out W hW))
 have HBv4:=hid (HB4.out.trans (hb4.mono HB4.out.size))
 have hrow:=(hb4.block _ (lt_of_block HRow4.out)).trans HRow4.out
 clear HP4 hrd5 hb4
 have HRv:=hid hrow
 have cc:V4.cell? ⟨B,4,none⟩ = some (.int .u64 0):=by rw [cell_of_row _ _ _ _ _ _ hrow];rfl
 have cf:V4.frozen? ⟨B,4,none⟩ = false:=frozen_of_row _ _ _ _ _ hrow
 clear hrow
 go_wp2_with fail
 obtain ⟨W5,hW5⟩:∃ W,W = V4.setCell ⟨B,4,none⟩ (.int .u64 (n4:Int)):=⟨_,rfl⟩
 rw [← hW5]
 have HRow5:=hid (show W5.heap[B]? = some (.cells #[.int .u64 (n0:Int),.int .u64 (n1:Int),.string n2,.string n3,.int .u64 (n4:Int),.int .u64 0,.int .u32 0,.int .u32 0] 49 (0,0)) by rw [hW5];exact Go.heap_setCell_same _ _ 4 _ _ _ HRv.out)
 have HB5:=hid (show Below w.heap.size w W5 by rw [hW5];exact HBv4.out.setCell (p:=⟨B,4,none⟩) (by show w.heap.size ≤ B;rw [hBe.out];exact Nat.le_refl _) _)
 clear hW5 cc cf HRv HBv4
 obtain ⟨o5,ho5⟩:∃ o,Hid (o = tkB r5):=⟨_,hid rfl⟩
 cases o5 with
 | none =>
  have HP:=hid (taken_no q5 r5.length c5 r5 W5 rfl hc5 (by omega) (HR5.out _ HB5.out) ho5.out.symm)
  have HN:=hid (show propsR r0 = none by unfold propsR;rw [HT0.out,Option.bind_some,HT1.out,Option.bind_some,HT2.out,Option.bind_some,HT3.out,Option.bind_some,HT4.out,Option.bind_some,← ho5.out];rfl)
  go_wp2_with fail
  refine HP.out.mono ?_
  rintro e w2 ⟨rfl,hb⟩
  have HBx:=hid (HB5.out.trans (hb.mono HB5.out.size))
  clear hb HP
  go_wp2
  refine ⟨rfl, ?_,.inl ⟨HN.out,rfl⟩⟩
  first | exact HBx.out | (rw [hBe.out];exact HBx.out)
 | some x5 =>
 obtain ⟨n5,r6⟩:=x5
 have HT5:=hid ho5.out.symm
 have HP5:=hid (taken_ok q5 r5.length c5 r5 W5 rfl hc5 (by omega) (HR5.out _ HB5.out) ho5.out.symm)
 go_wp2_with fail
 refine HP5.out.mono ?_
 rintro e V5 ⟨⟨q6,c6,rfl,hc6,hcc6,hrd6⟩,hb5⟩
 have HR6:=hid (fun (W:World) (hW:Below w.heap.size w W)=>hrd6 W (HR5.out W hW))
 have HBv5:=hid (HB5.out.trans (hb5.mono HB5.out.size))
 have hrow:=(hb5.block _ (lt_of_block HRow5.out)).trans HRow5.out
 clear HP5 hrd6 hb5
 have HRv:=hid hrow
 have cc:V5.cell? ⟨B,5,none⟩ = some (.int .u64 0):=by rw [cell_of_row _ _ _ _ _ _ hrow];rfl
 have cf:V5.frozen? ⟨B,5,none⟩ = false:=frozen_of_row _ _ _ _ _ hrow
 clear hrow
 go_wp2_with fail
 obtain ⟨W6,hW6⟩:∃ W,W = V5.setCell ⟨B,5,none⟩ (.int .u64 (n5:Int)):=⟨_,rfl⟩
 rw [← hW6]
 have HRow6:=hid (show W6.heap[B]? = some (.cells #[.int .u64 (n0:Int),.int .u64 (n1:Int),.string n2,.string n3,.int .u64 (n4:Int),.int .u64 (n5:Int),.int .u32 0,.int .u32 0] 49 (0,0)) by rw [hW6];exact Go.heap_setCell_same _ _ 5 _ _ _ HRv.out)
 have HB6:=hid (show Below w.heap.size w W6 by rw [hW6];exact HBv5.out.setCell (p:=⟨B,5,none⟩) (by show w.heap.size ≤ B;rw [hBe.out];exact Nat.le_refl _) _)
 clear hW6 cc cf HRv HBv5
 obtain ⟨o6,ho6⟩:∃ o,Hid (o = tkB r6):=⟨_,hid rfl⟩
 cases o6 with
 | none =>
  have HP:=hid (taken_no q6 r6.length c6 r6 W6 rfl hc6 (by omega) (HR6.out _ HB6.out) ho6.out.symm)
  have HN:=hid (show propsR r0 = none by unfold propsR;rw [HT0.out,Option.bind_some,HT1.out,Option.bind_some,HT2.out,Option.bind_some,HT3.out,Option.bind_some,HT4.out,Option.bind_some,HT5.out,Option.bind_some,← ho6.out];rfl)
  go_wp2_with fail
  refine HP.out.mono ?_
  rintro e w2 ⟨rfl,hb⟩
  have HBx:=hid (HB6.out.trans (hb.mono HB6.out.size))
  clear hb HP
  go_wp2
  refine ⟨rfl, ?_,.inl ⟨HN.out,rfl⟩⟩
  first | exact HBx.out | (rw [hBe.out];exact HBx.out)
 | some x6 =>
 obtain ⟨n6,r7⟩:=x6
 have HT6:=hid ho6.out.symm
 have HP6:=hid (taken_ok q6 r6.length c6 r6 W6 rfl hc6 (by omega) (HR6.out _ HB6.out) ho6.out.symm)
 go_wp2_with fail
 refine HP6.out.mono ?_
 rintro e V6 ⟨⟨q7,c7,rfl,hc7,hcc7,hrd7⟩,hb6⟩
 have HR7:=hid (fun (W:World) (hW:Below w.heap.size w W)=>hrd7 W (HR6.out W hW))
 have HBv6:=hid (HB6.out.trans (hb6.mono HB6.out.size))
 have hrow:=(hb6.block _ (lt_of_block HRow6.out)).trans HRow6.out
 clear HP6 hrd7 hb6
 obtain ⟨W7,hW7⟩:∃ W,W = V6:=⟨_,rfl⟩
 rw [← hW7] at hrow HBv6 ⊢
 have HRow7:=hid hrow
 have HB7:=HBv6
 clear hrow hW7 HBv6
 obtain ⟨o7,ho7⟩:∃ o,Hid (o = tkB r7):=⟨_,hid rfl⟩
 cases o7 with
 | none =>
  have HP:=hid (taken_no q7 r7.length c7 r7 W7 rfl hc7 (by omega) (HR7.out _ HB7.out) ho7.out.symm)
  have HN:=hid (show propsR r0 = none by unfold propsR;rw [HT0.out,Option.bind_some,HT1.out,Option.bind_some,HT2.out,Option.bind_some,HT3.out,Option.bind_some,HT4.out,Option.bind_some,HT5.out,Option.bind_some,HT6.out,Option.bind_some,← ho7.out];rfl)
  go_wp2_with fail
  refine HP.out.mono ?_
  rintro e w2 ⟨rfl,hb⟩
  have HBx:=hid (HB7.out.trans (hb.mono HB7.out.size))
  clear hb HP
  go_wp2
  refine ⟨rfl, ?_,.inl ⟨HN.out,rfl⟩⟩
  first | exact HBx.out | (rw [hBe.out];exact HBx.out)
 | some x7 =>
 obtain ⟨n7,r8⟩:=x7
 have HT7:=hid ho7.out.symm
 have HP7:=hid (taken_ok q7 r7.length c7 r7 W7 rfl hc7 (by omega) (HR7.out _ HB7.out) ho7.out.symm)
 go_wp2_with fail
 refine HP7.out.mono ?_
 rintro e V7 ⟨⟨q8,c8,rfl,hc8,hcc8,hrd8⟩,hb7⟩
 have HR8:=hid (fun (W:World) (hW:Below w.heap.size w W)=>hrd8 W (HR7.out W hW))
 have HBv7:=hid (HB7.out.trans (hb7.mono HB7.out.size))
 have hrow:=(hb7.block _ (lt_of_block HRow7.out)).trans HRow7.out
 clear HP7 hrd8 hb7
 obtain ⟨W8,hW8⟩:∃ W,W = V7:=⟨_,rfl⟩
 rw [← hW8] at hrow HBv7 ⊢
 have HRow8:=hid hrow
 have HB8:=HBv7
 clear hrow hW8 HBv7
 have hch:propsR r0 = if r8 = [] ∧ n6 ≤ 4294967295 ∧ n7 ≤ 4294967295 then some ⟨n0,n1,n2,n3,n4,n5,n6,n7⟩ else none:=by
  unfold propsR
  rw [HT0.out,Option.bind_some,HT1.out,Option.bind_some,HT2.out,Option.bind_some,HT3.out,Option.bind_some,HT4.out,Option.bind_some,HT5.out,Option.bind_some,HT6.out,Option.bind_some,HT7.out,Option.bind_some]
 have HC:=hid hch
 have HMo:=hid must_ok
 clear hch
 have k0:r8.length = 0 ↔ r8 = []:=List.length_eq_zero_iff
 have HK0:=hid k0
 clear k0
 by_cases g0:r8.length = 0
 ·have g0':((r8.length:Int) == 0) = true:=by rw [beq_iff_eq];omega
  by_cases g6:n6 ≤ 4294967295
  ·have d6:decide ((n6:Int) ≤ 4294967295) = true:=by simp;omega
   by_cases g7:n7 ≤ 4294967295
   ·have d7:decide ((n7:Int) ≤ 4294967295) = true:=by simp;omega
    have HN:=HC.out
    rw [if_pos ⟨HK0.out.1 g0,g6,g7⟩] at HN
    have HN:=hid HN
    have m6:(n6:Int) % 4294967296 = (n6:Int):=by omega
    have m7:(n7:Int) % 4294967296 = (n7:Int):=by omega
    have hrow:=HRow8.out
    have cc6:W8.cell? ⟨B,6,none⟩ = some (.int .u32 0):=by rw [cell_of_row _ _ _ _ _ _ hrow];rfl
    have cc7:W8.cell? ⟨B,7,none⟩ = some (.int .u32 0):=by rw [cell_of_row _ _ _ _ _ _ hrow];rfl
    have cf6:W8.frozen? ⟨B,6,none⟩ = false:=frozen_of_row _ _ _ _ _ hrow
    have cf7:W8.frozen? ⟨B,7,none⟩ = false:=frozen_of_row _ _ _ _ _ hrow
    clear hrow
    have HF:=hid (show ((W8.setCell ⟨B,6,none⟩ (.int .u32 (n6:Int))).setCell ⟨B,7,none⟩ (.int .u32 (n7:Int))).heap[B]? = some (.cells (Props.cells ⟨n0,n1,n2,n3,n4,n5,n6,n7⟩).toArray 49 (0,0)) from Go.heap_setCell_same _ _ 7 _ _ _ (Go.heap_setCell_same _ _ 6 _ _ _ HRow8.out))
    have HFB:=hid (show Below w.heap.size w ((W8.setCell ⟨B,6,none⟩ (.int .u32 (n6:Int))).setCell ⟨B,7,none⟩ (.int .u32 (n7:Int))) from (HB8.out.setCell (p:=⟨B,6,none⟩) (by show w.heap.size ≤ B;rw [hBe.out];exact Nat.le_refl _) _).setCell (p:=⟨B,7,none⟩) (by show w.heap.size ≤ B;rw [hBe.out];exact Nat.le_refl _) _)
    obtain ⟨C,hC⟩:∃ C,Hid (C = (Props.cells ⟨n0,n1,n2,n3,n4,n5,n6,n7⟩).toArray):=⟨_,hid rfl⟩
    rw [← hC.out] at HF
    have HCs:=hid (show C.size = 8 by rw [hC.out];rfl)
    have HC1:=hid (show ∀ v ∈ C.toList,v.oneCell' = true by rw [hC.out];exact (props_cells8 _).2)
    go_wp2_with (first | (go_at_call 55;refine (HMo.out _).mono ?_;rintro e w' ⟨rfl,rfl⟩) | (refine wpList_load_row rfl 49 (.tmp 2) rfl B rfl _ C _ _ HF.out Tryz.underlying49 rfl (by rw [HCs.out];exact infoProps8) ?_) | (refine wpList_store_block rfl 49 (.tmp 2) (.tmp 69) rfl B _ C C rfl rfl HF.out rfl (by rw [HCs.out];exact infoProps8) HC1.out ?_))
    refine bodyPost_ret (prr_results rfl (setRow_heap _ _ _ C _ _ HF.out) HCs.out) rfl ?_
    refine ⟨below_setRow HFB.out (by rw [hBe.out];exact Nat.le_refl _) _,.inr ⟨_,HN.out,by rw [hC.out]⟩⟩
   ·have d7:decide ((n7:Int) ≤ 4294967295) = false:=by simp;omega
    have HN:=HC.out
    rw [if_neg (fun h=>g7 h.2.2)] at HN
    have HN:=hid HN
    go_wp2_with (go_at_call 55;refine (must_no _).mono ?_;rintro e w' ⟨rfl,rfl⟩)
    exact ⟨rfl,HB8.out,.inl ⟨HN.out,rfl⟩⟩
  ·have d6:decide ((n6:Int) ≤ 4294967295) = false:=by simp;omega
   have HN:=HC.out
   rw [if_neg (fun h=>g6 h.2.1)] at HN
   have HN:=hid HN
   go_wp2_with (go_at_call 55;refine (must_no _).mono ?_;rintro e w' ⟨rfl,rfl⟩)
   exact ⟨rfl,HB8.out,.inl ⟨HN.out,rfl⟩⟩
 ·have HN:=HC.out
  rw [if_neg (fun h=>g0 (HK0.out.2 h.1))] at HN
  have HN:=hid HN
  have g0':((r8.length:Int) == 0) = false:=by rw [beq_eq_false_iff_ne];omega
  go_wp2_with (go_at_call 55;refine (must_no _).mono ?_;rintro e w' ⟨rfl,rfl⟩)
  exact ⟨rfl,HB8.out,.inl ⟨HN.out,rfl⟩⟩
end Go.Proofs.Herb
namespace Go.Proofs.Herb
open Go.RowKit
theorem blk_sizes {b:List UInt8} {l:List Item} (h:BlkOf b l):∀ x ∈ l,x.key.size ≤ 65536 ∧ x.val.size ≤ 65536:=by
 obtain ⟨h1,h2,h3⟩:=h
 have h4:=bAll_len l
 rw [h2] at h4
 intro x hx
 obtain ⟨i,hi,rfl⟩:=List.getElem_of_mem hx
 obtain ⟨g1,g2⟩:=kAt_len l i
 have h5:=bUp_mono l (j:=i + 1) (k:=l.length) (by omega)
 rw [kAt_get hi,size_toList] at g1
 rw [vAt_get hi,size_toList] at g2
 omega
theorem idxR_nil (fin a:Nat):idxR fin a [] = if a = fin then some [] else none:=by unfold idxR;rfl
theorem idxR_cons (fin a:Nat) (x:Item) (r:List Item):idxR fin a (x :: r) = (tkB x.val.data.toList).bind fun a'=>(tkB a'.2).bind fun b =>
  if b.2 = [] ∧ a'.1 = a ∧ 0 < b.1 ∧ b.1 ≤ fin - a then (idxR fin (a + b.1) r).map fun l=>⟨x.key,a,a + b.1⟩ :: l else none:=by rw [idxR]
theorem infoChk:(Tryz.prog.info? 79).map (fun i=>(i.zero,i.size,i.bytes)) = some (some (.agg #[.string ⟨#[]⟩,.int .i64 0,.int .i64 0]),3,32):=by kernel_rfl
def IdxP (bs:List UInt8) (fin b0:Nat) (w:World) (e:Ending) (w':World):Prop :=
 Below b0 w w' ∧ (((¬ ∃ l cs,BlkOf bs l ∧ idxR fin 0 l = some cs) ∧ e = .panicked corrupt) ∨ ∃ l cs,BlkOf bs l ∧ idxR fin 0 l = some cs ∧ ∃ q c,e = .returned (.slice q cs.length c) ∧ w'.ownsRow b0 79 3 (.slice q cs.length c) cs.length (chkCells cs))
theorem idx_no {bs:List UInt8} {fin:Nat} {l:List Item} (hb:BlkOf bs l) (h:idxR fin 0 l = none):¬ ∃ l cs,BlkOf bs l ∧ idxR fin 0 l = some cs:=by
 rintro ⟨m,cs,h1,h2⟩
 rw [blk_one hb h1,h] at h2
 cases h2
set_option maxRecDepth 100000 in
set_option maxHeartbeats 4000000 in
theorem index_any (q:Option Addr) (m c fin:Nat) (bs:List UInt8) (w:World) (hl:bs.length = m) (hc:m ≤ c) (hcm:c ≤ maxLen) (hm:m ≤ 4194304) (hf:fin ≤ 4194304) (hr:Rd w q (bs.map bv)) :
  Calls Tryz.prog 57 #[.slice q m c,.int .i64 (fin:Int)] w (IdxP bs fin w.heap.size w):=by
 have HG:=hid (bget_any q m c bs w hl hc hcm hm hr)
 have HMo:=hid must_ok
 have HMn:=hid must_no
 clear hl hr
 go_enter Tryz.func57,Tryz.ntmps57
 go_wp2_with fail
 refine HG.out.mono ?_
 rintro e w1 ⟨hb1,hcase⟩
 have HB1:=hid hb1
 have hs1:=hb1.size
 clear HG hb1
 rcases hcase with ⟨hno,er,her,rfl⟩ | ⟨l,hbl,q1,rfl,hr1⟩
 ·have he:(er == 0) = false:=by rw [beq_eq_false_iff_ne];exact her
  have HN:=hid (show ¬ ∃ l cs,BlkOf bs l ∧ idxR fin 0 l = some cs from fun ⟨l,cs,h1,_⟩=>hno ⟨l,h1⟩)
  clear hno
  go_wp2_with (go_at_call 55;refine (HMn.out _).mono ?_;rintro e w' ⟨rfl,rfl⟩)
  exact ⟨rfl,HB1.out,.inl ⟨HN.out,rfl⟩⟩
 ·have HBl:=hid hbl
  have HSz:=hid (blk_sizes hbl)
  have hll:=(blk_short hbl).2
  obtain ⟨N,hN⟩:∃ N,Hid (N = l.length):=⟨_,hid rfl⟩
  rw [← hN.out] at hll ⊢
  have HR1:=hid hr1
  have HNo:=hid (fun (h:idxR fin 0 l = none)=>idx_no hbl h)
  clear hr1 hbl
  go_wp2_with (go_at_call 55;refine (HMo.out _).mono ?_;rintro e w' ⟨rfl,rfl⟩)
  go_loopw [4,7,23] (fun out at_ i wr=>∃ (k A:Nat) (cs:List Chk),k ≤ N ∧ i = .int .i64 (k:Int) ∧ at_ = .int .i64 (A:Int) ∧ A ≤ fin ∧ cs.length = k ∧ wr.ownsRow w1.heap.size 79 3 out k (chkCells cs) ∧ Below w1.heap.size w1 wr ∧ idxR fin 0 l = (idxR fin A (l.drop k)).map (fun x=>cs ++ x)) (fun _ _ i _=>N - (intOf i).toNat)
  case atStart=>exact ⟨0,0,[],Nat.zero_le _,rfl,rfl,Nat.zero_le _,rfl,⟨rfl,.inl ⟨rfl,rfl⟩⟩,Below.refl _ _,by rw [List.drop_zero];cases idxR fin 0 l <;> rfl⟩
  case round =>
   obtain ⟨k,A,cs,hk,rfl,rfl,hA,hcl,hown,hb,hI⟩:=hrel
   obtain ⟨q2,c2,rfl,hc2,hcm2,hq2⟩:=own_shape hown
   have Hown:=hid hown
   have Hcl:=hid hcl
   have Hb:=hid hb
   have hbs:=hb.size
   have HI:=hid hI
   clear hown hcl hb hI
   by_cases hlt:k < N
   ·have hlt2:k < l.length:=by rw [← hN.out];exact hlt
    obtain ⟨K,V,hKV⟩:∃ K V,l[k] = ⟨K,V⟩:=⟨_,_,rfl⟩
    have hdr:l.drop k = ⟨K,V⟩ :: l.drop (k + 1):=by rw [List.drop_eq_getElem_cons hlt2,hKV]
    have hsz:=HSz.out l[k] (List.getElem_mem hlt2)
    rw [hKV] at hsz
    have hV:V.size ≤ 65536:=hsz.2
    obtain ⟨b1,o1,rfl,hb1l,ic0,ic1⟩:=item_at (HR1.out.below Hb.out) hlt2
    rw [hKV] at ic0 ic1
    dsimp only at ic0 ic1
    obtain ⟨w2,hw2⟩:∃ W,W = wr.alloc (.cells #[.string K,.string V] 100):=⟨_,rfl⟩
    have hB2:Below w1.heap.size w1 w2:=by rw [hw2];exact Hb.out.alloc hbs _
    obtain ⟨c3,w3,cv,rd3,hb3,hc3⟩:=convS w2 V
    have HRd3:=hid rd3
    have hX:w2.heap[wr.heap.size]? = some (.cells #[.string K,.string V] 100 (0,0)):=by rw [hw2];exact heap_alloc_new wr _
    have HX:=hid hX
    have HB2:=hid hB2
    have HB3:=hid hb3
    have hs2:wr.heap.size < w2.heap.size:=lt_of_block hX
    have hs3:=hb3.size
    have d1:w2.cell? ⟨wr.heap.size,1,none⟩ = some (.string V):=by rw [cell_of_row _ _ _ _ _ _ hX];rfl
    have HOw2:=hid (show w2.ownsRow w1.heap.size 79 3 (.slice q2 k c2) k (chkCells cs) by rw [hw2];exact Hown.out.alloc _)
    rw [hdr] at HI
    have HW2:=hid hw2
    clear hdr hKV hsz rd3 hX hB2 hb3
    have hVl:V.data.toList.length = V.size:=size_toList V
    have HVl:=hid hVl
    clear hVl hw2
    obtain ⟨oa,hoa⟩:∃ o,Hid (o = tkB V.data.toList):=⟨_,hid rfl⟩
    have hww:=Nat.le_trans hs1 hbs
    go_upto_region 7 with (fail)
    rw [← HW2.out]
    cases oa with
    | none =>
     have HP:=hid (taken_no _ V.size c3 V.data.toList w3 HVl.out hc3 (by omega) HRd3.out hoa.out.symm)
     have hN0:idxR fin 0 l = none:=by rw [HI.out,idxR_cons];dsimp only;rw [← hoa.out];rfl
     have HNn:=hid (HNo.out hN0)
     clear hN0
     go_wp2_with fail
     refine HP.out.mono ?_
     rintro e w5 ⟨rfl,hb5⟩
     have HBx:=hid (HB1.out.trans ((HB2.out.trans (HB3.out.mono (by omega))).mono hs1) |>.trans (hb5.mono (by omega)))
     clear hb5 HP
     go_wp2
     exact ⟨rfl,HBx.out,.inl ⟨HNn.out,rfl⟩⟩
    | some xa =>
    obtain ⟨na,ra⟩:=xa
    have HP:=hid (taken_ok _ V.size c3 V.data.toList w3 HVl.out hc3 (by omega) HRd3.out hoa.out.symm)
    obtain ⟨hra,hna⟩:=tkB_len hoa.out.symm
    rw [HVl.out] at hra
    go_wp2_with fail
    refine HP.out.mono ?_
    rintro e w4 ⟨⟨qa,ca,rfl,hca,hcc,hrd⟩,hb4⟩
    have HRa:=hid (hrd _ (HRd3.out.below hb4))
    have HB4:=hid ((HB2.out.trans (HB3.out.mono (by omega))).trans (hb4.mono (by omega)))
    have HB24:=hid (HB3.out.trans (hb4.mono hs3))
    have hs4:=hb4.size
    obtain ⟨ob,hob⟩:∃ o,Hid (o = tkB ra):=⟨_,hid rfl⟩
    clear hrd hb4 HP cv
    cases ob with
    | none =>
     have HP:=hid (taken_no qa ra.length ca ra w4 rfl hca (by omega) HRa.out hob.out.symm)
     have hN0:idxR fin 0 l = none:=by rw [HI.out,idxR_cons];dsimp only;rw [← hoa.out,Option.bind_some];dsimp only;rw [← hob.out];rfl
     have HNn:=hid (HNo.out hN0)
     clear hN0
     go_wp2_with fail
     refine HP.out.mono ?_
     rintro e w5 ⟨rfl,hb5⟩
     have HBx:=hid (HB1.out.trans ((HB4.out.trans (hb5.mono (by omega))).mono hs1))
     clear hb5 HP
     go_wp2
     exact ⟨rfl,HBx.out,.inl ⟨HNn.out,rfl⟩⟩
    | some xb =>
    obtain ⟨nb,rb⟩:=xb
    have HP:=hid (taken_ok qa ra.length ca ra w4 rfl hca (by omega) HRa.out hob.out.symm)
    obtain ⟨hrb,hnb⟩:=tkB_len hob.out.symm
    go_wp2_with fail
    refine HP.out.mono ?_
    rintro e w5 ⟨⟨qb,cb,rfl,hcb,hccb, -⟩,hb5⟩
    have HB5:=hid (HB4.out.trans (hb5.mono (by omega)))
    have HB25:=hid (HB24.out.trans (hb5.mono (by omega)))
    have hs5:=hb5.size
    obtain ⟨RB,hRB⟩:∃ n,Hid (n = rb.length):=⟨_,hid rfl⟩
    rw [← hRB.out]
    have hst:idxR fin 0 l = if RB = 0 ∧ na = A ∧ 0 < nb ∧ nb ≤ fin - A then (idxR fin (A + nb) (l.drop (k + 1))).map (fun x=>(cs ++ [⟨K,A,A + nb⟩]) ++ x) else none:=by
     rw [HI.out,idxR_cons];dsimp only;rw [← hoa.out,Option.bind_some];dsimp only;rw [← hob.out,Option.bind_some];dsimp only
     have e0:rb = [] ↔ RB = 0:=by rw [hRB.out];exact List.length_eq_zero_iff.symm
     simp only [e0]
     split
     ·cases idxR fin (A + nb) (l.drop (k + 1)) <;> simp
     ·rfl
    have HSt:=hid hst
    clear hb5 HP hst
    by_cases g1:RB = 0
    ·have g1b:((RB:Int) == 0) = true:=by rw [beq_iff_eq];omega
     by_cases g2:na = A
     ·have g2b:((na:Int) == (A:Int)) = true:=by rw [beq_iff_eq];omega
      by_cases g3:0 < nb
      ·have g3b:decide ((0:Int) < (nb:Int)) = true:=by simp;omega
       by_cases g4:nb ≤ fin - A
       ·have g4b:decide ((nb:Int) ≤ (fin:Int) - (A:Int)) = true:=by simp;omega
        have hN0:=HSt.out
        rw [if_pos ⟨g1,g2,g3,g4⟩] at hN0
        have HI2:=hid hN0
        have hX5:=(HB25.out.block _ (lt_of_block HX.out)).trans HX.out
        have d0:w5.cell? ⟨wr.heap.size,0,none⟩ = some (.string K):=by rw [cell_of_row _ _ _ _ _ _ hX5];rfl
        have HOw5:=hid (own_below HOw2.out HB25.out)
        have hnb4:nb ≤ 4194304:=by omega
        clear hN0 hX5
        have hOw6:=HOw5.out.alloc (.cells #[.string K,.int .i64 (A:Int),.int .i64 ((A:Int) + (nb:Int))] 79)
        have HOw6:=hid hOw6
        have hk65:k + 1 ≤ 65537:=by omega
        clear hOw6
        go_wp2_with (first | (go_at_call 55;refine (HMo.out _).mono ?_;rintro e w' ⟨rfl,rfl⟩) | (refine wpList_append_rd rfl (.tmp 61) (.tmp 70) 60 rfl w1.heap.size 79 _ 3 32 Tryz.underlying60 infoChk rfl (by decide) (.slice q2 k c2) k (chkCells cs) rfl HOw6.out (some ⟨w5.heap.size,0,none⟩) 1 1 [.string K,.int .i64 (A:Int),.int .i64 ((A:Int) + (nb:Int))] rfl (fun h=>by cases h) rfl (Rd.new _ _ _) (by simp [Value.oneCell']) (by unfold maxLen;omega) (by omega) (by rw [World.size_alloc];omega) ?_;intro v6 w6 hown6 hg6 hz6;have HO6:=hid hown6;have HG6:=hid hg6;clear hown6 hg6 hz6))
        go_roundw
        case rel =>
         refine ⟨k + 1,A + nb,cs ++ [⟨K,A,A + nb⟩],by omega,by go_num,by go_num,by omega,by rw [List.length_append,Hcl.out];rfl, ?_, ?_,HI2.out⟩
         ·have h:=HO6.out
          rw [chkCells_append]
          have e:chkCells [⟨K,A,A + nb⟩] = [.string K,.int .i64 (A:Int),.int .i64 ((A:Int) + (nb:Int))]:=by rw [chkCells_cons];simp [chkCells]
          rw [e]
          exact h
         ·exact Below.grown' (HB5.out.alloc (by omega) _) HOw6.out HG6.out (by rw [World.size_alloc];omega)
        case measure=>simp [intOf];omega
       ·have bb:decide ((nb:Int) ≤ (fin:Int) - (A:Int)) = false:=by simp;omega
        have hN0:=HSt.out
        rw [if_neg (fun h=>g4 h.2.2.2)] at hN0
        have HNn:=hid (HNo.out hN0)
        clear hN0
        go_wp2_with (go_at_call 55;refine (HMn.out _).mono ?_;rintro e w' ⟨rfl,rfl⟩)
        exact ⟨rfl,HB1.out.trans (HB5.out.mono hs1),.inl ⟨HNn.out,rfl⟩⟩
      ·have bb:decide ((0:Int) < (nb:Int)) = false:=by simp;omega
       have hN0:=HSt.out
       rw [if_neg (fun h=>g3 h.2.2.1)] at hN0
       have HNn:=hid (HNo.out hN0)
       clear hN0
       go_wp2_with (go_at_call 55;refine (HMn.out _).mono ?_;rintro e w' ⟨rfl,rfl⟩)
       exact ⟨rfl,HB1.out.trans (HB5.out.mono hs1),.inl ⟨HNn.out,rfl⟩⟩
     ·have bb:((na:Int) == (A:Int)) = false:=by rw [beq_eq_false_iff_ne];omega
      have hN0:=HSt.out
      rw [if_neg (fun h=>g2 h.2.1)] at hN0
      have HNn:=hid (HNo.out hN0)
      clear hN0
      go_wp2_with (go_at_call 55;refine (HMn.out _).mono ?_;rintro e w' ⟨rfl,rfl⟩)
      exact ⟨rfl,HB1.out.trans (HB5.out.mono hs1),.inl ⟨HNn.out,rfl⟩⟩
    ·have bb:((RB:Int) == 0) = false:=by rw [beq_eq_false_iff_ne];omega
     have hN0:=HSt.out
     rw [if_neg (fun h=>g1 h.1)] at hN0
     have HNn:=hid (HNo.out hN0)
     clear hN0
     go_wp2_with (go_at_call 55;refine (HMn.out _).mono ?_;rintro e w' ⟨rfl,rfl⟩)
     exact ⟨rfl,HB1.out.trans (HB5.out.mono hs1),.inl ⟨HNn.out,rfl⟩⟩
   ·obtain rfl:k = N:=by omega
    have hI:=HI.out
    rw [List.drop_of_length_le (by rw [← hN.out];exact Nat.le_refl _)] at hI
    rw [idxR_nil] at hI
    by_cases hAf:A = fin
    ·subst hAf
     rw [if_pos rfl] at hI
     have HI2:=hid hI
     have hAA:((A:Int) == (A:Int)) = true:=by simp
     clear hI
     go_wp2_with (go_at_call 55;refine (HMo.out _).mono ?_;rintro e w' ⟨rfl,rfl⟩)
     go_ret
     refine ⟨HB1.out.trans (Hb.out.mono hs1),.inr ⟨l,cs,HBl.out,by rw [HI2.out];simp,q2,c2,by rw [Hcl.out];rfl, ?_⟩⟩
     rw [Hcl.out]
     exact own_mono Hown.out hs1
    ·rw [if_neg hAf] at hI
     have HI2:=hid (HNo.out hI)
     have hAA:((A:Int) == (fin:Int)) = false:=by rw [beq_eq_false_iff_ne];omega
     clear hI
     go_wp2_with (go_at_call 55;refine (HMn.out _).mono ?_;rintro e w' ⟨rfl,rfl⟩)
     exact ⟨rfl,HB1.out.trans (Hb.out.mono hs1),.inl ⟨HI2.out,rfl⟩⟩
end Go.Proofs.Herb
