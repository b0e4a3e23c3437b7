/- What the functions answer, in the machine. -/
import Derived.Test.YtclpkcampbhbdaaGreatDoorKG
import Derived.Shelf.SlSortCmp.NoneTotal
import Derived.Shelf.Spec.TrailingZeros
set_option linter.all false
namespace Go.Proofs
open Go.Shelf
def srtLay_ren:Go.Shelf.Ren:=⟨fun | 6=>85 | 15=>108 | 14=>107 | 28=>125 | 29=>126 | 20=>117 | 21=>118 | 22=>119 | 23=>120 | 24=>121 | 25=>122 | 26=>123 | 27=>124 | 46=>129 | 47=>130 | 48=>131 | 49=>132 | 50=>133 | 57=>134 | n=>n,fun | 22=>49 | 24=>99 | 25=>148 | 3=>3 | 39=>66 | 0=>0 | 53=>199 | 55=>30 | 4=>4 | 46=>193 | 45=>192 | 50=>146 | 5=>5 | 9=>9 | 66=>202 | 70=>206 | 76=>208 | 77=>209 | n=>n,fun | n=>n⟩
theorem srtLay:Go.Proofs.SlLaysF0.n6 Tryz.prog srtLay_ren:={ mixed:=by kernel_rfl,f6:=⟨"slices.SortFunc[[]shoal/trim.Entry,shoal/trim.Entry]",by decide,Tryz.func85.trans (congrArg some (by kernel_rfl))⟩,f14:=⟨"slices.pdqsortCmpFunc[shoal/trim.Entry]",by decide,Tryz.func107.trans (congrArg some (by kernel_rfl))⟩,f15:=Tryz.func108.trans (congrArg some (by kernel_rfl)),f20:=⟨"slices.insertionSortCmpFunc[shoal/trim.Entry]",by decide,Tryz.func117.trans (congrArg some (by kernel_rfl))⟩,f21:=⟨"slices.heapSortCmpFunc[shoal/trim.Entry]",by decide,Tryz.func118.trans (congrArg some (by kernel_rfl))⟩,f22:=⟨"slices.breakPatternsCmpFunc[shoal/trim.Entry]",by decide,Tryz.func119.trans (congrArg some (by kernel_rfl))⟩,f23:=⟨"slices.choosePivotCmpFunc[shoal/trim.Entry]",by decide,Tryz.func120.trans (congrArg some (by kernel_rfl))⟩,f24:=⟨"slices.reverseRangeCmpFunc[shoal/trim.Entry]",by decide,Tryz.func121.trans (congrArg some (by kernel_rfl))⟩,f25:=⟨"slices.partialInsertionSortCmpFunc[shoal/trim.Entry]",by decide,Tryz.func122.trans (congrArg some (by kernel_rfl))⟩,f26:=⟨"slices.partitionEqualCmpFunc[shoal/trim.Entry]",by decide,Tryz.func123.trans (congrArg some (by kernel_rfl))⟩,f27:=⟨"slices.partitionCmpFunc[shoal/trim.Entry]",by decide,Tryz.func124.trans (congrArg some (by kernel_rfl))⟩,f28:=Tryz.func125.trans (congrArg some (by kernel_rfl)),f29:=Tryz.func126.trans (congrArg some (by kernel_rfl)),f46:=⟨"slices.siftDownCmpFunc[shoal/trim.Entry]",by decide,Tryz.func129.trans (congrArg some (by kernel_rfl))⟩,f47:=Tryz.func130.trans (congrArg some (by kernel_rfl)),f48:=Tryz.func131.trans (congrArg some (by kernel_rfl)),f49:=⟨"slices.medianAdjacentCmpFunc[shoal/trim.Entry]",by decide,Tryz.func132.trans (congrArg some (by kernel_rfl))⟩,f50:=⟨"slices.medianCmpFunc[shoal/trim.Entry]",by decide,Tryz.func133.trans (congrArg some (by kernel_rfl))⟩,f57:=⟨"slices.order2CmpFunc[shoal/trim.Entry]",by decide,Tryz.func134.trans (congrArg some (by kernel_rfl))⟩,t0:=Tryz.underlying0,a0:=Tryz.isAgg0,z0:=Tryz.sizeOf0,v0:=Tryz.zeroValue0,t3:=Tryz.underlying3,a3:=Tryz.isAgg3,z3:=Tryz.sizeOf3,v3:=Tryz.zeroValue3,t4:=Tryz.underlying4,a4:=Tryz.isAgg4,z4:=Tryz.sizeOf4,v4:=Tryz.zeroValue4,t5:=Tryz.underlying5,a5:=Tryz.isAgg5,z5:=Tryz.sizeOf5,v5:=Tryz.zeroValue5,t9:=Tryz.underlying9,a9:=Tryz.isAgg9,z9:=Tryz.sizeOf9,v9:=Tryz.zeroValue9,t22:=Tryz.underlying49,a22:=Tryz.isAgg49,z22:=Tryz.sizeOf49,v22:=Tryz.zeroValue49,t25:=Tryz.underlying148,a25:=Tryz.isAgg148,z25:=Tryz.sizeOf148,v25:=Tryz.zeroValue148,t39:=Tryz.underlying66,a39:=Tryz.isAgg66,z39:=Tryz.sizeOf66,v39:=Tryz.zeroValue66,t45:=Tryz.underlying192,a45:=Tryz.isAgg192,z45:=Tryz.sizeOf192,v45:=Tryz.zeroValue192,t46:=Tryz.underlying193,a46:=Tryz.isAgg193,z46:=Tryz.sizeOf193,v46:=Tryz.zeroValue193,t50:=Tryz.underlying146,a50:=Tryz.isAgg146,z50:=Tryz.sizeOf146,v50:=Tryz.zeroValue146,t53:=Tryz.underlying199,a53:=Tryz.isAgg199,z53:=Tryz.sizeOf199,v53:=Tryz.zeroValue199,t55:=Tryz.underlying30,a55:=Tryz.isAgg30,z55:=Tryz.sizeOf30,v55:=Tryz.zeroValue30,t66:=Tryz.underlying202,a66:=Tryz.isAgg202,z66:=Tryz.sizeOf202,v66:=Tryz.zeroValue202,t70:=Tryz.underlying206,a70:=Tryz.isAgg206,z70:=Tryz.sizeOf206,v70:=Tryz.zeroValue206,t76:=Tryz.underlying208,a76:=Tryz.isAgg208,z76:=Tryz.sizeOf208,v76:=Tryz.zeroValue208,t77:=Tryz.underlying209,a77:=Tryz.isAgg209,z77:=Tryz.sizeOf209,v77:=Tryz.zeroValue209 }
end Go.Proofs
namespace Go.Am
open Go.Proofs Go.Sort
set_option maxRecDepth 100000
set_option linter.all false
theorem mixedT:Tryz.prog.follows .mixedOrders=true:=by kernel_rfl
theorem grown_of {h:Heap} {W W':World} (fr:Fr noE h W W'):∃q os',W'=grow (W.drewN q) os':=by
 have hb:∀c,c<W.heap.size->W'.heap[c]?=W.heap[c]?:=fun c hc=>fr.blk c hc fun ⟨b,k,l,_,h1,_⟩=>by cases h1
 have ho:=fr.os
 have ht:=fr.tape
 have hu:=fr.output
 have hs:=fr.size
 have hd:=fr.drawn
 obtain ⟨heap,tape,drawn,os,output⟩:=W
 obtain ⟨heap',tape',drawn',os',output'⟩:=W'
 simp only at ho ht hu hs hd hb
 subst ho ht hu
 refine ⟨drawn'-drawn,heap'.extract heap.size heap'.size,?_⟩
 unfold grow World.drewN
 simp only
 congr 1
 ·apply Array.ext_getElem?
  intro c
  rcases Nat.lt_or_ge c heap.size with h1 | h1
  ·rw[Array.getElem?_append_left h1,<-hb c h1]
  ·rw[Array.getElem?_append_right h1,Array.getElem?_extract]
   split
   ·rename_i h2;rw[show heap.size+(c-heap.size)=c by omega]
   ·rename_i h2;rw[Array.getElem?_eq_none (by omega)]
 ·omega
theorem cmp_lays (blk off size:Nat) (w:World):CmpLays Tryz.prog 78 #[] entC 3 cmpE blk off size w:=fun m os dk _ x y=>by
 obtain ⟨h',he,_⟩:=Z.spec_order x y ⟨[],[]⟩
 have hA:ARel noE #[entV x,entV y] #[.agg (entC x).toArray,.agg (entC y).toArray]:=⟨rfl,fun i h1 h2=>by
  have:i=0\/i=1:=by simp at h1;omega
  rcases this with rfl | rfl
  ·exact VR.of_ground (v:=entV x) (by simp[zBg,entV,ground0])
  ·exact VR.of_ground (v:=entV y) (by simp[zBg,entV,ground0])⟩
 rw[Array.append_empty]
 refine (@evC_sound _ Z.xt0 Z.gl0 Z.xo0 mixedT (sortWorldK entC 3 w blk off m dk os).heap.size 78 #[entV x,entV y] ⟨[],[]⟩ _ h' noE _ _ he (@rel_none _ Z.gl0 _ (@GlobW.none _ Z.gl0 rfl _ _)) hA (fun b _ _=>rfl)).mono ?_
 rintro e W' ⟨v',E',h1,h2,h3⟩
 cases h3
 exact ⟨h1,grown_of (@Post.fr _ Z.gl0 _ _ _ _ _ _ _ h2)⟩
theorem swo:SWO (ltOf cmpE):=by
 have key:∀x y:E3,ltOf cmpE x y=decide (x.f<y.f\/x.f=y.f/\x.n<y.n):=fun x y=>by
  unfold ltOf cmpE
  by_cases h1:x.f<y.f
  ·simp[h1]
  ·by_cases h2:y.f<x.f
   ·have:¬(x.f=y.f):=by omega
    simp[h1,h2,this]
   ·have:x.f=y.f:=by omega
    by_cases h3:x.n<y.n
    ·simp[h1,h2,h3,this]
    ·by_cases h4:y.n<x.n<;>simp[h1,h2,h3,h4,this]
 constructor
 ·intro x;rw[key];simp
 ·intro x y z h1 h2;rw[key] at *;simp at *;omega
 ·intro x y z h1 h2;rw[key] at *;simp at *;omega
theorem flatK_ent (l:List E3):(flatK entC 3 l.toArray).toList=entL l:=by
 have key:∀(l:List E3) (t:Nat),t<l.length*3->(entC (l.getD (t / 3) default))[t % 3]! = (entL l)[t]! := by
  intro l
  induction l with
  | nil=>intro t ht;simp at ht
  | cons e l ih=>
   intro t ht
   rcases Nat.lt_or_ge t 3 with h | h
   ·have:t=0\/t=1\/t=2:=by omega
    rcases this with rfl | rfl | rfl<;>rfl
   ·obtain ⟨u,rfl⟩:∃u,t=u+3:=⟨t-3,by omega⟩
    rw[show (u+3) / 3=u / 3+1 by omega,show (u+3) % 3=u % 3 by omega]
    simp only[List.getD_cons_succ]
    rw[ih u (by simp at ht;omega)]
    rfl
 apply List.ext_getElem
 ·simp[entL_len]
 ·intro t h1 h2
  have ht:t<l.length*3:=by rw[entL_len] at h2;exact h2
  have:=key l t ht
  rw[getElem!_pos (entL l) t h2] at this
  rw[<-this]
  simp only[flatK,Array.toList_map,Array.toList_range,List.getElem_map,List.getElem_range]
  congr 1
  simp[getElem!_def,List.getD_eq_getElem?_getD]
  cases l[t / 3]? <;> rfl
theorem setCells_sort {w:World} {blk off:Nat} {l:List E3} (hH:HoldsK entC 3 w blk off l.toArray) (d:Array E3) (hd:d.size=l.length):w.setCells blk off (entL d.toList)=putRowK entC 3 w blk off d:=by
 have e0:=putRow_self id w blk off _ hH
 have e1:=setCells_putRow w blk off (entL d.toList) 0 (flatK entC 3 l.toArray) (by rw[entL_len,size_flatK];simp[hd])
 rw[e0,Nat.add_zero] at e1
 rw[e1]
 unfold putRowK
 congr 1
 refine ext_get! (by simp[hd]) fun t ht=>?_
 have ht':t<(flatK entC 3 l.toArray).size:=by simpa using ht
 have hlen:(entL d.toList).length=(flatK entC 3 l.toArray).size:=by rw[entL_len,size_flatK];simp[hd]
 rw[get_setMany _ _ _ _ ht',if_pos (by omega),Nat.sub_zero]
 have:=flatK_ent d.toList
 simp only[Array.toArray_toList] at this
 rw[<-this]
 simp[getElem!_def]
theorem Post.grown {P:Program} [Gl P] {base:Nat} {E:Env} {h h':Heap} {w w1:World} (p:Post P base E h w E h' w1) (os:Array Obj):Post P base E h w E h' (grow w1 os):=by
 have hb:∀c,c<w1.heap.size->(grow w1 os).heap[c]?=w1.heap[c]?:=fun c hc=>by
  unfold grow
  exact Array.getElem?_append_left hc
 refine ⟨p.ext,p.dom,⟨fun b k l hk hl=>(p.rel.blk b k l hk hl).congr (Ext.refl _) (hb _ (p.rel.bnd b l hl)),p.rel.low,p.rel.ro,fun b l hl=>?_,p.rel.inj,p.rel.glob.keep (fun c hc=>hb c (Nat.lt_of_lt_of_le hc p.rel.base)),?_⟩,⟨p.fr.os,p.fr.tape,p.fr.output,?_,fun c hc hm=>?_,p.fr.drawn⟩,p.orig⟩
 ·have:=p.rel.bnd b l hl
  simp[grow];omega
 ·have:=p.rel.base
  simp[grow];omega
 ·have:=p.fr.size
  simp[grow];omega
 ·rw[hb c (Nat.lt_of_lt_of_le hc p.fr.size)];exact p.fr.blk c hc hm
theorem Post.drewN {P:Program} [Gl P] {base:Nat} {E:Env} {h h':Heap} {w w1:World} (n:Nat) (p:Post P base E h (w.drewN n) E h' w1):Post P base E h w E h' w1:=
 ⟨p.ext,p.dom,p.rel,⟨p.fr.os,p.fr.tape,p.fr.output,p.fr.size,p.fr.blk,Nat.le_trans (Nat.le_add_right _ _) p.fr.drawn⟩,p.orig⟩
theorem VR.func_inv {E:Env} {fn:Fn} {f c:Array Value} {x:Value} (h:VR E (.func fn f c) x) (hf:f.size=0) (hc:c.size=0):x=.func fn #[] #[]:=by
 cases h with
 | func h1 _ h2 _=>
  rw[hf] at h1
  rw[hc] at h2
  congr 1
  ·exact Array.eq_empty_of_size_eq_zero h1.symm
  ·exact Array.eq_empty_of_size_eq_zero h2.symm
theorem enters_order:∀args w,(callFunc 78 args).run Tryz.prog w=.ok (.enter 78 args) w:=enters_of Tryz.func78 (by kernel_rfl) rfl
theorem aggE:∀w,(isAgg 99).run Tryz.prog w=.ok true w:=fun w=>by simpa using run_isAggT (P:=Tryz.prog) (t:=99) (b:=true) (by kernel_rfl) w
theorem sizE:∀w,(Go.sizeOf 99).run Tryz.prog w=.ok 3 w:=fun w=>run_sizeT (P:=Tryz.prog) (t:=99) (by kernel_rfl) w
theorem pdq_size (l:List E3):(pdq (ltOf cmpE) l.toArray 0 l.toArray.size (Lib.bitLen l.toArray.size) true true).size=l.length:=by
 have h:=pdq_sorts (ltOf cmpE) swo l.toArray 0 l.toArray.size (Lib.bitLen l.toArray.size) true true (Nat.zero_le _) (Nat.le_refl _) (Or.inl rfl)
 rw[h.1.1];simp
theorem sort_sound (base:Nat) (args:Array Value) (h:Heap) (v:Value) (h':Heap) (E:Env) (w:World) (args':Array Value) (hv:sortX 78 args h=some (v,h')) (hR:Rel Tryz.prog base E h w) (ha:ARel E args args') :
  Calls Tryz.prog 85 args' w fun e w'=>∃v' E',e=.returned v'/\Post Tryz.prog base E h w E' h' w'/\VR E' v v':=by
 have two:∀x y,args.toList=[x,y]->∃x' y',args'=#[x',y']/\VR E x x'/\VR E y y':=fun x y he=>by
  have hl:=ha.list
  rw[he] at hl
  obtain ⟨x',h1,r1⟩:=hl.2 0 x rfl
  obtain ⟨y',h2,r2⟩:=hl.2 1 y rfl
  have h3:=hl.1
  refine ⟨x',y',?_,r1,r2⟩
  obtain ⟨l⟩:=args'
  match l,h3,h1,h2 with
  | [a,b],_,h1,h2=>cases h1;cases h2;rfl
 unfold sortX at hv
 split at hv
 ·rename_i ad n c f x y he
  split at hv
  ·rename_i hc
   obtain ⟨rfl,hx,hy,hn2⟩:=hc
   split at hv
   ·rename_i hn0
    subst hn0
    cases hv
    obtain ⟨x',y',rfl,r1,r2⟩:=two _ _ he
    rw[r2.func_inv hx hy]
    have:∃p' c',x'=.slice p' 0 c':=by cases r1<;>exact ⟨_,_,rfl⟩
    obtain ⟨p',c',rfl⟩:=this
    exact (AnyF.slices_SortFunc_none srtLay p' c' _ w).mono fun e w' ⟨h1,h2⟩=>⟨_,E,h1,by rw[h2];exact Post.refl hR,VR.undef⟩
   ·rename_i hn0
    have hn:0<n:=Nat.pos_of_ne_zero hn0
    split at hv
    ·rename_i b o
     split at hv
     ·rename_i cs hcs
      split at hv
      ·rename_i l hl
       obtain ⟨h1,hs,hq⟩:=Option.map_eq_some_iff.1 hv
       cases hq
       obtain ⟨x',y',rfl,r1,r2⟩:=two _ _ he
       rw[r2.func_inv hx hy]
       have hcse:=e3Of_inv _ _ hl
       subst hcse
       have hlen:=loadN_len hcs
       rw[entL_len] at hlen
       have hln:l.length=n:=by omega
       cases r1 with
       | sliceEmpty=>omega
       | @slice _ _ _ _ c' l0 hE _ _ _=>
        have hst:∃cs0 ty,h.blks[b]?=some ⟨.cells cs0,ty,true⟩/\o+n*3<=cs0.length:=by
         unfold Heap.storeN at hs
         split at hs
         ·rename_i cs0 ty hk
          refine ⟨cs0,ty,hk,?_⟩
          unfold Heap.loadN Heap.cells? at hcs
          rw[hk] at hcs
          simp only at hcs
          split at hcs
          ·assumption
          ·cases hcs
         ·cases hs
        obtain ⟨cs0,ty,hk,hle⟩:=hst
        obtain ⟨oc,oe,lo,hi,hheap,hsz,_,hfz⟩:=(hR.blk b _ l0 hk hE).2.2 rfl
        obtain ⟨cs',hLr,hcell⟩:=loadN_read hR hcs hE
        have hcell':∀(j:Nat) v,(entL l)[j]?=some v->w.cell? ⟨l0.cb,l0.s+o+j,none⟩=some v:=fun j v hj=>by
         obtain ⟨v',h2,h3⟩:=hLr.2 j v hj
         have hg:zBg v=true:=by
          have:∀(l:List E3) (j:Nat) v,(entL l)[j]?=some v->zBg v=true:=by
           intro l
           induction l with
           | nil=>intro j v h;simp[entL] at h
           | cons e l ih=>
            intro j v h
            match j,h with
            | 0,h=>cases h;rfl
            | 1,h=>cases h;rfl
            | 2,h=>cases h;rfl
            | j+3,h=>exact ih j v h
          exact this l j v hj
         rw[h3.ground_eq hg] at h2
         rw[Nat.add_assoc]
         exact hcell j v h2
        have hH:HoldsK entC 3 w l0.cb (l0.s+o) l.toArray:=fun j hj=>by
         have hj':j<(entL l).length:=by rw[entL_len];simpa using hj
         have e1:(flatK entC 3 l.toArray)[j]! = (entL l)[j]:=by
          rw[<-getElem!_pos (entL l) j hj',<-flatK_ent l];simp[getElem!_def]
         have h2:=hcell' j _ (List.getElem?_eq_getElem hj')
         refine ⟨by rw[h2];simp only[id];rw[e1],?_⟩
         have hlt:l0.s+o+j<oc.size:=by
          simp only[World.cell?,hheap] at h2
          have:=(Array.getElem?_eq_some_iff.1 (by simpa using h2)).1
          exact this
         simp only[World.frozen?,hheap]
         simp
         omega
        have hlt:l0.cb<w.heap.size:=hR.bnd b l0 hE
        have hcon:=AnyQ.slices_SortFunc_eq srtLay 3 aggE sizE entC (fun _=>rfl) (fun x v hv=>by simp[entC] at hv;rcases hv with rfl | rfl | rfl<;>rfl) cmpE swo 78 #[] l0.cb (l0.s+o) c' l.toArray w enters_order (cmp_lays _ _ _ _) hH hlt (by simp;omega)
        rw[show l.toArray.size=n by simpa using hln] at hcon
        refine hcon.mono ?_
        rintro e w' ⟨h2,m,os,h3⟩
        refine ⟨_,E,h2,?_,VR.undef⟩
        have hRn:Rel Tryz.prog base E h (w.drewN m):=Rel.drawn hR _
        have hHn:HoldsK entC 3 (w.drewN m) l0.cb (l0.s+o) l.toArray:=hH
        obtain ⟨w2,hw2,hp2⟩:=storeN_run hRn hs hE (vs':=entL (srtE l)) ⟨rfl,fun i v hv=>⟨v,hv,by
         have:∀(l:List E3) (j:Nat) v,(entL l)[j]?=some v->zBg v=true:=by
          intro l
          induction l with
          | nil=>intro j v h;simp[entL] at h
          | cons e l ih=>
           intro j v h
           match j,h with
           | 0,h=>cases h;rfl
           | 1,h=>cases h;rfl
           | 2,h=>cases h;rfl
           | j+3,h=>exact ih j v h
         exact VR.of_ground (this _ i v hv)⟩⟩ (entL_one _)
        have hds:(pdq (ltOf cmpE) l.toArray 0 l.toArray.size (Lib.bitLen l.toArray.size) true true).size=l.length:=pdq_size l
        have e2:=setCells_sort hHn (pdq (ltOf cmpE) l.toArray 0 l.toArray.size (Lib.bitLen l.toArray.size) true true) hds
        have hrun:=stores_of_holds Tryz.prog hHn 0 (entL (srtE l)) (by rw[entL_len,size_flatK];unfold srtE;rw[Array.length_toList];exact Nat.le_of_eq (by rw[show (pdq (fun x y:E3=>decide (cmpE x y<0)) l.toArray 0 l.toArray.size (Lib.bitLen l.toArray.size) true true).size=l.length from hds];simp)) (fun v hv=>by
         have:=List.all_eq_true.1 (entL_one (srtE l)) v hv
         exact this)
        rw[Nat.add_zero] at hrun
        rw[show (storeCells ⟨l0.cb,l0.s+o,none⟩ (entL (srtE l))).run Tryz.prog (w.drewN m)=Sem.run Tryz.prog (storeCells ⟨l0.cb,l0.s+o,none⟩ (entL (srtE l)) 0) (w.drewN m) from rfl,hrun] at hw2
        cases hw2
        have e3:w'=grow ((w.drewN m).setCells l0.cb (l0.s+o) (entL (srtE l))) os:=by
         rw[h3]
         unfold sortWorldK
         congr 1
         rw[show n=l.toArray.size by simpa using hln.symm]
         exact e2.symm
        rw[e3]
        exact (hp2.drewN m).grown os
      ·cases hv
     ·cases hv
    ·cases hv
  ·cases hv
 ·cases hv
def tzRen:Go.Shelf.Ren:=⟨fun | 29=>70 | n=>n,fun | 0=>0 | 3=>3 | 4=>4 | 5=>5 | 22=>30 | 25=>66 | 54=>174 | n=>n,fun | 1=>0 | n=>n⟩
theorem tzLay:Go.Proofs.Lays7.n29 Tryz.prog tzRen:={ mixed:=by kernel_rfl,f29:=Tryz.func70.trans (congrArg some (by kernel_rfl)),t0:=Tryz.underlying0,a0:=Tryz.isAgg0,z0:=Tryz.sizeOf0,v0:=Tryz.zeroValue0,i0:=by kernel_rfl,t3:=Tryz.underlying3,a3:=Tryz.isAgg3,z3:=Tryz.sizeOf3,v3:=Tryz.zeroValue3,i3:=by kernel_rfl,t4:=Tryz.underlying4,a4:=Tryz.isAgg4,z4:=Tryz.sizeOf4,v4:=Tryz.zeroValue4,i4:=by kernel_rfl,t5:=Tryz.underlying5,a5:=Tryz.isAgg5,z5:=Tryz.sizeOf5,v5:=Tryz.zeroValue5,i5:=by kernel_rfl,t22:=Tryz.underlying30,a22:=Tryz.isAgg30,z22:=Tryz.sizeOf30,v22:=Tryz.zeroValue30,i22:=by kernel_rfl,t25:=Tryz.underlying66,a25:=Tryz.isAgg66,z25:=Tryz.sizeOf66,v25:=Tryz.zeroValue66,i25:=by kernel_rfl,t54:=Tryz.underlying174,a54:=Tryz.isAgg174,z54:=Tryz.sizeOf174,g1:=by kernel_rfl }
theorem tz_sound (base:Nat) (args:Array Value) (h:Heap) (v:Value) (h':Heap) (E:Env) (w:World) (args':Array Value) (hv:tzX args h=some (v,h')) (hR:Rel Tryz.prog base E h w) (ha:ARel E args args') :
  Calls Tryz.prog 70 args' w fun e w'=>∃v' E',e=.returned v'/\Post Tryz.prog base E h w E' h' w'/\VR E' v v':=by
 obtain ⟨n,hn,h0,h1,rfl,rfl⟩:=tzX_h hv
 have hl:=ha.list
 rw[hn] at hl
 obtain ⟨x',g1,r1⟩:=hl.2 0 _ rfl
 have h3:=hl.1
 have hargs:args'=#[.int .u64 n]:=by
  obtain ⟨l⟩:=args'
  match l,h3,g1 with
  | [a],_,g1=>cases g1;cases r1;rfl
 subst hargs
 obtain ⟨k,rfl⟩:∃k:Nat,n=k:=⟨n.toNat,by omega⟩
 have hT:TabAt (tzRen.g 1) Lib.deBruijn64tab w:=fun j hj=>by
  obtain ⟨_,gl⟩:=hR.glob 0 _ rfl
  have:=gl j (.int .u8 (Lib.deBruijn64tab.getD j 0:Nat)) (by rw[List.getElem?_map,List.getElem?_eq_getElem hj,List.getD_eq_getElem?_getD,List.getElem?_eq_getElem hj];rfl)
  exact this
 refine (Any7.bits_TrailingZeros64 tzLay k (by omega) w fun _=>hT).mono ?_
 rintro e w' ⟨rfl,rfl⟩
 exact ⟨_,E,rfl,Post.refl hR,.int _ _⟩
instance:XtOk Tryz.prog:=⟨fun f g hX args h v h' hv=>by
  rcases xt_inv hX with ⟨_,rfl⟩ | ⟨_,rfl⟩ | ⟨_,rfl⟩
  ·exact sortX_grow _ _ _ _ _ hv
  ·obtain ⟨_,_,_,_,_,rfl⟩:=tzX_h hv;exact Grow.refl _
  ·exact insX_grow _ _ _ _ hv,
 fun base f g hX args h v h' E w args' hv hR ha hf=>by
  rcases xt_inv hX with ⟨rfl,rfl⟩ | ⟨rfl,rfl⟩ | ⟨rfl,rfl⟩
  ·exact sort_sound base args h v h' E w args' hv hR ha
  ·exact tz_sound base args h v h' E w args' hv hR ha
  ·exact ins_sound base args h v h' E w args' hv hR ha hf⟩

end Go.Am
