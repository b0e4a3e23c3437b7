/- What the functions answer, in the machine. -/
import Derived.Test.YtclpkcampbhbdaaGreatDoorKF
import Derived.Test.YtclpkcampbhbdaaGreatDoorChecked
import Derived.Shelf.Spec.SlicesInsert
import Derived.WalkKit
import Derived.KernelRfl
import Derived.Lib.AppendZerosOnto
import Derived.Laws.NewBlocks
set_option linter.all false
namespace Go.Am
set_option maxRecDepth 100000
set_option linter.all false
structure GI (n:Nat) (X:Tr) (N:Nat) (rk:Nat->Nat->Nat) (V:Nat->Nat->Nat) (tk:Nat->Nat->Nat) (es:Nat->List E3):Prop where
 vc:∀i a,V i a<=X.c a
 own:∀i,i<n->V i i=X.c i
 tv:∀d f,tk d f<=V d f
 out:∀a,n<=a->X.c a=0
 ac:∀f j a,j<X.c f->X.A f j a<=X.c a
 aj:∀f j,j<X.c f->X.A f j f=j
 tw:∀f j,j<X.c f->X.T f j<2^n/\(X.T f j).testBit f=false
 rkN:∀f j,j<X.c f->rk f j<N
 rkA:∀f j f' j',j<X.c f->j'<X.A f j f'->rk f' j'<rk f j
 i3:∀d f j f' j',j'<tk d f'->(X.T f' j').testBit d=true->j<X.A f' j' f->(X.T f j).testBit d=true->j<tk d f
 i4:∀d f j,d<n->j<V d f->(X.T f j).testBit d=true->j<tk d f
 log:∀i,i<n->LogOk X (V i) (es i)/\Cov X (V i) tk (es i) fun _=>True
def StOk (X:Tr) (tk:Nat->Nat->Nat) (a j d:Nat) (g:List E3):Prop:=LogOk X (X.A a j) g/\Cov X (X.A a j) tk g fun d'=>d'=d\/(X.T a j).testBit d'=false
def CanT (X:Tr) (tk:Nat->Nat->Nat) (a j d:Nat):Prop:=∀f i,i<X.A a j f->(X.T f i).testBit d=true->i<tk d f
theorem hasB_natQ (t d:Nat) (hd:d<64):hasB t (d:Int)=t.testBit d:=by
 unfold hasB
 rw[decide_eq_true (by omega),Int.toNat_natCast];rfl
theorem can_iff {n N:Nat} {X:Tr} {rk V tk:Nat->Nat->Nat} {es:Nat->List E3} (G:GI n X N rk V tk es) (hn:n<=16) {a j d:Nat} (ha:a<n) (hj:j<X.c a) (hd:d<n) (hT:(X.T a j).testBit d=true) {g:List E3} (st:StOk X tk a j d g) {ns:List Nat} (hns:∀f,f<n->atN ns (f:Nat)=tk d f) {bs:List UInt8} (hg:getP bs=some g) :
  canE n (d:Nat) ns (a:Nat) (j+1) bs=true ↔ CanT X tk a j d:=by
 have hne:a≠d:=fun e=>by
  subst e
  have:=(G.tw a j hj).2
  rw[this] at hT;cases hT
 unfold canE
 rw[hg]
 simp only
 rw[if_neg (by omega)]
 rw[Bool.not_eq_true',List.any_eq_false]
 obtain ⟨l,cv⟩:=st
 constructor
 ·intro h
  have key:∀(k f i:Nat),N-rk f i<=k->i<X.A a j f->(X.T f i).testBit d=true->i<tk d f:=by
   intro k
   induction k with
   | zero=>
    intro f i hk hi ht
    have h1:=G.ac a j f hj
    have:=G.rkN f i (by omega)
    omega
   | succ k ih=>
    intro f i hk hi ht
    have h1:=G.ac a j f hj
    have hic:i<X.c f:=by omega
    rcases cv f i d hi (.inl rfl) ht with ⟨e,he,e1,e2,e3⟩ | h2 | ⟨f',j',h2,h3,h4⟩
    ·have hs:=h e he
     have hfd:f≠d:=fun e'=>by
      subst e'
      have:=(G.tw f i hic).2
      rw[this] at ht;cases ht
     have hfn:f<n:=Nat.lt_of_not_le fun hle=>by
      have:=G.out f hle
      omega
     unfold stopE at hs
     rw[e1,hasB_natQ _ _ (by omega),e3,decide_eq_true (show ((f:Nat):Int)≠(d:Nat) by omega),hns f hfn,Bool.true_and,Bool.true_and,decide_eq_true_eq,e2] at hs
     omega
    ·exact h2
    ·have h5:=G.ac a j f' hj
     have r:=G.rkA f' j' f i (by omega) h4
     have rN:=G.rkN f' j' (by omega)
     have:=ih f' j' (by omega) h2 h3
     exact G.i3 d f i f' j' this h3 h4 ht
  exact fun f i hi ht=>key (N-rk f i) f i (Nat.le_refl _) hi ht
 ·intro h e he hs
  obtain ⟨f,e1,e2,e3⟩:=l.ent e he
  have hp:=l.pos he
  unfold stopE at hs
  rw[Bool.and_eq_true,Bool.and_eq_true,decide_eq_true_eq,decide_eq_true_eq,e1,hasB_natQ _ _ (by omega)] at hs
  have hfn:f<n:=Nat.lt_of_not_le fun hle=>by
   have:=G.out f hle
   have:=G.ac a j f hj
   omega
  rw[hns f hfn] at hs
  have:=h f (e.n-1) (by omega) (e3 d hs.1)
  omega
theorem Cov.mono {X:Tr} {V:Nat->Nat} {tk tk':Nat->Nat->Nat} {es:List E3} {D:Nat->Prop} (c:Cov X V tk es D) (h:∀d f,tk d f<=tk' d f):Cov X V tk' es D:=fun f j d hj hD ht=>by
 rcases c f j d hj hD ht with h1 | h1 | h1
 ·exact .inl h1
 ·exact .inr (.inl (Nat.lt_of_lt_of_le h1 (h d f)))
 ·exact .inr (.inr h1)
theorem Cov.sub {X:Tr} {V:Nat->Nat} {tk:Nat->Nat->Nat} {es:List E3} {D D':Nat->Prop} (c:Cov X V tk es D) (h:∀d,D' d->D d):Cov X V tk es D':=fun f j d hj hD ht=>c f j d hj (h d hD) ht
theorem LogOk.ext {X X':Tr} {V:Nat->Nat} {es:List E3} (l:LogOk X V es) (h:∀f j,j<V f->X'.T f j=X.T f j):LogOk X' V es:=
 ⟨l.good,fun e he=>by
  obtain ⟨f,a,b,c⟩:=l.ent e he
  have:=l.pos he
  exact ⟨f,a,b,fun d hd=>by rw[h f _ (by omega)];exact c d hd⟩,l.last⟩
theorem Cov.ext {X X':Tr} {V:Nat->Nat} {tk:Nat->Nat->Nat} {es:List E3} {D:Nat->Prop} (c:Cov X V tk es D) (h:∀f j,j<V f->X'.T f j=X.T f j) (hA:∀f j a,j<V f->X'.A f j a=X.A f j a):Cov X' V tk es D:=fun f j d hj hD ht=>by
 rw[h f j hj] at ht
 rcases c f j d hj hD ht with h1 | h1 | ⟨f',j',h1,h2,h3⟩
 ·exact .inl h1
 ·exact .inr (.inl h1)
 ·exact .inr (.inr ⟨f',j',h1,by rw[h f' j' h1];exact h2,by rw[hA f' j' f h1];exact h3⟩)
def sndX (X:Tr) (P to:Nat) (v:Nat->Nat):Tr:=⟨upV1 X.c P,fun f j=>if f=P/\j=X.c P then to else X.T f j,fun f j=>if f=P/\j=X.c P then v else X.A f j⟩
theorem sndX_T (X:Tr) (P to:Nat) (v:Nat->Nat) {f j:Nat} (h:j<X.c f):(sndX X P to v).T f j=X.T f j:=if_neg fun e=>by have e2:=e.2;rw[e.1] at h;omega
theorem sndX_A (X:Tr) (P to:Nat) (v:Nat->Nat) {f j:Nat} (h:j<X.c f):(sndX X P to v).A f j=X.A f j:=if_neg fun e=>by have e2:=e.2;rw[e.1] at h;omega
theorem sndX_Tn (X:Tr) (P to:Nat) (v:Nat->Nat):(sndX X P to v).T P (X.c P)=to:=if_pos ⟨rfl,rfl⟩
theorem sndX_An (X:Tr) (P to:Nat) (v:Nat->Nat):(sndX X P to v).A P (X.c P)=v:=if_pos ⟨rfl,rfl⟩
theorem sndX_c (X:Tr) (P to:Nat) (v:Nat->Nat) {f j:Nat} (h:j<(sndX X P to v).c f):j<X.c f\/f=P/\j=X.c P:=by
 by_cases e:f=P
 ·subst e
  have:j<upV1 X.c f f:=h
  rw[upV1_self] at this
  omega
 ·have:j<upV1 X.c P f:=h
  rw[upV1_ne _ e] at this
  exact .inl this
def updV (V:Nat->Nat->Nat) (i:Nat) (v:Nat->Nat):Nat->Nat->Nat:=fun k=>if k=i then v else V k
theorem updV_self (V:Nat->Nat->Nat) (i:Nat) (v:Nat->Nat):updV V i v i=v:=if_pos rfl
theorem updV_ne (V:Nat->Nat->Nat) {i k:Nat} (v:Nat->Nat) (h:k≠i):updV V i v k=V k:=if_neg h
def updE (E:Nat->List E3) (i:Nat) (v:List E3):Nat->List E3:=fun k=>if k=i then v else E k
def rkS (rk:Nat->Nat->Nat) (P c N:Nat):Nat->Nat->Nat:=fun f j=>if f=P/\j=c then N else rk f j
theorem StOk.snd {n N:Nat} {X:Tr} {rk V tk:Nat->Nat->Nat} {es:Nat->List E3} (G:GI n X N rk V tk es) {P to:Nat} {v:Nat->Nat} {a j d:Nat} (hj:j<X.c a) {g:List E3} (st:StOk X tk a j d g):StOk (sndX X P to v) tk a j d g:=by
 unfold StOk
 rw[sndX_A X P to v hj,sndX_T X P to v hj]
 have h:∀f i,i<X.A a j f->i<X.c f:=fun f i hi=>Nat.lt_of_lt_of_le hi (G.ac a j f hj)
 exact ⟨st.1.ext fun f i hi=>sndX_T X P to v (h f i hi),st.2.ext (fun f i hi=>sndX_T X P to v (h f i hi)) fun f i b hi=>by rw[sndX_A X P to v (h f i hi)]⟩
theorem GI.send {n N:Nat} {X:Tr} {rk V tk:Nat->Nat->Nat} {es:Nat->List E3} (G:GI n X N rk V tk es) (hn:n<=16) {P to:Nat} (hP:P<n) (hto:to<2^n) (hoP:to.testBit P=false) :
  GI n (sndX X P to (V P)) (N+1) (rkS rk P (X.c P) N) (updV V P (upV1 (V P) P)) tk (updE es P (sendLog (es P) (P:Nat) (X.c P) to)) ∧
  ∀d,d<n->to.testBit d=true->StOk (sndX X P to (V P)) tk P (X.c P) d (purgeE (lessE (es P) (outB to (ofN (d:Nat))))):=by
 have h16:(2:Nat)^n<=2^16:=Nat.pow_le_pow_right (by omega) hn
 have own:=G.own P hP
 have hc:∀f,X.c f<=(sndX X P to (V P)).c f:=fun f=>upV1_le X.c P f
 have lo:∀i,i<n->LogOk (sndX X P to (V P)) (V i) (es i)/\Cov (sndX X P to (V P)) (V i) tk (es i) fun _=>True:=fun i hi=>
  ⟨(G.log i hi).1.ext fun f j hj=>sndX_T _ _ _ _ (Nat.lt_of_lt_of_le hj (G.vc i f)),(G.log i hi).2.ext (fun f j hj=>sndX_T _ _ _ _ (Nat.lt_of_lt_of_le hj (G.vc i f))) fun f j b hj=>by rw[sndX_A _ _ _ _ (Nat.lt_of_lt_of_le hj (G.vc i f))]⟩
 refine ⟨⟨fun i a=>?_,fun i hi=>?_,fun d f=>?_,fun a ha=>?_,fun f j a hj=>?_,fun f j hj=>?_,fun f j hj=>?_,fun f j hj=>?_,fun f j f' j' hj hj'=>?_,fun d f j f' j' h1 h2 h3 h4=>?_,fun d f j hd hj ht=>?_,fun i hi=>?_⟩,fun d hd hb=>?_⟩
 ·by_cases e:i=P
  ·subst e
   rw[updV_self]
   show upV1 (V i) i a<=upV1 X.c i a
   unfold upV1
   have:=G.vc i a
   split<;>omega
  ·rw[updV_ne _ _ e]
   exact Nat.le_trans (G.vc i a) (hc a)
 ·by_cases e:i=P
  ·subst e
   rw[updV_self]
   show upV1 (V i) i i=upV1 X.c i i
   rw[upV1_self,upV1_self,own]
  ·rw[updV_ne _ _ e]
   show V i i=upV1 X.c P i
   rw[upV1_ne _ e]
   exact G.own i hi
 ·by_cases e:d=P
  ·subst e
   rw[updV_self]
   exact Nat.le_trans (G.tv d f) (upV1_le _ _ _)
  ·rw[updV_ne _ _ e]
   exact G.tv d f
 ·show upV1 X.c P a=0
  rw[upV1_ne _ (by omega)]
  exact G.out a ha
 ·rcases sndX_c X P to (V P) hj with h | ⟨rfl,rfl⟩
  ·rw[sndX_A _ _ _ _ h]
   exact Nat.le_trans (G.ac f j a h) (hc a)
  ·rw[sndX_An]
   exact Nat.le_trans (G.vc f a) (hc a)
 ·rcases sndX_c X P to (V P) hj with h | ⟨rfl,rfl⟩
  ·rw[sndX_A _ _ _ _ h]
   exact G.aj f j h
  ·rw[sndX_An]
   exact own
 ·rcases sndX_c X P to (V P) hj with h | ⟨rfl,rfl⟩
  ·rw[sndX_T _ _ _ _ h]
   exact G.tw f j h
  ·rw[sndX_Tn]
   exact ⟨hto,hoP⟩
 ·unfold rkS
  rcases sndX_c X P to (V P) hj with h | ⟨rfl,rfl⟩
  ·rw[if_neg fun e=>by have e2:=e.2;rw[e.1] at h;omega]
   have:=G.rkN f j h
   omega
  ·rw[if_pos ⟨rfl,rfl⟩]
   omega
 ·rcases sndX_c X P to (V P) hj with h | ⟨rfl,rfl⟩
  ·rw[sndX_A _ _ _ _ h] at hj'
   have h2:=G.ac f j f' h
   unfold rkS
   rw[if_neg (fun e:f'=P/\j'=X.c P=>by have e2:=e.2;rw[e.1] at h2 hj';omega),if_neg (fun e:f=P/\j=X.c P=>by have e2:=e.2;rw[e.1] at h;omega)]
   exact G.rkA f j f' j' h hj'
  ·rw[sndX_An] at hj'
   have h2:=G.vc f f'
   unfold rkS
   rw[if_neg (fun e:f'=f/\j'=X.c f=>by have e2:=e.2;rw[e.1] at h2 hj';omega),if_pos ⟨rfl,rfl⟩]
   exact G.rkN f' j' (by omega)
 ·have c1:j'<X.c f':=Nat.lt_of_lt_of_le h1 (Nat.le_trans (G.tv d f') (G.vc d f'))
  rw[sndX_T _ _ _ _ c1] at h2
  rw[sndX_A _ _ _ _ c1] at h3
  have c2:j<X.c f:=Nat.lt_of_lt_of_le h3 (G.ac f' j' f c1)
  rw[sndX_T _ _ _ _ c2] at h4
  exact G.i3 d f j f' j' h1 h2 h3 h4
 ·by_cases e:d=P
  ·subst e
   rw[updV_self] at hj
   by_cases e2:f=d/\j=X.c d
   ·obtain ⟨rfl,rfl⟩:=e2
    rw[sndX_Tn,hoP] at ht
    cases ht
   ·have hjV:j<V d f:=by
     by_cases e3:f=d
     ·subst e3;rw[upV1_self] at hj;omega
     ·rw[upV1_ne _ e3] at hj;exact hj
    rw[sndX_T _ _ _ _ (Nat.lt_of_lt_of_le hjV (G.vc d f))] at ht
    exact G.i4 d f j hd hjV ht
  ·rw[updV_ne _ _ e] at hj
   rw[sndX_T _ _ _ _ (Nat.lt_of_lt_of_le hj (G.vc d f))] at ht
   exact G.i4 d f j hd hj ht
 ·by_cases e:i=P
  ·subst e
   rw[updV_self]
   unfold updE
   rw[if_pos rfl]
   obtain ⟨l,c⟩:=lo i hi
   have l1:=l.less to (by omega)
   have c1:=c.less l.good to (by omega)
   have hm:mayE ⟨(i:Nat),V i i+1,to⟩=true:=by
    unfold mayE
    simp only[Bool.and_eq_true,decide_eq_true_eq]
    omega
   have hT:(sndX X i to (V i)).T i (V i i)=to:=by rw[own];exact sndX_Tn X i to (V i)
   have hA:∀f,(sndX X i to (V i)).A i (V i i) f=V i f:=fun f=>by rw[own,sndX_An]
   have l2:=l1.add hm fun d hd=>by rw[hT];exact hd
   have c2:=c1.add l1 hm hT hA
   have e1:sendLog (es i) (i:Nat) (X.c i) to=purgeE (addE (lessE (es i) to) ⟨(i:Nat),V i i+1,to⟩):=by unfold sendLog;rw[own]
   rw[e1]
   refine ⟨l2.purge,(c2.purge l2.good).sub fun d _=>?_⟩
   cases hb:to.testBit d with
   | true=>exact .inr rfl
   | false=>exact .inl ⟨trivial,rfl⟩
  ·rw[updV_ne _ _ e]
   unfold updE
   rw[if_neg e]
   exact lo i hi
 ·obtain ⟨l,c⟩:=lo P hP
  have ob:outB to (ofN (d:Nat))<2^64:=Nat.lt_of_le_of_lt Nat.and_le_left (by omega)
  have od:ofN (d:Nat)<2^64:=ofN_lt _
  have l1:=(l.less (outB to (ofN (d:Nat))) ob).purge
  have c1:=(c.less l.good (outB to (ofN (d:Nat))) ob).purge (good_less _ l.good)
  unfold StOk
  rw[sndX_An,sndX_Tn]
  refine ⟨l1,c1.sub fun d' hd'=>⟨trivial,?_⟩⟩
  rw[outB_bit _ _ _ (by omega) od]
  rcases hd' with rfl | h
  ·have:(ofN (d':Nat)).testBit d'=true:=by
    unfold ofN
    rw[if_pos (by omega),Int.toNat_natCast,Nat.testBit_two_pow_self]
   rw[this];simp
  ·rw[h];rfl
theorem ofN_bit (d d':Nat) (h:d<64) (hne:d'≠d):(ofN (d:Nat)).testBit d'=false:=by
 unfold ofN
 rw[if_pos (by omega),Int.toNat_natCast,Nat.testBit_two_pow]
 exact decide_eq_false (Ne.symm hne)
def tkS (tk:Nat->Nat->Nat) (d a j:Nat):Nat->Nat->Nat:=fun k f=>if k=d/\f=a then j+1 else tk k f
theorem GI.take {n N:Nat} {X:Tr} {rk V tk:Nat->Nat->Nat} {es:Nat->List E3} (G:GI n X N rk V tk es) (hn:n<=16) {a j d:Nat} (ha:a<n) (hj:j<X.c a) (hd:d<n) (hT:(X.T a j).testBit d=true) {g:List E3} (st:StOk X tk a j d g) (hc:CanT X tk a j d)
  (h1:tk d a<=j) (h2:∀i,tk d a<=i->i<j->(X.T a i).testBit d=false) :
  GI n X N rk (updV V d (maxV (V d) (upV1 (X.A a j) a))) (tkS tk d a j) (updE es d (takeLog (es d) (d:Nat) (a:Nat) (j+1) (X.T a j) g))/\(∀k f,tk k f<=tkS tk d a j k f):=by
 have h16:(2:Nat)^n<=2^16:=Nat.pow_le_pow_right (by omega) hn
 have up:∀k f,tk k f<=tkS tk d a j k f:=fun k f=>by
  unfold tkS
  split
  ·rename_i e;rw[e.1,e.2];omega
  ·exact Nat.le_refl _
 have tks:tkS tk d a j d a=j+1:=if_pos ⟨rfl,rfl⟩
 have ajj:=G.aj a j hj
 have tw:=G.tw a j hj
 have od:ofN (d:Nat)<2^64:=ofN_lt _
 -- what is newly taken
 have new:∀k f i,i<tkS tk d a j k f->(X.T f i).testBit k=true->i<tk k f\/k=d/\f=a/\i=j:=fun k f i hi ht=>by
  unfold tkS at hi
  split at hi
  ·rename_i e
   obtain ⟨rfl,rfl⟩:=e
   by_cases hlt:i<tk k f
   ·exact .inl hlt
   ·by_cases e2:i=j
    ·exact .inr ⟨rfl,rfl,e2⟩
    ·have:=h2 i (by omega) (by omega)
     rw[this] at ht;cases ht
  ·exact .inl hi
 have i4':∀f i,i<maxV (V d) (upV1 (X.A a j) a) f->(X.T f i).testBit d=true->i<tkS tk d a j d f:=fun f i hi ht=>by
  by_cases hv:i<V d f
  ·exact Nat.lt_of_lt_of_le (G.i4 d f i hd hv ht) (up d f)
  ·have hi:i<max (V d f) (upV1 (X.A a j) a f):=hi
   have hb:i<upV1 (X.A a j) a f:=by omega
   by_cases e:f=a
   ·subst e
    rw[upV1_self,ajj] at hb
    rw[tks]
    exact hb
   ·rw[upV1_ne _ e] at hb
    exact Nat.lt_of_lt_of_le (hc f i hb ht) (up d f)
 refine ⟨⟨fun i b=>?_,fun i hi=>?_,fun k f=>?_,G.out,G.ac,G.aj,G.tw,G.rkN,G.rkA,fun k f i f' i' g1 g2 g3 g4=>?_,fun k f i hk hi ht=>?_,fun i hi=>?_⟩,up⟩
 ·by_cases e:i=d
  ·subst e
   rw[updV_self]
   have q1:=G.vc i b
   have q2:=G.ac a j b hj
   show max (V i b) (upV1 (X.A a j) a b)<=_
   by_cases e2:b=a
   ·subst e2
    rw[upV1_self];omega
   ·rw[upV1_ne _ e2];omega
  ·rw[updV_ne _ _ e]
   exact G.vc i b
 ·by_cases e:i=d
  ·subst e
   rw[updV_self]
   have q1:=G.own i hd
   have q2:=G.ac a j i hj
   have hne:i≠a:=fun e=>by
    rw[e] at hT
    rw[tw.2] at hT;cases hT
   show max (V i i) (upV1 (X.A a j) a i)=_
   rw[upV1_ne _ hne]
   omega
  ·rw[updV_ne _ _ e]
   exact G.own i hi
 ·by_cases e:k=d
  ·subst e
   rw[updV_self]
   have q1:=G.tv k f
   show _<=max (V k f) (upV1 (X.A a j) a f)
   by_cases e2:f=a
   ·subst e2
    rw[tks,upV1_self,ajj];omega
   ·unfold tkS
    rw[if_neg fun x=>e2 x.2]
    omega
  ·rw[updV_ne _ _ e]
   unfold tkS
   rw[if_neg fun x=>e x.1]
   exact G.tv k f
 ·rcases new k f' i' g1 g2 with g1 | ⟨rfl,rfl,rfl⟩
  ·exact Nat.lt_of_lt_of_le (G.i3 k f i f' i' g1 g2 g3 g4) (up k f)
  ·exact Nat.lt_of_lt_of_le (hc f i g3 g4) (up k f)
 ·by_cases e:k=d
  ·subst e
   rw[updV_self] at hi
   exact i4' f i hi ht
  ·rw[updV_ne _ _ e] at hi
   exact Nat.lt_of_lt_of_le (G.i4 k f i hk hi ht) (up k f)
 ·by_cases e:i=d
  ·subst e
   rw[updV_self]
   unfold updE
   rw[if_pos rfl]
   obtain ⟨l,c⟩:=G.log i hd
   obtain ⟨lg,cg⟩:=st
   have hm:mayE ⟨(a:Nat),X.A a j a+1,X.T a j⟩=true:=by
    unfold mayE
    simp only[Bool.and_eq_true,decide_eq_true_eq]
    omega
   have l1:=lg.add hm fun d' hd'=>by rw[ajj];exact hd'
   have c1:=cg.add lg hm (by rw[ajj]) fun f=>by rw[ajj]
   have l2:=l1.less (ofN (i:Nat)) od
   have c2:=c1.less l1.good (ofN (i:Nat)) od
   have l3:=l.join l2
   have c3:Cov X (maxV (V i) (upV1 (X.A a j) a)) tk (joinE (es i) (lessE (addE g ⟨(a:Nat),X.A a j a+1,X.T a j⟩) (ofN (i:Nat)))) fun d'=>d'≠i:=(c.sub fun _ _=>trivial).join (c2.sub fun d' hd'=>⟨?_,ofN_bit i d' (by omega) hd'⟩) l l2
   have l4:=(l3.less (ofN (i:Nat)) od).purge
   have c4:=((c3.less l3.good (ofN (i:Nat)) od).purge (good_less _ l3.good)).mono up
   rw[ajj] at l4 c4
   refine ⟨l4,fun f i' d' hj' _ ht=>?_⟩
   ·by_cases e2:d'=i
    ·subst e2
     exact .inr (.inl (i4' f i' hj' ht))
    ·exact c4 f i' d' hj' ⟨e2,ofN_bit i d' (by omega) e2⟩ ht
   ·cases hb:(X.T a j).testBit d' with
    | true=>exact .inr rfl
    | false=>exact .inl (.inr rfl)
  ·rw[updV_ne _ _ e]
   unfold updE
   rw[if_neg e]
   exact ⟨(G.log i hi).1,(G.log i hi).2.mono up⟩
theorem GI.len {n N m:Nat} {X:Tr} {V:Nat->Nat} {es:List E3} (l:LogOk X V es) (hV:∀a,V a<=m) (h0:∀a,n<=a->V a=0):es.length<=n*(m+1):=by
 have kb:KB ((List.range n).flatMap fun (f:Nat)=>(List.range (m+1)).map fun (k:Nat)=>((f:Int),k)) es:=fun e he=>by
  obtain ⟨f,h1,h2,_⟩:=l.ent e he
  have:=l.pos he
  have hf:f<n:=Nat.lt_of_not_le fun hle=>by have:=h0 f hle;omega
  refine List.mem_flatMap.2 ⟨f,List.mem_range.2 hf,List.mem_map.2 ⟨e.n,List.mem_range.2 (by have:=hV f;omega),?_⟩⟩
  unfold keyE
  rw[h1]
 have:=kb.len l.good
 rw[List.length_flatMap] at this
 simp only[List.length_map,List.length_range] at this
 rw[List.map_const',List.length_range,List.sum_replicate_nat] at this
 exact this
end Go.Am
namespace Go.Am
open Go.Proofs
set_option maxRecDepth 100000
set_option linter.all false
attribute [local congr] zAf zAq zAr zAs zAj zAg
theorem up1_lt {to k:Nat} {r:List Nat} (h:∀y∈r,y<2^64):∀y∈up1 to k r,y<2^64:=by
 intro y hy
 obtain ⟨j,hj,rfl⟩:=List.getElem_of_mem hy
 rw[up1_len] at hj
 have hg:=up1_get to k r j hj
 have:=getD_lt r h j
 rw[List.getD_eq_getElem?_getD,List.getElem?_eq_getElem (by rw[up1_len];exact hj)] at hg
 simp only[Option.getD_some] at hg
 rw[hg]
 split
 ·rename_i hc;omega
 ·exact this
theorem upM_lt {n:Int} {m:List (List Nat)} (h:∀r∈m,∀y∈r,y<2^64) (i:Int) (to:Nat):∀r∈upM n m i to,∀y∈r,y<2^64:=by
 unfold upM
 split
 ·intro r hr
  rcases List.mem_or_eq_of_mem_set hr with h' | rfl
  ·exact h r h'
  ·refine up1_lt fun y hy=>?_
   rw[List.getD_eq_getElem?_getD] at hy
   cases e:m[i.toNat]? with
   | none=>rw[e] at hy;simp at hy
   | some x=>rw[e] at hy;exact h x (List.mem_of_getElem? e) y hy
 ·exact h
theorem joinV_lt {a b:List Nat} (ha:∀y∈a,y<2^64) (hb:∀y∈b,y<2^64):∀y∈joinV a b,y<2^64:=by
 intro y hy
 obtain ⟨j,hj,rfl⟩:=List.getElem_of_mem hy
 have hg:=joinV_get a b j
 have h1:=getD_lt a ha j
 have h2:=getD_lt b hb j
 rw[List.getD_eq_getElem?_getD,List.getElem?_eq_getElem hj] at hg
 simp only[Option.getD_some] at hg
 omega
theorem getD_row {m:List (List Nat)} (h:∀r∈m,∀y∈r,y<2^64) (k:Nat):∀y∈m.getD k [],y<2^64:=by
 intro y hy
 rw[List.getD_eq_getElem?_getD] at hy
 cases e:m[k]? with
 | none=>rw[e] at hy;simp at hy
 | some x=>rw[e] at hy;exact h x (List.mem_of_getElem? e) y hy
theorem joinM_lt {a b:List (List Nat)} (ha:∀r∈a,∀y∈r,y<2^64) (hb:∀r∈b,∀y∈r,y<2^64):∀r∈joinM a b,∀y∈r,y<2^64:=by
 intro r hr
 obtain ⟨k,hk,rfl⟩:=List.getElem_of_mem hr
 rw[joinM_len] at hk
 have:=joinM_get a b k hk
 rw[List.getD_eq_getElem?_getD,List.getElem?_eq_getElem (by rw[joinM_len];exact hk)] at this
 simp only[Option.getD_some] at this
 rw[this]
 exact joinV_lt (getD_row ha k) (getD_row hb k)
theorem upV_one {g:List Nat} (hg:∀y∈g,y<2^64) {i:Int} (h0:0<=i) (hi:i<g.length) (hl:g.length<=16) :
  (upV g i).1.length=g.length/\(∀y∈(upV g i).1,y<2^64)/\∃d:Nat,d<=1/\∀j,(upV g i).1.getD j 0=g.getD j 0+(if j=i.toNat then d else 0):=by
 obtain ⟨i,rfl⟩:∃k:Nat,i=k:=⟨i.toNat,by omega⟩
 unfold upV
 by_cases hc:(i:Int)<0\/64<=(i:Int)\/atI g i=2^64-1
 ·rw[if_pos hc];exact ⟨rfl,hg,0,by omega,fun j=>by simp⟩
 ·rw[if_neg hc]
  have hlong:longV g (i+1)=g:=by
   unfold longV
   rw[show i+1-g.length=0 by omega];simp
  have hat:atI g i=g.getD i 0:=by unfold atI;rw[if_neg (by omega),Int.toNat_natCast]
  have h64:=getD_lt g hg i
  simp only[Int.toNat_natCast,hlong]
  rw[hat] at hc ⊢
  refine ⟨by simp,fun y hy=>?_,1,by omega,fun j=>?_⟩
  ·rcases List.mem_or_eq_of_mem_set hy with h | rfl
   ·exact hg y h
   ·omega
  ·rw[set_getD _ _ _ _ (by omega)]
   by_cases h:j=i
   ·subst h;rw[if_pos rfl,if_pos rfl]
   ·rw[if_neg h,if_neg h,Nat.add_zero]
variable {n me:Int} {m:List (List Nat)} {g:List Nat}
theorem EnOk.n16 (ok:EnOk n me m g):1<=n/\n<=16:=by have:=(goodM_iff n m).1 ok.gd;exact ⟨this.1.1,this.1.2.1⟩
theorem EnOk.send (ok:EnOk n me m g) (to:Nat):EnOk n me (upM n m me to) g:=⟨goodM_up ok.gd _ _,ok.me0,ok.men,ok.gl,upM_lt ok.m64 _ _,ok.g64⟩
theorem canE_some {from':Int} {bs:List UInt8} (h:canFE n me g from' bs=true):∃r,readM n bs=some r/\0<=from'/\from'<n/\from'≠me/\canCol g (columnM n r me)=true:=by
 unfold canFE at h
 cases hr:readM n bs with
 | none=>rw[hr] at h;cases h
 | some r=>
  rw[hr] at h
  simp only[Bool.and_eq_true,decide_eq_true_eq] at h
  exact ⟨r,rfl,h.1.1,h.1.2.1,h.1.2.2,h.2⟩
theorem EnOk.take (ok:EnOk n me m g) (from':Int) (to:Nat) (bs:List UInt8):EnOk n me (takeM n me m g from' to bs) (takeG n me g from' bs):=by
 unfold takeM takeG
 split
 ·rename_i hc
  obtain ⟨r,hr,h0,h1,_⟩:=canE_some hc
  have hg:=readM_good hr
  have hn:=ok.n16
  have hu:=upV_one ok.g64 h0 (by have:=ok.gl;omega) (by have:=ok.gl;omega)
  rw[hr]
  exact ⟨goodM_join ok.gd (goodM_up hg.1 _ _),ok.me0,ok.men,by rw[hu.1];exact ok.gl,joinM_lt ok.m64 (upM_lt hg.2 _ _),hu.2.1⟩
 ·exact ok
theorem EnOk.zero (hn:1<=n/\n<=16/\0<=me/\me<n):EnOk n me (zerosM n.toNat) (List.replicate n.toNat 0):=by
 have e:zerosM n.toNat=List.replicate n.toNat (List.replicate n.toNat 0):=rfl
 refine ⟨(goodM_iff n _).2 ⟨⟨hn.1,hn.2.1,by rw[e,List.length_replicate];omega⟩,fun r hr=>?_⟩,hn.2.2.1,hn.2.2.2,by simp;omega,fun r hr y hy=>?_,fun y hy=>?_⟩
 ·rw[e] at hr;rw[(List.mem_replicate.1 hr).2,List.length_replicate];omega
 ·rw[e] at hr;rw[(List.mem_replicate.1 hr).2] at hy;rw[(List.mem_replicate.1 hy).2];omega
 ·rw[(List.mem_replicate.1 hy).2];omega
end Go.Am
namespace Go.Am
set_option maxRecDepth 100000
set_option linter.all false
def mx (n:Nat) (F:Nat->Nat->Nat):List (List Nat):=(List.range n).map fun a=>(List.range n).map fun b=>F a b
def vx (n:Nat) (F:Nat->Nat):List Nat:=(List.range n).map F
theorem mx_len (n:Nat) (F:Nat->Nat->Nat):(mx n F).length=n:=by unfold mx;rw[List.length_map,List.length_range]
theorem vx_len (n:Nat) (F:Nat->Nat):(vx n F).length=n:=by unfold vx;rw[List.length_map,List.length_range]
theorem mx_row (n:Nat) (F:Nat->Nat->Nat) {a:Nat} (h:a<n):(mx n F).getD a []=vx n (F a):=by
 unfold mx
 rw[List.getD_eq_getElem?_getD,List.getElem?_map,List.getElem?_range h];rfl
theorem vx_get (n:Nat) (F:Nat->Nat) {a:Nat} (h:a<n):(vx n F).getD a 0=F a:=by
 unfold vx
 rw[List.getD_eq_getElem?_getD,List.getElem?_map,List.getElem?_range h];rfl
theorem mx_ext {n:Nat} {F G:Nat->Nat->Nat} (h:∀a b,a<n->b<n->F a b=G a b):mx n F=mx n G:=by
 unfold mx
 refine List.map_congr_left fun a ha=>List.map_congr_left fun b hb=>h a b (List.mem_range.1 ha) (List.mem_range.1 hb)
theorem vx_ext {n:Nat} {F G:Nat->Nat} (h:∀a,a<n->F a=G a):vx n F=vx n G:=by
 unfold vx
 exact List.map_congr_left fun a ha=>h a (List.mem_range.1 ha)
theorem mx_good (n:Nat) (h1:1<=n) (h2:n<=16) (F:Nat->Nat->Nat):goodM n (mx n F)=true:=by
 rw[goodM_iff]
 refine ⟨⟨by omega,by omega,by rw[mx_len]⟩,fun r hr=>?_⟩
 unfold mx at hr
 obtain ⟨a,_,rfl⟩:=List.mem_map.1 hr
 rw[List.length_map,List.length_range]
theorem mx_lt {n:Nat} {F:Nat->Nat->Nat} {B:Nat} (h:∀a b,F a b<B):∀r∈mx n F,∀y∈r,y<B:=fun r hr y hy=>by
 unfold mx at hr
 obtain ⟨a,_,rfl⟩:=List.mem_map.1 hr
 obtain ⟨b,_,rfl⟩:=List.mem_map.1 hy
 exact h a b
theorem vx_lt {n:Nat} {F:Nat->Nat} {B:Nat} (h:∀a,F a<B):∀y∈vx n F,y<B:=fun y hy=>by
 unfold vx at hy
 obtain ⟨b,_,rfl⟩:=List.mem_map.1 hy
 exact h b
theorem list_ext0 {a b:List Nat} (hl:a.length=b.length) (h:∀i,i<a.length->a.getD i 0=b.getD i 0):a=b:=by
 apply List.ext_getElem hl
 intro i h1 h2
 have:=h i h1
 rwa [List.getD_eq_getElem?_getD,List.getD_eq_getElem?_getD,List.getElem?_eq_getElem h1,List.getElem?_eq_getElem h2] at this
theorem mx_zero (n:Nat):zerosM n=mx n fun _ _=>0:=by
 unfold zerosM mx
 rw[List.map_const',List.map_const',List.length_range]
theorem vx_zero (n:Nat):List.replicate n 0=vx n fun _=>0:=by
 unfold vx
 rw[List.map_const',List.length_range]
theorem vx_set (n:Nat) (F:Nat->Nat) (i v:Nat) (hi:i<n):(vx n F).set i v=vx n fun a=>if a=i then v else F a:=by
 refine list_ext0 (by rw[List.length_set,vx_len,vx_len]) fun j hj=>?_
 rw[List.length_set,vx_len] at hj
 rw[vx_get n _ hj,List.getD_eq_getElem?_getD,List.getElem?_set]
 by_cases e:i=j
 ·subst e
  rw[if_pos rfl,if_pos (by rw[vx_len];exact hi),if_pos rfl];rfl
 ·rw[if_neg e,if_neg (Ne.symm e),<-List.getD_eq_getElem?_getD,vx_get n F hj]
theorem mx_up {n:Nat} (h1:1<=n) (h2:n<=16) {F:Nat->Nat->Nat} (hF:∀a b,F a b<2^32) {i:Nat} (hi:i<n) (to:Nat):upM n (mx n F) (i:Nat) to=mx n fun a b=>if a=i/\to.testBit b=true then F a b+1 else F a b:=by
 unfold upM
 rw[if_pos ⟨mx_good n h1 h2 F,by omega,by omega⟩,Int.toNat_natCast,Int.toNat_natCast,mx_row n F hi]
 have e1:up1 to n (vx n (F i))=vx n fun b=>if to.testBit b=true then F i b+1 else F i b:=by
  refine list_ext0 ?_ fun j hj=>?_
  ·unfold up1;rw[List.length_map,List.length_range,vx_len,vx_len]
  ·have hj':j<n:=by unfold up1 at hj;rw[List.length_map,List.length_range,vx_len] at hj;exact hj
   rw[up1_get _ _ _ _ (by rw[vx_len];exact hj'),vx_get n _ hj',vx_get n _ hj',hasB_natQ _ _ (by omega)]
   have:=hF i j
   by_cases hb:to.testBit j=true
   ·rw[if_pos ⟨hj',hb,by omega⟩,if_pos hb]
   ·rw[if_neg fun k=>hb k.2.1,if_neg hb]
 rw[e1]
 apply List.ext_getElem?
 intro k
 rw[List.getElem?_set]
 unfold mx
 by_cases e:i=k
 ·subst e
  rw[if_pos rfl,if_pos (by rw[List.length_map,List.length_range];exact hi),List.getElem?_map,List.getElem?_range hi]
  show some _=some _
  congr 1
  refine List.map_congr_left fun b _=>?_
  show (if to.testBit b=true then F i b+1 else F i b)=if i=i/\to.testBit b=true then F i b+1 else F i b
  by_cases hb:to.testBit b=true
  ·rw[if_pos hb,if_pos ⟨rfl,hb⟩]
  ·rw[if_neg hb,if_neg fun k=>hb k.2]
 ·rw[if_neg e,List.getElem?_map,List.getElem?_map]
  by_cases hk:k<n
  ·rw[List.getElem?_range hk]
   show some _=some _
   congr 1
   refine List.map_congr_left fun b _=>?_
   show F k b=if k=i/\to.testBit b=true then F k b+1 else F k b
   rw[if_neg fun x=>e x.1.symm]
  ·rw[List.getElem?_eq_none (by rw[List.length_range];omega)];rfl
theorem mx_join (n:Nat) (F G:Nat->Nat->Nat):joinM (mx n F) (mx n G)=mx n fun a b=>max (F a b) (G a b):=by
 unfold joinM
 rw[mx_len]
 show _=(List.range n).map _
 refine List.map_congr_left fun a ha=>?_
 have ha:=List.mem_range.1 ha
 rw[mx_row n F ha,mx_row n G ha]
 refine list_ext0 ?_ fun j hj=>?_
 ·unfold joinV;rw[List.length_map,List.length_range,List.length_map,List.length_range,vx_len,vx_len];omega
 ·have hj':j<n:=by unfold joinV at hj;rw[List.length_map,List.length_range,vx_len,vx_len] at hj;omega
  rw[joinV_get,vx_get n _ hj',vx_get n _ hj']
  exact (vx_get n (fun b=>max (F a b) (G a b)) hj').symm
theorem mx_col {n:Nat} (h1:1<=n) (h2:n<=16) (F:Nat->Nat->Nat) {j:Nat} (hj:j<n):columnM n (mx n F) (j:Nat)=vx n fun a=>F a j:=by
 unfold columnM
 rw[if_pos ⟨mx_good n h1 h2 F,by omega,by omega⟩]
 unfold colM mx vx
 rw[Int.toNat_natCast,List.map_map]
 refine List.map_congr_left fun a _=>?_
 show ((List.range n).map fun b=>F a b).getD j 0=_
 exact vx_get n (F a) hj
theorem vx_up {n:Nat} (h2:n<=16) {F:Nat->Nat} (hF:∀a,F a<2^32) {i:Nat} (hi:i<n):(upV (vx n F) (i:Nat)).1=vx n fun a=>if a=i then F a+1 else F a:=by
 have ei:atI (vx n F) (i:Nat)=F i:=by
  unfold atI
  rw[if_neg (by omega),Int.toNat_natCast,vx_get n F hi]
 have:=hF i
 unfold upV
 rw[if_neg (by rw[ei];omega),ei,Int.toNat_natCast]
 show (longV (vx n F) (i+1)).set i (F i+1)=_
 have el:longV (vx n F) (i+1)=vx n F:=by
  unfold longV
  rw[vx_len,show i+1-n=0 by omega]
  simp
 rw[el,vx_set n F i _ hi]
 refine vx_ext fun a _=>?_
 by_cases e:a=i
 ·subst e;rw[if_pos rfl]
 ·rw[if_neg e,if_neg e]
def cT (X:Tr) (a b k:Nat):Nat:=((List.range k).filter fun j=>(X.T a j).testBit b).length
theorem cT_succ (X:Tr) (a b k:Nat):cT X a b (k+1)=cT X a b k+if (X.T a k).testBit b=true then 1 else 0:=by
 unfold cT
 rw[List.range_succ,List.filter_append,List.length_append]
 congr 1
 by_cases h:(X.T a k).testBit b=true
 ·rw[if_pos h,List.filter_cons,if_pos h];rfl
 ·rw[if_neg h,List.filter_cons,if_neg h];rfl
theorem cT_le (X:Tr) (a b k:Nat):cT X a b k<=k:=Nat.le_trans (List.length_filter_le ..) (by simp)
theorem cT_add (X:Tr) (a b k:Nat):∀m,cT X a b k<=cT X a b (k+m)
 | 0=>Nat.le_refl _
 | m+1=>by
  have:=cT_add X a b k m
  rw[<-Nat.add_assoc,cT_succ]
  omega
theorem cT_mono (X:Tr) (a b:Nat) {k m:Nat} (h:k<=m):cT X a b k<=cT X a b m:=by
 have:=cT_add X a b k (m-k)
 rwa [show k+(m-k)=m by omega] at this
theorem cT_max (X:Tr) (a b k m:Nat):max (cT X a b k) (cT X a b m)=cT X a b (max k m):=by
 rcases Nat.le_total k m with h | h
 ·have:=cT_mono X a b h
  rw[Nat.max_eq_right h,Nat.max_eq_right this]
 ·have:=cT_mono X a b h
  rw[Nat.max_eq_left h,Nat.max_eq_left this]
theorem cT_none (X:Tr) (a b k:Nat):∀m,(∀i,k<=i->i<k+m->(X.T a i).testBit b=false)->cT X a b (k+m)=cT X a b k
 | 0,_=>rfl
 | m+1,h=>by
  rw[<-Nat.add_assoc,cT_succ,if_neg (by rw[h (k+m) (by omega) (by omega)];simp),Nat.add_zero]
  exact cT_none X a b k m fun i h1 h2=>h i h1 (by omega)
theorem cT_iff (X:Tr) (a b k m:Nat):cT X a b m<=cT X a b k ↔ ∀i,i<m->(X.T a i).testBit b=true->i<k:=by
 constructor
 ·intro h i hi hb
  refine Nat.lt_of_not_le fun hle=>?_
  have h1:=cT_mono X a b hle
  have h2:=cT_mono X a b (show i+1<=m from hi)
  rw[cT_succ,if_pos hb] at h2
  omega
 ·intro h
  rcases Nat.le_total m k with hk | hk
  ·exact cT_mono X a b hk
  ·have:=cT_none X a b k (m-k) fun i h1 h2=>by
    cases hb:(X.T a i).testBit b with
    | false=>rfl
    | true=>have:=h i (by omega) hb;omega
   rw[show k+(m-k)=m by omega] at this
   omega
theorem cT_ext {X X':Tr} {a b k:Nat} (h:∀j,j<k->X'.T a j=X.T a j):cT X' a b k=cT X a b k:=by
 unfold cT
 congr 1
 refine List.filter_congr fun j hj=>?_
 rw[h j (List.mem_range.1 hj)]
def mxK (n:Nat) (X:Tr) (V:Nat->Nat):List (List Nat):=mx n fun a b=>cT X a b (V a)
def vxT (n:Nat) (X:Tr) (tk:Nat->Nat->Nat) (d:Nat):List Nat:=vx n fun a=>cT X a d (tk d a)
theorem full_can {n N:Nat} {X:Tr} {rk V tk:Nat->Nat->Nat} {es:Nat->List E3} (G:GI n X N rk V tk es) (h1:1<=n) (h2:n<=16) (hc:∀a,X.c a<2^32) {a j d:Nat} (ha:a<n) (hj:j<X.c a) (hd:d<n) (hT:(X.T a j).testBit d=true) :
  canFE n (d:Nat) (vxT n X tk d) (a:Nat) (stampM n (mxK n X (X.A a j)))=true ↔ CanT X tk a j d:=by
 have hne:a≠d:=fun e=>by
  subst e
  have:=(G.tw a j hj).2
  rw[this] at hT;cases hT
 have lt:∀x y,cT X x y (X.A a j x)<2^32:=fun x y=>Nat.lt_of_le_of_lt (Nat.le_trans (cT_le ..) (G.ac a j x hj)) (hc x)
 unfold canFE
 have rd:readM n (stampM n (mxK n X (X.A a j)))=some (mxK n X (X.A a j)):=readM_stamp (mx_good n h1 h2 _) (mx_lt fun x y=>by have:=lt x y;omega)
 rw[rd]
 simp only
 rw[decide_eq_true (by omega),Bool.true_and]
 unfold mxK
 rw[mx_col h1 h2 _ hd]
 unfold canCol
 rw[vx_len,List.all_eq_true]
 constructor
 ·intro h f i hi hb
  have hf:f<n:=Nat.lt_of_not_le fun hle=>by
   have:=G.out f hle
   have:=G.ac a j f hj
   omega
  have:=h f (List.mem_range.2 hf)
  rw[decide_eq_true_eq,vx_get n _ hf] at this
  unfold vxT at this
  rw[vx_get n _ hf] at this
  exact (cT_iff X f d _ _).1 this i hi hb
 ·intro h k hk
  have hk:=List.mem_range.1 hk
  rw[decide_eq_true_eq,vx_get n _ hk]
  unfold vxT
  rw[vx_get n _ hk]
  exact (cT_iff X k d _ _).2 fun i hi hb=>h k i hi hb
theorem full_send {n N:Nat} {X:Tr} {rk V tk:Nat->Nat->Nat} {es:Nat->List E3} (G:GI n X N rk V tk es) (h1:1<=n) (h2:n<=16) (hc:∀a,X.c a<2^31) {P to:Nat} (hP:P<n) :
  upM n (mxK n X (V P)) (P:Nat) to=mxK n (sndX X P to (V P)) (upV1 (V P) P):=by
 unfold mxK
 rw[mx_up h1 h2 (fun x y=>Nat.lt_of_le_of_lt (Nat.le_trans (cT_le ..) (G.vc P x)) (by have:=hc x;omega)) hP]
 refine mx_ext fun a b _ _=>?_
 have own:=G.own P hP
 have e1:cT (sndX X P to (V P)) a b (V P a)=cT X a b (V P a):=cT_ext fun j hj=>sndX_T _ _ _ _ (Nat.lt_of_lt_of_le hj (G.vc P a))
 by_cases ea:a=P
 ·subst ea
  rw[upV1_self,cT_succ,e1,own,sndX_Tn]
  by_cases hb:to.testBit b=true
  ·rw[if_pos ⟨rfl,hb⟩,if_pos hb]
  ·rw[if_neg fun k=>hb k.2,if_neg hb];rfl
 ·rw[upV1_ne _ ea,e1,if_neg fun k=>ea k.1]
theorem full_take {n N:Nat} {X:Tr} {rk V tk:Nat->Nat->Nat} {es:Nat->List E3} (G:GI n X N rk V tk es) (h1:1<=n) (h2:n<=16) (hc:∀a,X.c a<2^31) {a j d:Nat} (ha:a<n) (hj:j<X.c a) (hd:d<n) (hT:(X.T a j).testBit d=true) (hC:CanT X tk a j d) (g1:tk d a<=j) (g2:∀i,tk d a<=i->i<j->(X.T a i).testBit d=false) :
  takeM n (d:Nat) (mxK n X (V d)) (vxT n X tk d) (a:Nat) (X.T a j) (stampM n (mxK n X (X.A a j)))=mxK n X (maxV (V d) (upV1 (X.A a j) a)) ∧
  takeG n (d:Nat) (vxT n X tk d) (a:Nat) (stampM n (mxK n X (X.A a j)))=vxT n X (tkS tk d a j) d:=by
 have lt:∀x y,cT X x y (X.A a j x)<2^32:=fun x y=>Nat.lt_of_le_of_lt (Nat.le_trans (cT_le ..) (G.ac a j x hj)) (by have:=hc x;omega)
 have hcan:=(full_can G h1 h2 (fun x=>by have:=hc x;omega) ha hj hd hT).2 hC
 have rd:readM n (stampM n (mxK n X (X.A a j)))=some (mxK n X (X.A a j)):=readM_stamp (mx_good n h1 h2 _) (mx_lt fun x y=>by have:=lt x y;omega)
 have ajj:=G.aj a j hj
 constructor
 ·unfold takeM
  rw[if_pos hcan,rd,Option.getD_some]
  unfold mxK
  rw[mx_up h1 h2 lt ha,mx_join]
  refine mx_ext fun x y _ _=>?_
  show _=cT X x y (max (V d x) (upV1 (X.A a j) a x))
  rw[<-cT_max]
  congr 1
  by_cases ex:x=a
  ·subst ex
   rw[upV1_self,cT_succ,ajj]
   by_cases hb:(X.T x j).testBit y=true
   ·rw[if_pos ⟨rfl,hb⟩,if_pos hb]
   ·rw[if_neg fun k=>hb k.2,if_neg hb];rfl
  ·rw[upV1_ne _ ex,if_neg fun k=>ex k.1]
 ·unfold takeG
  rw[if_pos hcan]
  unfold vxT
  rw[vx_up h2 (fun x=>Nat.lt_of_le_of_lt (Nat.le_trans (cT_le ..) (Nat.le_trans (G.tv d x) (G.vc d x))) (by have:=hc x;omega)) ha]
  refine vx_ext fun x _=>?_
  unfold tkS
  by_cases ex:x=a
  ·subst ex
   rw[if_pos rfl,if_pos ⟨rfl,rfl⟩,cT_succ,if_pos hT]
   have:=cT_none X x d (tk d x) (j-tk d x) fun i k1 k2=>g2 i k1 (by omega)
   rw[show tk d x+(j-tk d x)=j by omega] at this
   rw[this]
  ·rw[if_neg ex,if_neg fun k=>ex k.2]
theorem toE_eq (n P to:Nat) (hP:P<64):toE n (P:Nat) to=sendT n (P:Nat) to:=by
 unfold toE sendT outB
 have e:ofN (P:Nat)=2^P:=by unfold ofN;rw[if_pos (by omega),Int.toNat_natCast]
 rw[e,Int.toNat_natCast,Int.toNat_natCast]
end Go.Am
namespace Go.Am
open Go.Proofs
set_option maxRecDepth 100000
set_option linter.all false
attribute [local congr] zAf zAq zAr zAs zAj zAg
theorem allN_succS (i:Nat):allN i ||| 2^i=allN (i+1):=by
 unfold allN
 refine Nat.eq_of_testBit_eq fun j=>?_
 rw[Nat.testBit_or,Nat.testBit_two_pow_sub_one,Nat.testBit_two_pow_sub_one,Nat.testBit_two_pow]
 by_cases h:j<i
 ·simp[h];omega
 ·by_cases e:i=j
  ·simp[e]
  ·have:¬j<i+1:=by omega
   simp[h,e,this]
theorem allN_ltS {i:Nat} (h:i<=63):allN i<2^64:=by unfold allN;have:2^i<2^64:=Nat.pow_lt_pow_right (by omega) (by omega);omega
theorem shlS (t:TypeId) (xo yo:Operand) (p:Nat) (hp:p<64):zBk Tryz.prog .shl t xo yo (.int .u64 1) (.int .u64 p)=some (.int .u64 ((2^p:Nat):Int)):=by
 have h2:2^p<2^64:=Nat.pow_lt_pow_right (by omega) hp
 rw[bin_shl64 _ _ _ _ _ _ (by omega) (by omega) (by omega),Int.toNat_natCast,show (1:Int).toNat=1 from rfl,Nat.one_mul,Nat.mod_eq_of_lt h2]
theorem orS (t:TypeId) (xo yo:Operand) (a b:Nat) (ha:a<2^64) (hb:b<2^64):zBk Tryz.prog .or t xo yo (.int .u64 a) (.int .u64 b)=some (.int .u64 ((a ||| b:Nat):Int)):=by
 rw[bin_or64 _ _ _ _ _ (by omega) (by omega) (by omega) (by omega),Int.toNat_natCast,Int.toNat_natCast]
theorem allofS_loop {h0 h:Heap} {n:Nat} (hn:n<=16):∀(mm i:Nat),n=i+mm->∀x:Nat->Value,x 0=.int .i64 n->x 3=.int .u64 (allN i:Nat)->x 4=.int .i64 i->
  lK c20_1 20 x h (zAu 0 (sK c20_2 (zBb Tryz.f20 Tryz.prog h0)))=some (.int .u64 (allN n:Nat),done h0 h):=by
 intro mm
 induction mm with
 | zero=>
  intro i hi x Aa Ad Ae
  obtain rfl:n=i:=by omega
  rw[lK_eq]
  simp -implicitDefEqProofs (disch:=omega) only[↓c20_1_eq,↓c20_2_eq,dcT,dcF,Aa,Ad,Ae,↓ret20,↓zAc,↓zAb,↓Option.bind_some,↓zAa,sxB,Nat.reduceBEq]
 | succ mm ih=>
  intro i hi x Aa Ad Ae
  rw[lK_eq]
  have hw:IntKind.wrap .i64 ((i:Int)+1)=((i+1:Nat):Int):=by rw[wrap_i64]<;>omega
  have cv:=fun h=>cvUint (i:Int) h (by omega) (by omega)
  have e1:=fun t xo yo=>shlS t xo yo i (by omega)
  have e2:=fun t xo yo=>orS t xo yo (allN i) (2^i) (allN_ltS (by omega)) (Nat.pow_lt_pow_right (by omega) (by omega))
  rw[allN_succS] at e2
  simp -implicitDefEqProofs (disch:=omega) only[↓c20_1_eq,dcT,dcF,Aa,Ad,Ae,cv,e1,e2,hw,↓zAc,↓zAb,↓Option.bind_some,↓zAa,sxB,Nat.reduceBEq]
  exact ih (i+1) (by omega) _ Aa rfl rfl
theorem spec_AllOfS (n:Nat) (hn:n<=16) (h:Heap):evC Tryz.prog 20 #[.int .i64 n] h=some (.int .u64 (allN n:Nat),h):=by
 rw[call20]
 simp -implicitDefEqProofs (disch:=omega) only[↓c20_0_eq,↓zAc,↓zAb,↓Option.bind_some,↓zAa,sxB,Nat.reduceBEq]
 exact allofS_loop (h0:=h) (h:=nm h) hn n 0 (by omega) _ rfl rfl rfl
def bitsTo (s k:Nat):List Nat:=(List.range k).filter fun (i:Nat)=>s.testBit i
theorem bitsTo_succ (s k:Nat):bitsTo s (k+1)=bitsTo s k++(if s.testBit k=true then [k] else []):=by
 unfold bitsTo
 rw[List.range_succ,List.filter_append]
 congr 1
 by_cases h:s.testBit k=true
 ·rw[if_pos h];simp[h]
 ·rw[if_neg h];simp[h]
theorem bitsTo_len (s k:Nat):(bitsTo s k).length<=k:=by
 unfold bitsTo
 exact Nat.le_trans (List.length_filter_le ..) (by simp)
theorem listS_loop {h0:Heap} {s:Nat} (hs:s<2^64):∀(mm i:Nat),64=i+mm->∀(x:Nat->Value) (h:Heap) (a:Option Addr) (c:Nat),In h0.blks.length No (nm h0) h->AI h0.blks.length h (.slice a (bitsTo s i).length c) (bitsTo s i)->
  x 0=.int .u64 s->x 3=.slice a (bitsTo s i).length c->x 4=.int .i64 i->
  ∃a' c' h',lK c23_1 17 x h (zAu 0 (sK c23_2 (zBb Tryz.f23 Tryz.prog h0)))=some (.slice a' (bitsTo s 64).length c',done h0 h')/\In h0.blks.length No (nm h0) h'/\AI h0.blks.length h' (.slice a' (bitsTo s 64).length c') (bitsTo s 64):=by
 intro mm
 induction mm with
 | zero=>
  intro i hi x h a c hin ha Aa Ad Ae
  obtain rfl:i=64:=by omega
  rw[lK_eq]
  refine ⟨a,c,h,?_,hin,ha⟩
  simp -implicitDefEqProofs (disch:=omega) only[↓c23_1_eq,↓c23_2_eq,dcF,Aa,Ad,Ae,↓ret23,↓zAc,↓zAb,↓Option.bind_some,↓zAa,sxB,Nat.reduceBEq]
 | succ mm ih=>
  intro i hi x h a c hin ha Aa Ad Ae
  rw[lK_eq]
  have hw:IntKind.wrap .i64 ((i:Int)+1)=((i+1:Nat):Int):=by rw[wrap_i64]<;>omega
  have hh:=spec_In s hs (i:Int) h
  have hb:=bitsTo_succ s i
  have hbl:=bitsTo_len s i
  have e0:hasB s (i:Int)=s.testBit i:=by unfold hasB;rw[decide_eq_true (by omega),Int.toNat_natCast];rfl
  rw[e0] at hh
  cases hv:s.testBit i with
  | true=>
   rw[hv] at hh
   rw[hv,if_pos rfl] at hb
   obtain ⟨a',c',h2,g1,g2,g3,g4⟩:=app_int (Nat.le_trans hin.le hin.len) ha i (by omega)
   rw[<-hb] at g1 g2
   have k1:=mkI1 (i:Nat) h
   simp -implicitDefEqProofs (disch:=omega) only[↓c23_1_eq,dcT,Aa,Ad,Ae,hh,k1,g1,hw,↓zAc,↓zAb,↓Option.bind_some,↓zAa,sxB,Nat.reduceBEq]
   exact ih (i+1) (by omega) _ h2 a' c' (hin.trans (Keeps.inn (S:=No) g3)) g2 Aa rfl rfl
  | false=>
   rw[hv] at hh
   rw[hv,if_neg (by simp),List.append_nil] at hb
   rw[<-hb] at ha Ad
   simp -implicitDefEqProofs (disch:=omega) only[↓c23_1_eq,dcT,Aa,Ae,hh,hw,↓zAc,↓zAb,↓Option.bind_some,↓zAa,sxB,Nat.reduceBEq]
   exact ih (i+1) (by omega) _ h a c hin ha Aa Ad rfl
theorem spec_ListS (s:Nat) (hs:s<2^64) (h:Heap):∃a c h',evC Tryz.prog 23 #[.int .u64 s] h=some (.slice a (bitsTo s 64).length c,h')/\HExt h h'/\AI h.blks.length h' (.slice a (bitsTo s 64).length c) (bitsTo s 64):=by
 rw[call23]
 have lp:=listS_loop (h0:=h) hs 64 0 (by omega)
 have fin':∀ {r:Option (Value × Heap)},(∃a c h',r=some (.slice a (bitsTo s 64).length c,done h h')/\In h.blks.length No (nm h) h'/\AI h.blks.length h' (.slice a (bitsTo s 64).length c) (bitsTo s 64))->∃a c h',r=some (.slice a (bitsTo s 64).length c,h')/\HExt h h'/\AI h.blks.length h' (.slice a (bitsTo s 64).length c) (bitsTo s 64):=fun ⟨a,c,h',q1,q2,q3⟩=>⟨a,c,_,q1,zAl q2,Acc.done q3⟩
 simp -implicitDefEqProofs (disch:=omega) only[↓c23_0_eq,↓zAc,↓zAb,↓Option.bind_some,↓zAa,sxB,Nat.reduceBEq]
 refine fin' (lp _ _ none 0 (In.refl (Nat.le_refl _)) .nil ?_ ?_ ?_)
 all_goals rfl
end Go.Am
namespace Go.Am
open Go.Proofs
set_option maxRecDepth 100000
set_option linter.all false
attribute [local congr] zAf zAq zAr zAs zAj zAg
abbrev boV (b:Bool):Value:=.bool b
abbrev SBo (h:Heap) (v:Value) (l:List Bool):Prop:=Sl Tryz.prog h 1 v l.length (l.map boV)
abbrev ABo (n0:Nat) (h:Heap) (v:Value) (l:List Bool):Prop:=Acc n0 h 4 1 v l.length (l.map boV)
theorem etBo:ElemT Tryz.prog 71 4 1 1 (.bool false):=⟨by kernel_rfl,by kernel_rfl,by kernel_rfl,by kernel_rfl,by omega,rfl,rfl⟩
theorem lnBo (a:Option Addr) (n c:Nat) (h:Heap):lenV Tryz.prog 71 (.slice a n c) h=some (.int .i64 n):=by kernel_rfl
theorem stBo1 (p o:Nat) (b:Bool) (h:Heap):zBc Tryz.prog 4 (.pointer (some ⟨p,o,none⟩)) (.bool b) h=h.storeN p o [.bool b]:=by kernel_rfl
theorem sbo_at {h:Heap} {v:Value} {l:List Bool} (s:SBo h v l) {i:Nat} (hi:i<l.length) :
  ∃a,zAh Tryz.prog 71 v (.int .i64 i)=some (.pointer (some a))/\zAw Tryz.prog 4 (.pointer (some a)) h=some (.bool (l.getD i false)):=by
 obtain ⟨a,e1,e2,_⟩:=s.row.at1 etBo.under etBo.size (by kernel_rfl) hi .i64
 refine ⟨a,e1,?_⟩
 rw[e2,List.getElem?_map,List.getElem?_eq_getElem hi,List.getD_eq_getElem?_getD,List.getElem?_eq_getElem hi];rfl
theorem spec_has {h:Heap} {v:Value} {l:List Bool} (s:SBo h v l) (i:Nat):evC Tryz.prog 60 #[v,.int .i64 i] h=some (.bool (l.getD i false),h):=by
 rw[call60]
 obtain ⟨a,c,rfl⟩:=s.shape
 by_cases hi:i<l.length
 ·obtain ⟨ad,e1,e2⟩:=sbo_at (Sl.nm s) hi
  simp -implicitDefEqProofs (disch:=omega) only[↓c60_0_eq,dcT,lnBo,e1,e2,↓ret60,↓zAc,↓zAb,↓Option.bind_some,↓zAa,sxB,Nat.reduceBEq]
 ·have e:l.getD i false=false:=by rw[List.getD_eq_getElem?_getD,List.getElem?_eq_none (by omega)];rfl
  rw[e]
  simp -implicitDefEqProofs (disch:=omega) only[↓c60_0_eq,dcT,dcF,lnBo,↓ret60,↓zAc,↓zAb,↓Option.bind_some,↓zAa,sxB,Nat.reduceBEq]
def bothN (a b:List Bool) (one:Nat):Nat:=max (max (one+1) a.length) b.length
def bothF1 (a b:List Bool) (one:Nat) (i:Nat):Bool:=a.getD i false || (b.getD i false || decide (i=one))
def bothL (a b:List Bool) (one:Nat):List Bool:=(List.range (bothN a b one)).map (bothF1 a b one)
theorem bothL_len (a b:List Bool) (one:Nat):(bothL a b one).length=bothN a b one:=by unfold bothL;rw[List.length_map,List.length_range]
theorem bothL_get (a b:List Bool) (one i:Nat):(bothL a b one).getD i false=bothF1 a b one i:=by
 rw[List.getD_eq_getElem?_getD]
 unfold bothL
 rw[List.getElem?_map]
 by_cases h:i<bothN a b one
 ·rw[List.getElem?_range h];rfl
 ·rw[List.getElem?_eq_none (by rw[List.length_range];omega)]
  unfold bothN at h
  unfold bothF1
  rw[List.getD_eq_getElem?_getD,List.getD_eq_getElem?_getD,List.getElem?_eq_none (by omega:a.length<=i),List.getElem?_eq_none (by omega:b.length<=i),decide_eq_false (by omega)]
  rfl
def bothP (a b:List Bool) (one N i:Nat):List Value:=(List.range N).map fun k=>if k<i then .bool (bothF1 a b one k) else .bool false
theorem dec_nat (i one:Nat):decide ((i:Int)=(one:Int))=decide (i=one):=by
 by_cases h:i=one
 ·rw[decide_eq_true h,decide_eq_true (by omega)]
 ·rw[decide_eq_false h,decide_eq_false (by omega)]
theorem both_loop {h0:Heap} {va vb:Value} {a b:List Bool} {one N q:Nat} (hN:N<2^40) (hq:h0.blks.length<=q) :
  ∀(m i:Nat) (h:Heap),N=i+m->SBo h va a->SBo h vb b->Cells h q 4 (bothP a b one N i)->(∀b,zAn va=some b->b<q)->(∀b,zAn vb=some b->b<q)->In h0.blks.length No (nm h0) h->∀x:Nat->Value,x 0=va->x 1=vb->x 2=.int .i64 one->x 7=.int .i64 N->x 8=.slice (some ⟨q,0,none⟩) N N->x 9=.int .i64 i->
  ∃h',lK c58_1 48 x h (zAu 0 (sK c58_2 (zBb Tryz.f58 Tryz.prog h0)))=some (.slice (some ⟨q,0,none⟩) N N,h')/\HExt h0 h'/\Cells h' q 4 (bothP a b one N N):=by
 intro m
 induction m with
 | zero=>
  intro i h hi sa sb c ha hb hin x Aa Ab Ac Ah Ai Aj
  obtain rfl:i=N:=by omega
  rw[lK_eq]
  refine ⟨_,?_,zAl hin,c.done⟩
  simp -implicitDefEqProofs (disch:=omega) only[↓c58_1_eq,↓c58_2_eq,dcF,Ah,Ai,Aj,↓ret58,↓zAc,↓zAb,↓Option.bind_some,↓zAa,sxB,Nat.reduceBEq]
 | succ m ih=>
  intro i h hi sa sb c ha hb hin x Aa Ab Ac Ah Ai Aj
  rw[lK_eq]
  have hlt:i<N:=by omega
  have q1:=spec_has sa i
  have q2:=spec_has sb i
  have wi:IntKind.i64.wrap ((i:Int)+1)=((i+1:Nat):Int):=by rw[wrap_i64]<;>omega
  have ia:zAh Tryz.prog 71 (.slice (some ⟨q,0,none⟩) N N) (.int .i64 i)=some (.pointer (some ⟨q,i,none⟩)):=by
   unfold zAh
   simp only[etBo.under,zBq,etBo.size]
   rw[if_pos hlt]
   simp
  have st:=zAp c (o:=i) (vs:=[.bool (bothF1 a b one i)]) (by simp[bothP];omega)
  have es:(bothP a b one N i).take i++[.bool (bothF1 a b one i)]++(bothP a b one N i).drop (i+[Value.bool (bothF1 a b one i)].length)=bothP a b one N (i+1):=by
   apply List.ext_getElem?
   intro j
   unfold bothP
   simp only[List.getElem?_append,List.length_append,List.length_take,List.length_map,List.length_range,List.length_singleton,List.getElem?_take,List.getElem?_map,List.getElem?_drop]
   rw[Nat.min_eq_left (by omega)]
   rcases Nat.lt_trichotomy j i with h | h | h
   ·rw[if_pos (by omega),if_pos h,if_pos h,List.getElem?_range (by omega)]
    simp only[Option.map_some,if_pos h,if_pos (show j<i+1 by omega)]
   ·subst h
    rw[if_pos (by omega),if_neg (by omega),Nat.sub_self,List.getElem?_range hlt]
    simp
   ·rw[if_neg (by omega),show i+1+(j-(i+1))=j by omega]
    by_cases hj:j<N
    ·rw[List.getElem?_range hj]
     simp only[Option.map_some,if_neg (show ¬j<i by omega),if_neg (show ¬j<i+1 by omega)]
    ·rw[List.getElem?_eq_none (by rw[List.length_range];omega)];rfl
  rw[es] at st
  have key:∀(r1 r2 r3:Bool),r1=a.getD i false->r2=b.getD i false->r3=decide ((i:Int)=one)->(r1 || (r2 || r3))=bothF1 a b one i:=fun r1 r2 r3 h1 h2 h3=>by
   subst h1 h2 h3
   unfold bothF1
   rw[dec_nat]
  have fin:=ih (i+1) _ (by omega) (sa.keepPut (fun e=>by have:=ha q e;omega) _) (sb.keepPut (fun e=>by have:=hb q e;omega) _) (c.put (bothP a b one N (i+1))) ha hb (hin.trans (In.put (S:=No) (Nat.le_trans hin.le hin.len) (p:=q) (.inl hq) (.cells (bothP a b one N (i+1)))))
  cases h1:a.getD i false with
  | true=>
   rw[h1] at q1
   have hk:bothF1 a b one i=true:=by unfold bothF1;rw[h1];rfl
   rw[hk] at st
   simp -implicitDefEqProofs (disch:=omega) only[↓c58_1_eq,dcT,Aa,Ab,Ac,Ah,Ai,Aj,q1,ia,stBo1,st,wi,↓zAc,↓zAb,↓Option.bind_some,↓zAa,sxB,Nat.reduceBEq]
   exact fin _ Aa Ab Ac Ah Ai rfl
  | false=>
   rw[h1] at q1
   cases h2:b.getD i false with
   | true=>
    rw[h2] at q2
    have hk:bothF1 a b one i=true:=by unfold bothF1;rw[h1,h2];rfl
    rw[hk] at st
    simp -implicitDefEqProofs (disch:=omega) only[↓c58_1_eq,dcT,Aa,Ab,Ac,Ah,Ai,Aj,q1,q2,ia,stBo1,st,wi,↓zAc,↓zAb,↓Option.bind_some,↓zAa,sxB,Nat.reduceBEq]
    exact fin _ Aa Ab Ac Ah Ai rfl
   | false=>
    rw[h2] at q2
    have hk:decide ((i:Int)=one)=bothF1 a b one i:=by
     unfold bothF1
     rw[h1,h2,dec_nat];rfl
    simp -implicitDefEqProofs (disch:=omega) only[↓c58_1_eq,dcT,Aa,Ab,Ac,Ah,Ai,Aj,q1,q2,hk,ia,stBo1,st,wi,↓zAc,↓zAb,↓Option.bind_some,↓zAa,sxB,Nat.reduceBEq]
    exact fin _ Aa Ab Ac Ah Ai rfl
theorem mkBoN (m:Nat) (hm:m<2^40) (h:Heap):zBd Tryz.prog 71 (.int .i64 m) (.int .i64 m) h=some (.slice (some ⟨h.blks.length,0,none⟩) m m,h.new (.cells (List.replicate m (.bool false))) 4):=by
 unfold zBd
 simp only[etBo.under,zBq,etBo.size,etBo.bytes,etBo.zero]
 rw[if_pos ⟨Nat.le_refl _,by omega,by omega,by omega,etBo.zs,etBo.zg⟩]
 have e:((Array.range (m*1)).map fun x=>(Value.bool false).cells[x % (Value.bool false).cells.size]!).toList=List.replicate m (.bool false):=by
  rw[show (Value.bool false).cells=#[.bool false] from rfl,Nat.mul_one]
  have e:(fun x:Nat=>(#[Value.bool false]:Array Value)[x % (#[Value.bool false]:Array Value).size]!)=fun _=>.bool false:=by
   funext i
   have:i % (#[Value.bool false]:Array Value).size=0:=Nat.mod_one i
   rw[this];rfl
  rw[e]
  simp[List.map_const']
 rw[e]
theorem spec_both {h:Heap} {va vb:Value} {a b:List Bool} (sa:SBo h va a) (sb:SBo h vb b) (one:Nat) (ho:one<2^39) (hla:a.length<2^39) (hlb:b.length<2^39) :
  ∃v h',evC Tryz.prog 58 #[va,vb,.int .i64 one] h=some (v,h')/\HExt h h'/\ABo h.blks.length h' v (bothL a b one)/\∃x n c,v=.slice x n c:=by
 rw[call58]
 obtain ⟨aa,ac,rfl⟩:=sa.shape
 obtain ⟨ba,bc,rfl⟩:=sb.shape
 have wi:IntKind.i64.wrap ((one:Int)+1)=((one+1:Nat):Int):=by rw[wrap_i64]<;>omega
 have e0:(nm h).blks.length=h.blks.length:=rfl
 have go:∀N,N=bothN a b one->∀x:Nat->Value,x 0=.slice aa a.length ac->x 1=.slice ba b.length bc->x 2=.int .i64 one->x 7=.int .i64 N->x 8=.slice (some ⟨h.blks.length,0,none⟩) N N->x 9=.int .i64 (0:Nat)->
   ∃v h',lK c58_1 48 x ((nm h).new (.cells (List.replicate N (.bool false))) 4) (zAu 0 (sK c58_2 (zBb Tryz.f58 Tryz.prog h)))=some (v,h')/\HExt h h'/\ABo h.blks.length h' v (bothL a b one)/\∃x n c,v=.slice x n c:=by
  intro N hN x Aa Ab Ac Ah Ai Aj
  have hlN:N<2^40:=by rw[hN];unfold bothN;omega
  have c0:=Cells.new (nm h) 4 (List.replicate N (.bool false))
  rw[e0,show List.replicate N (Value.bool false)=bothP a b one N 0 by unfold bothP;simp[List.map_const']] at c0
  rw[show List.replicate N (Value.bool false)=bothP a b one N 0 by unfold bothP;simp[List.map_const']]
  obtain ⟨h',q1,q2,q3⟩:=both_loop (h0:=h) (va:=.slice aa a.length ac) (vb:=.slice ba b.length bc) (a:=a) (b:=b) (one:=one) hlN (Nat.le_refl _) N 0 _ (by omega) (Sl.keepNew (Sl.nm sa) _ _) (Sl.keepNew (Sl.nm sb) _ _) c0 (fun q hq=>sa.lt hq) (fun q hq=>sb.lt hq) (In.new (h:=nm h) (Nat.le_refl h.blks.length) _ _) x Aa Ab Ac Ah Ai Aj
  refine ⟨_,h',q1,q2,?_,⟨_,_,_,rfl⟩⟩
  have e1:bothP a b one N N=(bothL a b one).map boV:=by
   unfold bothP bothL
   rw[<-hN,List.map_map]
   refine List.map_congr_left fun k hk=>?_
   rw[if_pos (List.mem_range.1 hk)];rfl
  rw[e1] at q3
  have e2:(bothL a b one).length=N:=by rw[bothL_len,hN]
  unfold ABo
  rw[e2]
  exact .full (Nat.le_refl _) (by omega) q3 (by rw[List.length_map,e2];omega) (by rw[List.drop_zero,Nat.mul_one,List.take_of_length_le (by rw[List.length_map,e2];exact Nat.le_refl _)])
 by_cases g1:(a.length:Int)>((one+1:Nat):Int)
 ·by_cases g2:(b.length:Int)>(a.length:Int)
  ·have mk:=mkBoN b.length (by omega) (nm h)
   rw[e0] at mk
   simp -implicitDefEqProofs (disch:=omega) only[↓c58_0_eq,dcT,wi,lnBo,mk,↓zAc,↓zAb,↓Option.bind_some,↓zAa,sxB,Nat.reduceBEq]
   refine go b.length (by unfold bothN;omega) _ ?_ ?_ ?_ ?_ ?_ ?_
   all_goals rfl
  ·have mk:=mkBoN a.length (by omega) (nm h)
   rw[e0] at mk
   simp -implicitDefEqProofs (disch:=omega) only[↓c58_0_eq,dcT,dcF,wi,lnBo,mk,↓zAc,↓zAb,↓Option.bind_some,↓zAa,sxB,Nat.reduceBEq]
   refine go a.length (by unfold bothN;omega) _ ?_ ?_ ?_ ?_ ?_ ?_
   all_goals rfl
 ·by_cases g2:(b.length:Int)>((one+1:Nat):Int)
  ·have mk:=mkBoN b.length (by omega) (nm h)
   rw[e0] at mk
   simp -implicitDefEqProofs (disch:=omega) only[↓c58_0_eq,dcT,dcF,wi,lnBo,mk,↓zAc,↓zAb,↓Option.bind_some,↓zAa,sxB,Nat.reduceBEq]
   refine go b.length (by unfold bothN;omega) _ ?_ ?_ ?_ ?_ ?_ ?_
   all_goals rfl
  ·have mk:=mkBoN (one+1) (by omega) (nm h)
   rw[e0] at mk
   simp -implicitDefEqProofs (disch:=omega) only[↓c58_0_eq,dcT,dcF,wi,lnBo,mk,↓zAc,↓zAb,↓Option.bind_some,↓zAa,sxB,Nat.reduceBEq]
   refine go (one+1) (by unfold bothN;omega) _ ?_ ?_ ?_ ?_ ?_ ?_
   all_goals rfl
end Go.Am
namespace Go.Am
open Go.Proofs
set_option maxRecDepth 100000
set_option linter.all false
attribute [local congr] zAf zAq zAr zAs zAj zAg
structure SM4 where
 f:Nat
 num:Nat
 to:Nat
 ah:List Bool
def smC (m:SM4) (av:Value):List Value:=[.int .i64 m.f,.int .u64 m.num,.int .u64 m.to,av]
structure PaV (n0:Nat) (h:Heap) (p kb gb n:Nat) (ms:List SM4) (kn:Nat->List Bool) (gt:Nat->List Nat):Prop where
 c:∃lv,Cells h p 78 [.int .i64 n,lv,.slice (some ⟨kb,0,none⟩) n n,.slice (some ⟨gb,0,none⟩) n n]/\∃avs,Acc n0 h 73 4 lv ms.length (List.zipWith smC ms avs).flatten/\All2 (fun av m=>ABo 0 h av m.ah) avs ms
 kn:∃kv:Nat->Value,Cells h kb 71 ((List.range n).map kv)/\∀i,i<n->ABo 0 h (kv i) (kn i)
 gt:∃gv:Nat->Value,Cells h gb 68 ((List.range n).map gv)/\∀i,i<n->AI 0 h (gv i) (gt i)
 lo:n0<=p/\n0<=kb/\n0<=gb
def PaTy (ty:TypeId):Prop:=ty=78\/ty=73\/ty=4\/ty=71\/ty=68\/ty=3
section
variable {n0:Nat} {h h':Heap} {p kb gb n:Nat} {ms:List SM4} {kn:Nat->List Bool} {gt:Nat->List Nat}
theorem PaV.kp (A:PaV n0 h p kb gb n ms kn gt) (k:∀(b:Nat) (all:List Value) (ty:TypeId),h.blks[b]?=some ⟨.cells all,ty,true⟩->PaTy ty->h'.blks[b]?=h.blks[b]?):PaV n0 h' p kb gb n ms kn gt:=by
 have acc:∀ {n1:Nat} {el:TypeId} {es m:Nat} {v:Value} {cs:List Value},Acc n1 h el es v m cs->PaTy el->Acc n1 h' el es v m cs:=fun a t=>a.keep fun b _ hb=>by obtain ⟨all,hh⟩:=a.blk hb;exact k b all _ hh t
 obtain ⟨lv,c,avs,a,bs⟩:=A.c
 obtain ⟨kv,kc,ka⟩:=A.kn
 obtain ⟨gv,gc,ga⟩:=A.gt
 exact ⟨⟨lv,(k _ _ _ c (.inl rfl)).trans c,avs,acc a (.inr (.inl rfl)),bs.mono fun _ _ x=>acc x (.inr (.inr (.inl rfl)))⟩,⟨kv,(k _ _ _ kc (.inr (.inr (.inr (.inl rfl))))).trans kc,fun i hi=>acc (ka i hi) (.inr (.inr (.inl rfl)))⟩,
  ⟨gv,(k _ _ _ gc (.inr (.inr (.inr (.inr (.inl rfl)))))).trans gc,fun i hi=>acc (ga i hi) (.inr (.inr (.inr (.inr (.inr rfl)))))⟩,A.lo⟩
theorem PaV.same (A:PaV n0 h p kb gb n ms kn gt) (e:Same h h'):PaV n0 h' p kb gb n ms kn gt:=A.kp fun b _ _ hb _=>e.2 b (List.getElem?_eq_some_iff.1 hb).1
end
theorem All2.lenQ {α β:Type} {R:α->β->Prop} {l:List α} {m:List β} (h:All2 R l m):l.length=m.length:=by
 induction h with
 | nil=>rfl
 | cons _ _ ih=>simp[ih]
theorem flat4S:∀(l:List SM4) (avs:List Value) (i k:Nat),k<4->l.length=avs.length->(hi:i<l.length)->(hb:i<avs.length)->(List.zipWith smC l avs).flatten[i*4+k]?=(smC l[i] avs[i])[k]?
 | [],_,i,k,_,_,hi,_=>by simp at hi
 | _::_,[],i,k,_,hl,_,_=>by simp at hl
 | p::l,v::bvs,0,k,hk,hl,hi,hb=>by
  simp only[List.zipWith_cons_cons,List.flatten_cons,Nat.zero_mul,Nat.zero_add,List.getElem_cons_zero]
  rw[List.getElem?_append_left (by simpa [smC] using hk)]
 | p::l,v::bvs,i+1,k,hk,hl,hi,hb=>by
  simp only[List.zipWith_cons_cons,List.flatten_cons,List.getElem_cons_succ]
  rw[List.getElem?_append_right (by simp[smC];omega)]
  have:(i+1)*4+k-(smC p v).length=i*4+k:=by simp[smC];omega
  rw[this]
  exact flat4S l bvs i k hk (by simpa using hl) (by simpa using hi) (by simpa using hb)
theorem faPa1 (p:Nat):zAe Tryz.prog 78 (.pointer (some ⟨p,0,none⟩)) 1=some (.pointer (some ⟨p,1,none⟩)):=by kernel_rfl
theorem faPa2 (p:Nat):zAe Tryz.prog 78 (.pointer (some ⟨p,0,none⟩)) 2=some (.pointer (some ⟨p,2,none⟩)):=by kernel_rfl
theorem faPa3 (p:Nat):zAe Tryz.prog 78 (.pointer (some ⟨p,0,none⟩)) 3=some (.pointer (some ⟨p,3,none⟩)):=by kernel_rfl
theorem faSe0 (b o:Nat):zAe Tryz.prog 73 (.pointer (some ⟨b,o,none⟩)) 0=some (.pointer (some ⟨b,o,none⟩)):=by kernel_rfl
theorem faSe1 (b o:Nat):zAe Tryz.prog 73 (.pointer (some ⟨b,o,none⟩)) 1=some (.pointer (some ⟨b,o+1,none⟩)):=by kernel_rfl
theorem faSe2 (b o:Nat):zAe Tryz.prog 73 (.pointer (some ⟨b,o,none⟩)) 2=some (.pointer (some ⟨b,o+2,none⟩)):=by kernel_rfl
theorem faSe3 (b o:Nat):zAe Tryz.prog 73 (.pointer (some ⟨b,o,none⟩)) 3=some (.pointer (some ⟨b,o+3,none⟩)):=by kernel_rfl
theorem ldSeS (p o:Nat) (h:Heap):zAw Tryz.prog 74 (.pointer (some ⟨p,o,none⟩)) h=h.load1 p o:=by kernel_rfl
theorem ldGot (p o:Nat) (h:Heap):zAw Tryz.prog 76 (.pointer (some ⟨p,o,none⟩)) h=h.load1 p o:=by kernel_rfl
theorem ldKnw (p o:Nat) (h:Heap):zAw Tryz.prog 75 (.pointer (some ⟨p,o,none⟩)) h=h.load1 p o:=by kernel_rfl
theorem ldIr (p o:Nat) (h:Heap):zAw Tryz.prog 68 (.pointer (some ⟨p,o,none⟩)) h=h.load1 p o:=by kernel_rfl
theorem ldBr (p o:Nat) (h:Heap):zAw Tryz.prog 71 (.pointer (some ⟨p,o,none⟩)) h=h.load1 p o:=by kernel_rfl
theorem lnSe (a:Option Addr) (n c:Nat) (h:Heap):lenV Tryz.prog 74 (.slice a n c) h=some (.int .i64 n):=by kernel_rfl
theorem lnIr (a:Option Addr) (n c:Nat) (h:Heap):lenV Tryz.prog 68 (.slice a n c) h=some (.int .i64 n):=by kernel_rfl
theorem iaGt (b N i:Nat) (hi:i<N):zAh Tryz.prog 76 (.slice (some ⟨b,0,none⟩) N N) (.int .i64 i)=some (.pointer (some ⟨b,i,none⟩)):=by
 have hu:Tryz.prog.underlying 76=some (.slice 68):=by kernel_rfl
 have hs:sizeT Tryz.prog 68=some 1:=by kernel_rfl
 unfold zAh
 simp only[hu,zBq,hs]
 rw[if_pos hi]
 simp
theorem iaKn (b N i:Nat) (hi:i<N):zAh Tryz.prog 75 (.slice (some ⟨b,0,none⟩) N N) (.int .i64 i)=some (.pointer (some ⟨b,i,none⟩)):=by
 have hu:Tryz.prog.underlying 75=some (.slice 71):=by kernel_rfl
 have hs:sizeT Tryz.prog 71=some 1:=by kernel_rfl
 unfold zAh
 simp only[hu,zBq,hs]
 rw[if_pos hi]
 simp
section
variable {n0:Nat} {h:Heap} {p kb gb n:Nat} {ms:List SM4} {kn:Nat->List Bool} {gt:Nat->List Nat}
theorem PaV.at (A:PaV n0 h p kb gb n ms kn gt):∃la lc,h.load1 p 1=some (.slice la ms.length lc)/\∀i (hi:i<ms.length),∃b o aa ac,zAh Tryz.prog 74 (.slice la ms.length lc) (.int .i64 i)=some (.pointer (some ⟨b,o,none⟩))/\h.load1 b o=some (.int .i64 ms[i].f)/\h.load1 b (o+1)=some (.int .u64 ms[i].num)/\h.load1 b (o+2)=some (.int .u64 ms[i].to)/\h.load1 b (o+3)=some (.slice aa ms[i].ah.length ac)/\ABo 0 h (.slice aa ms[i].ah.length ac) ms[i].ah:=by
 obtain ⟨lv,c,avs,a,bs⟩:=A.c
 obtain ⟨la,lc,rfl⟩:=a.shape
 refine ⟨la,lc,c.load 1,fun i hi=>?_⟩
 have hl:=bs.lenQ
 have r:=a.row
 have hu:Tryz.prog.underlying 74=some (.slice 73):=by kernel_rfl
 have hs:sizeT Tryz.prog 73=some 4:=by kernel_rfl
 generalize hn:ms.length=m at r
 generalize hcs:(List.zipWith smC ms avs).flatten=cs at r
 cases r with
 | nil=>omega
 | mk hld=>
  rename_i b o
  rw[<-hn,<-hcs] at hld
  have get:∀k,k<4->h.load1 b (o+i*4+k)=(smC ms[i] avs[i])[k]?:=fun k hk=>by
   rw[Nat.add_assoc,loadN_get hld (by omega),flat4S ms avs i k hk hl.symm hi (by omega)]
  obtain ⟨q,hq,ha⟩:=bs.get (i:=i) (a:=avs[i]) (List.getElem?_eq_getElem (by omega))
  obtain rfl:ms[i]=q:=by rw[List.getElem?_eq_getElem hi] at hq;exact Option.some.inj hq
  have g3:=get 3 (by omega)
  obtain ⟨aa,ac,e⟩:∃aa ac,avs[i]=.slice aa ms[i].ah.length ac:=Acc.shape ha
  rw[e] at g3 ha
  refine ⟨b,o+i*4,aa,ac,?_,get 0 (by omega),get 1 (by omega),get 2 (by omega),g3,ha⟩
  unfold zAh
  simp only[hu,zBq,hs]
  rw[if_pos (by omega)]
theorem PaV.got (A:PaV n0 h p kb gb n ms kn gt) {i:Nat} (hi:i<n):h.load1 p 3=some (.slice (some ⟨gb,0,none⟩) n n)/\∃a c,h.load1 gb i=some (.slice a (gt i).length c)/\AI 0 h (.slice a (gt i).length c) (gt i):=by
 obtain ⟨lv,c,_⟩:=A.c
 obtain ⟨gv,gc,ga⟩:=A.gt
 have x:=ga i hi
 obtain ⟨a,cc,e⟩:∃a cc,gv i=.slice a (gt i).length cc:=Acc.shape x
 rw[e] at x
 refine ⟨c.load 3,a,cc,?_,x⟩
 rw[gc.load i,List.getElem?_map,List.getElem?_range hi,<-e];rfl
theorem PaV.knw (A:PaV n0 h p kb gb n ms kn gt) {i:Nat} (hi:i<n):h.load1 p 2=some (.slice (some ⟨kb,0,none⟩) n n)/\∃a c,h.load1 kb i=some (.slice a (kn i).length c)/\ABo 0 h (.slice a (kn i).length c) (kn i):=by
 obtain ⟨lv,c,_⟩:=A.c
 obtain ⟨gv,gc,ga⟩:=A.kn
 have x:=ga i hi
 obtain ⟨a,cc,e⟩:∃a cc,gv i=.slice a (kn i).length cc:=Acc.shape x
 rw[e] at x
 refine ⟨c.load 2,a,cc,?_,x⟩
 rw[gc.load i,List.getElem?_map,List.getElem?_range hi,<-e];rfl
theorem taken_loop {h0:Heap} (A:PaV n0 h p kb gb n ms kn gt) {at' m:Nat} (ha:at'<n) (hl:(gt at').length<2^40) :
  ∀(mm i:Nat),(gt at').length=i+mm->∀x:Nat->Value,x 0=.pointer (some ⟨p,0,none⟩)->x 1=.int .i64 at'->x 2=.int .i64 m->x 7=.int .i64 i->
  lK c59_1 32 x h (zAu 0 (sK c59_2 (zBb Tryz.f59 Tryz.prog h0)))=some (.bool (((gt at').drop i).any fun k=>decide (k=m)),done h0 h):=by
 intro mm
 obtain ⟨l3,a,c,l1,ai⟩:=A.got ha
 have i1:=iaGt gb n at' ha
 induction mm with
 | zero=>
  intro i hi x Aa Ab Ac Ah
  obtain rfl:i=(gt at').length:=by omega
  rw[lK_eq,List.drop_length]
  simp -implicitDefEqProofs (disch:=omega) only[↓c59_1_eq,↓c59_2_eq,dcF,Aa,Ab,Ac,Ah,zAt,faPa3,ldGot,l3,i1,ldIr,l1,lnIr,↓ret59,↓zAc,↓zAb,↓Option.bind_some,↓zAa,sxB,Nat.reduceBEq]
  rfl
 | succ mm ih=>
  intro i hi x Aa Ab Ac Ah
  have hil:i<(gt at').length:=by omega
  rw[lK_eq,List.drop_eq_getElem_cons hil,List.any_cons]
  obtain ⟨ad,f1,f2⟩:=si_at (ai.sl etI.size) hil
  have wi:IntKind.i64.wrap ((i:Int)+1)=((i+1:Nat):Int):=by rw[wrap_i64]<;>omega
  by_cases hv:(gt at')[i]=m
  ·have d1:decide (((gt at')[i]:Int)=m)=true:=decide_eq_true (by omega)
   rw[decide_eq_true hv,Bool.true_or]
   simp -implicitDefEqProofs (disch:=omega) only[↓c59_1_eq,↓c59_2_eq,dcT,Aa,Ab,Ac,Ah,zAt,faPa3,ldGot,l3,i1,ldIr,l1,lnIr,f1,f2,d1,↓ret59,↓zAc,↓zAb,↓Option.bind_some,↓zAa,sxB,Nat.reduceBEq]
  ·have d1:decide (((gt at')[i]:Int)=m)=false:=decide_eq_false (by omega)
   rw[decide_eq_false hv,Bool.false_or]
   simp -implicitDefEqProofs (disch:=omega) only[↓c59_1_eq,dcT,Aa,Ab,Ac,Ah,zAt,faPa3,ldGot,l3,i1,ldIr,l1,lnIr,f1,f2,d1,wi,↓zAc,↓zAb,↓Option.bind_some,↓zAa,sxB,Nat.reduceBEq]
   exact ih (i+1) (by omega) _ Aa Ab Ac rfl
def tknB (l:List Nat) (m:Nat):Bool:=l.any fun k=>decide (k=m)
theorem tknB_iff {l:List Nat} {m:Nat}:tknB l m=true ↔ m∈l:=by
 unfold tknB
 rw[List.any_eq_true]
 exact ⟨fun ⟨x,h1,h2⟩=>by rw[decide_eq_true_eq] at h2;exact h2 ▸ h1,fun h=>⟨m,h,decide_eq_true rfl⟩⟩
theorem spec_Taken (A:PaV n0 h p kb gb n ms kn gt) {at' m:Nat} (ha:at'<n) (hl:(gt at').length<2^40):evC Tryz.prog 59 #[.pointer (some ⟨p,0,none⟩),.int .i64 at',.int .i64 m] h=some (.bool (tknB (gt at') m),h):=by
 rw[call59]
 have lp:=taken_loop (h0:=h) (m:=m) (A.same (sameNm h)) ha hl (gt at').length 0 (by omega)
 rw[List.drop_zero,done_nm] at lp
 simp -implicitDefEqProofs (disch:=omega) only[↓c59_0_eq,↓zAc,↓zAb,↓Option.bind_some,↓zAa,sxB,Nat.reduceBEq]
 refine lp _ ?_ ?_ ?_ ?_
 all_goals rfl
def cntQ (l:List SM4) (f:Nat):Nat:=(l.filter fun m=>decide (m.f=f)).length
def toOf (ms:List SM4) (k:Nat):Nat:=(ms.getD k ⟨0,0,0,[]⟩).to
def stopT (ms:List SM4) (ah:List Bool) (g:List Nat) (d k:Nat):Bool:=ah.getD k false && (hasB (toOf ms k) (d:Nat) && !tknB g k)
theorem toOf_at (ms:List SM4) {i:Nat} (hi:i<ms.length):toOf ms i=ms[i].to:=by unfold toOf;rw[List.getD_eq_getElem?_getD,List.getElem?_eq_getElem hi];rfl
theorem tcan_loop {h0:Heap} (A:PaV n0 h p kb gb n ms kn gt) {d m:Nat} (hd:d<n) (hm:m<ms.length) (hl:(gt d).length<2^40) (hml:ms.length<2^40) (hto:∀x∈ms,x.to<2^64) :
  ∀(mm i:Nat),ms.length=i+mm->∀x:Nat->Value,x 0=.pointer (some ⟨p,0,none⟩)->x 1=.int .i64 d->x 2=.int .i64 m->x 7=.int .i64 i->
  lK c24_1 63 x h (zAu 0 (sK c24_2 (zBb Tryz.f24 Tryz.prog h0)))=some (.bool (!(List.range' i mm).any (stopT ms ms[m].ah (gt d) d)),done h0 h):=by
 intro mm
 obtain ⟨la,lc,l1,at1⟩:=A.at
 obtain ⟨b,o,aa,ac,ib,b0,b1,b2,b3,bo⟩:=at1 m hm
 induction mm with
 | zero=>
  intro i hi x Aa Ab Ac Ah
  obtain rfl:i=ms.length:=by omega
  rw[lK_eq]
  simp -implicitDefEqProofs (disch:=omega) only[↓c24_1_eq,↓c24_2_eq,dcF,Aa,Ab,Ac,Ah,zAt,faPa1,ldSeS,l1,lnSe,↓ret24,↓zAc,↓zAb,↓Option.bind_some,↓zAa,sxB,Nat.reduceBEq]
  rfl
 | succ mm ih=>
  intro i hi x Aa Ab Ac Ah
  have hil:i<ms.length:=by omega
  rw[lK_eq,List.range'_succ,List.any_cons]
  obtain ⟨e,eo,_,_,ie,_,_,e2,_,_⟩:=at1 i hil
  have qh:=spec_has (bo.sl etBo.size) i
  have qi:=spec_In ms[i].to (hto _ (List.getElem_mem hil)) (d:Nat) h
  have qt:=spec_Taken (m:=i) A hd hl
  have wi:IntKind.i64.wrap ((i:Int)+1)=((i+1:Nat):Int):=by rw[wrap_i64]<;>omega
  have st:stopT ms ms[m].ah (gt d) d i=(ms[m].ah.getD i false && (hasB ms[i].to (d:Nat) && !tknB (gt d) i)):=by unfold stopT;rw[toOf_at ms hil]
  rw[st]
  cases h1:ms[m].ah.getD i false with
  | false=>
   rw[h1] at qh
   simp -implicitDefEqProofs (disch:=omega) only[↓c24_1_eq,dcT,Aa,Ab,Ac,Ah,zAt,faPa1,ldSeS,l1,lnSe,ib,faSe3,ldBr,b3,qh,wi,Bool.false_and,Bool.false_or,↓zAc,↓zAb,↓Option.bind_some,↓zAa,sxB,Nat.reduceBEq]
   exact ih (i+1) (by omega) _ Aa Ab Ac rfl
  | true=>
   rw[h1] at qh
   cases h2:hasB ms[i].to (d:Nat) with
   | false=>
    rw[h2] at qi
    simp -implicitDefEqProofs (disch:=omega) only[↓c24_1_eq,dcT,Aa,Ab,Ac,Ah,zAt,faPa1,ldSeS,l1,lnSe,ib,faSe3,ldBr,b3,qh,ie,faSe2,ldU,e2,qi,wi,Bool.true_and,Bool.false_and,Bool.false_or,↓zAc,↓zAb,↓Option.bind_some,↓zAa,sxB,Nat.reduceBEq]
    exact ih (i+1) (by omega) _ Aa Ab Ac rfl
   | true=>
    rw[h2] at qi
    cases h3:tknB (gt d) i with
    | true=>
     rw[h3] at qt
     simp -implicitDefEqProofs (disch:=omega) only[↓c24_1_eq,dcT,Aa,Ab,Ac,Ah,zAt,faPa1,ldSeS,l1,lnSe,ib,faSe3,ldBr,b3,qh,ie,faSe2,ldU,e2,qi,qt,wi,Bool.true_and,Bool.not_true,Bool.and_false,Bool.false_or,↓zAc,↓zAb,↓Option.bind_some,↓zAa,sxB,Nat.reduceBEq]
     exact ih (i+1) (by omega) _ Aa Ab Ac rfl
    | false=>
     rw[h3] at qt
     simp -implicitDefEqProofs (disch:=omega) only[↓c24_1_eq,dcT,Aa,Ab,Ac,Ah,zAt,faPa1,ldSeS,l1,lnSe,ib,faSe3,ldBr,b3,qh,ie,faSe2,ldU,e2,qi,qt,wi,Bool.true_and,Bool.not_false,Bool.true_or,↓ret24,↓zAc,↓zAb,↓Option.bind_some,↓zAa,sxB,Nat.reduceBEq]
def canTB (ms:List SM4) (M:SM4) (g:List Nat) (d m:Nat):Bool:=hasB M.to (d:Nat) && (!tknB g m && !(List.range' 0 ms.length).any (stopT ms M.ah g d))
theorem spec_TCan (A:PaV n0 h p kb gb n ms kn gt) {d m:Nat} (hd:d<n) (hm:m<ms.length) (hl:(gt d).length<2^40) (hml:ms.length<2^40) (hto:∀x∈ms,x.to<2^64):evC Tryz.prog 24 #[.pointer (some ⟨p,0,none⟩),.int .i64 d,.int .i64 m] h=some (.bool (canTB ms ms[m] (gt d) d m),h):=by
 rw[call24]
 have A0:=A.same (sameNm h)
 obtain ⟨la,lc,l1,at1⟩:=A0.at
 obtain ⟨b,o,aa,ac,ib,b0,b1,b2,b3,bo⟩:=at1 m hm
 have qi:=spec_In ms[m].to (hto _ (List.getElem_mem hm)) (d:Nat) (nm h)
 have qt:=spec_Taken (m:=m) A0 hd hl
 have lp:=tcan_loop (h0:=h) A0 hd hm hl hml hto ms.length 0 (by omega)
 rw[done_nm] at lp
 unfold canTB
 cases h1:hasB ms[m].to (d:Nat) with
 | false=>
  rw[h1] at qi
  simp -implicitDefEqProofs (disch:=omega) only[↓c24_0_eq,zAt,faPa1,ldSeS,l1,ib,faSe2,ldU,b2,qi,Bool.false_and,↓ret24,↓zAc,↓zAb,↓Option.bind_some,↓zAa,sxB,Nat.reduceBEq]
 | true=>
  rw[h1] at qi
  cases h2:tknB (gt d) m with
  | true=>
   rw[h2] at qt
   simp -implicitDefEqProofs (disch:=omega) only[↓c24_0_eq,zAt,faPa1,ldSeS,l1,ib,faSe2,ldU,b2,qi,qt,Bool.true_and,Bool.not_true,Bool.false_and,↓ret24,↓zAc,↓zAb,↓Option.bind_some,↓zAa,sxB,Nat.reduceBEq]
  | false=>
   rw[h2] at qt
   simp -implicitDefEqProofs (disch:=omega) only[↓c24_0_eq,zAt,faPa1,ldSeS,l1,ib,faSe2,ldU,b2,qi,qt,Bool.true_and,Bool.not_false,↓zAc,↓zAb,↓Option.bind_some,↓zAa,sxB,Nat.reduceBEq]
   refine lp _ ?_ ?_ ?_ ?_
   all_goals rfl
end
end Go.Am
namespace Go.Am
set_option maxRecDepth 100000
set_option linter.all false
structure TL (n:Nat) (X:Tr) (N:Nat) (rk:Nat->Nat->Nat) (V:Nat->Nat->Nat) (tk:Nat->Nat->Nat) (ms:List SM4) (kn:Nat->List Bool) (gt:Nat->List Nat):Prop where
 len:ms.length=N
 at':∀f j,j<X.c f->∃h:rk f j<ms.length,ms[rk f j].f=f/\ms[rk f j].num=j+1/\ms[rk f j].to=X.T f j
 inv:∀m (h:m<ms.length),ms[m].f<n/\∃j,j<X.c ms[m].f/\rk ms[m].f j=m
 ahd:∀f j,j<X.c f->∀f' j',j'<X.c f'->∀h:rk f j<ms.length,(ms[rk f j].ah).getD (rk f' j') false=decide (j'<X.A f j f')
 knw:∀i f j,i<n->j<X.c f->(kn i).getD (rk f j) false=decide (j<V i f)
 got:∀d f j,d<n->j<X.c f->(rk f j∈gt d ↔ ((X.T f j).testBit d=true/\j<tk d f))
 cnt:∀f,cntQ ms f=X.c f
 ahl:∀m (h:m<ms.length),ms[m].ah.length<=N
 knl:∀i,(kn i).length<=N
section
variable {n N:Nat} {X:Tr} {rk V tk:Nat->Nat->Nat} {es:Nat->List E3} {ms:List SM4} {kn:Nat->List Bool} {gt:Nat->List Nat}
theorem TL.can (t:TL n X N rk V tk ms kn gt) (G:GI n X N rk V tk es) (hn:n<=16) {a j d:Nat} (hj:j<X.c a) (hd:d<n) (hT:(X.T a j).testBit d=true) (hk:tk d a<=j) (h:rk a j<ms.length) :
  canTB ms ms[rk a j] (gt d) d (rk a j)=true ↔ CanT X tk a j d:=by
 obtain ⟨_,e1,e2,e3⟩:=t.at' a j hj
 have nt:tknB (gt d) (rk a j)=false:=by
  cases hb:tknB (gt d) (rk a j) with
  | false=>rfl
  | true=>
   have:=((t.got d a j hd hj).1 (tknB_iff.1 hb)).2
   omega
 unfold canTB
 rw[e3,hasB_natQ _ _ (by omega),hT,nt,Bool.true_and,Bool.not_false,Bool.true_and,Bool.not_eq_true',List.any_eq_false]
 constructor
 ·intro hh f i hi hb
  have hc:=Nat.lt_of_lt_of_le hi (G.ac a j f hj)
  obtain ⟨hl,Ab,Ac,Ad⟩:=t.at' f i hc
  have:=hh (rk f i) (by rw[List.mem_range'];exact ⟨rk f i,hl,by omega⟩)
  unfold stopT at this
  rw[t.ahd a j hj f i hc h,decide_eq_true hi,toOf_at ms hl,Ad,hasB_natQ _ _ (by omega),hb,Bool.true_and,Bool.true_and,Bool.not_eq_true',Bool.not_eq_false] at this
  exact ((t.got d f i hd hc).1 (tknB_iff.1 this)).2
 ·intro hC k hk' hs
  rw[List.mem_range'] at hk'
  obtain ⟨q,hq,rfl⟩:=hk'
  have hql:0+1*q<ms.length:=by omega
  generalize 0+1*q=m at hs hql
  obtain ⟨_,i,hi,hr⟩:=t.inv m hql
  generalize hf:ms[m].f=f at hi hr
  subst hr
  obtain ⟨_,Ab,Ac,Ad⟩:=t.at' f i hi
  unfold stopT at hs
  rw[t.ahd a j hj f i hi h,toOf_at ms hql,Ad,hasB_natQ _ _ (by omega),Bool.and_eq_true,Bool.and_eq_true,decide_eq_true_eq,Bool.not_eq_true'] at hs
  have:=hC f i hs.1 hs.2.1
  have:=(t.got d f i hd hi).2 ⟨hs.2.1,this⟩
  rw[<-tknB_iff,hs.2.2] at this
  cases this
end
def wayJ (X:Tr) (tk:Nat->Nat->Nat) (a d:Nat):List Nat:=(List.range (X.c a)).filter fun j=>decide (tk d a<=j) && (X.T a j).testBit d
theorem wayJ_mem {X:Tr} {tk:Nat->Nat->Nat} {a d j:Nat}:j∈wayJ X tk a d ↔ j<X.c a/\tk d a<=j/\(X.T a j).testBit d=true:=by
 unfold wayJ
 rw[List.mem_filter,List.mem_range,Bool.and_eq_true,decide_eq_true_eq]
theorem wayJ_lt (X:Tr) (tk:Nat->Nat->Nat) (a d:Nat):(wayJ X tk a d).Pairwise (· < ·):=List.pairwise_lt_range.sublist List.filter_sublist
theorem wayJ_head {X:Tr} {tk:Nat->Nat->Nat} {a d j:Nat} {js:List Nat} (h:wayJ X tk a d=j::js):∀i,tk d a<=i->i<j->(X.T a i).testBit d=false:=fun i h1 h2=>by
 cases hb:(X.T a i).testBit d with
 | false=>rfl
 | true=>
  have hj:j∈wayJ X tk a d:=by rw[h];exact List.mem_cons_self
  have hi:i∈wayJ X tk a d:=wayJ_mem.2 ⟨by have:=(wayJ_mem.1 hj).1;omega,h1,hb⟩
  have hp:=wayJ_lt X tk a d
  rw[h] at hi hp
  rcases List.mem_cons.1 hi with e | e
  ·omega
  ·have:=(List.pairwise_cons.1 hp).1 i e
   omega
theorem wayJ_take {X:Tr} {tk:Nat->Nat->Nat} {a d j:Nat} {js:List Nat} (h:wayJ X tk a d=j::js):wayJ X (tkS tk d a j) a d=js:=by
 have hp:=wayJ_lt X tk a d
 have hj:j∈wayJ X tk a d:=by rw[h];exact List.mem_cons_self
 have hjt:=(wayJ_mem.1 hj).2.1
 have e:tkS tk d a j d a=j+1:=if_pos ⟨rfl,rfl⟩
 have e1:wayJ X (tkS tk d a j) a d=(wayJ X tk a d).filter fun i=>decide (j+1<=i):=by
  unfold wayJ
  rw[List.filter_filter]
  refine List.filter_congr fun i _=>?_
  rw[e]
  by_cases h1:j+1<=i
  ·rw[decide_eq_true h1,decide_eq_true (by omega:tk d a<=i)];simp only[Bool.true_and]
  ·rw[decide_eq_false h1,Bool.false_and,Bool.false_and]
 rw[e1,h]
 rw[h] at hp
 rw[List.filter_cons,if_neg (by rw[decide_eq_true_eq];omega)]
 refine List.filter_eq_self.2 fun i hi=>?_
 have:=(List.pairwise_cons.1 hp).1 i hi
 rw[decide_eq_true_eq];omega
theorem wayJ_other {X:Tr} {tk:Nat->Nat->Nat} {a d a' d' j:Nat} (h:¬(d'=d/\a'=a)):wayJ X (tkS tk d a j) a' d'=wayJ X tk a' d':=by
 unfold wayJ
 have:tkS tk d a j d' a'=tk d' a':=if_neg h
 rw[this]
theorem wayJ_send {X:Tr} {tk:Nat->Nat->Nat} {P to:Nat} {v:Nat->Nat} {d:Nat} (h:tk d P<=X.c P):wayJ (sndX X P to v) tk P d=wayJ X tk P d++if to.testBit d=true then [X.c P] else []:=by
 unfold wayJ
 have ec:(sndX X P to v).c P=X.c P+1:=upV1_self X.c P
 rw[ec,List.range_succ,List.filter_append]
 congr 1
 ·refine List.filter_congr fun i hi=>?_
  rw[sndX_T _ _ _ _ (List.mem_range.1 hi)]
 ·rw[List.filter_cons,sndX_Tn,decide_eq_true h,Bool.true_and];rfl
theorem wayJ_send2 {X:Tr} {tk:Nat->Nat->Nat} {P to:Nat} {v:Nat->Nat} {a d:Nat} (h:a≠P):wayJ (sndX X P to v) tk a d=wayJ X tk a d:=by
 unfold wayJ
 have ec:(sndX X P to v).c a=X.c a:=upV1_ne X.c h
 rw[ec]
 refine List.filter_congr fun i hi=>?_
 rw[sndX_T _ _ _ _ (List.mem_range.1 hi)]
theorem TL.send {n N:Nat} {X:Tr} {rk V tk:Nat->Nat->Nat} {es:Nat->List E3} {ms:List SM4} {kn:Nat->List Bool} {gt:Nat->List Nat} (t:TL n X N rk V tk ms kn gt) (G:GI n X N rk V tk es) {P to:Nat} (hP:P<n) (hgt:∀d,∀x∈gt d,x<N) :
  TL n (sndX X P to (V P)) (N+1) (rkS rk P (X.c P) N) (updV V P (upV1 (V P) P)) tk (ms++[⟨P,X.c P+1,to,kn P⟩]) (fun i=>if i=P then bothL (kn P) [] N else kn i) gt:=by
 have len:=t.len
 have kl:=t.knl P
 have rkO:∀ {f j},j<X.c f->rkS rk P (X.c P) N f j=rk f j:=fun {f j} h=>if_neg fun e=>by have e2:=e.2;rw[e.1] at h;omega
 have rkN:rkS rk P (X.c P) N P (X.c P)=N:=if_pos ⟨rfl,rfl⟩
 have old:∀ {f j},(h:j<X.c f)->∃hl:rk f j<ms.length,∀hl2,(ms++[(⟨P,X.c P+1,to,kn P⟩:SM4)])[rk f j]'hl2=ms[rk f j]:=fun {f j} h=>by
  obtain ⟨hl,_⟩:=t.at' f j h
  exact ⟨hl,fun _=>List.getElem_append_left hl⟩
 have nw:∀hl2,(ms++[(⟨P,X.c P+1,to,kn P⟩:SM4)])[N]'hl2=⟨P,X.c P+1,to,kn P⟩:=fun hl2=>by
  rw[List.getElem_append_right (by omega)]
  simp[len]
 refine ⟨by simp[len],fun f j hj=>?_,fun m hm=>?_,fun f j hj f' j' hj' h=>?_,fun i f j hi hj=>?_,fun d f j hd hj=>?_,fun f=>?_,fun m hm=>?_,fun i=>?_⟩
 ·rcases sndX_c X P to (V P) hj with h | ⟨rfl,rfl⟩
  ·obtain ⟨hl,o⟩:=old h
   obtain ⟨_,a,b,c⟩:=t.at' f j h
   simp only[rkO h]
   refine ⟨by simp;omega,?_⟩
   rw[o,sndX_T _ _ _ _ h]
   exact ⟨a,b,c⟩
  ·simp only[rkN]
   refine ⟨by simp[len],?_⟩
   rw[nw,sndX_Tn]
   exact ⟨rfl,rfl,rfl⟩
 ·by_cases hlt:m<ms.length
  ·obtain ⟨a,j,b,c⟩:=t.inv m hlt
   rw[List.getElem_append_left hlt]
   exact ⟨a,j,Nat.lt_of_lt_of_le b (upV1_le X.c P _),by rw[rkO b];exact c⟩
  ·have:m=N:=by simp at hm;omega
   subst this
   rw[nw]
   exact ⟨hP,X.c P,by show X.c P<upV1 X.c P P;rw[upV1_self];omega,rkN⟩
 ·rcases sndX_c X P to (V P) hj with h1 | ⟨rfl,rfl⟩
  ·obtain ⟨hl,o⟩:=old h1
   simp only[rkO h1] at h ⊢
   rw[o,sndX_A _ _ _ _ h1]
   rcases sndX_c X P to (V P) hj' with h2 | ⟨rfl,rfl⟩
   ·rw[rkO h2]
    exact t.ahd f j h1 f' j' h2 hl
   ·rw[rkN]
    have:=t.ahl _ hl
    have h3:=G.ac f j f' h1
    rw[List.getD_eq_getElem?_getD,List.getElem?_eq_none (by omega)]
    exact (decide_eq_false (by omega)).symm
  ·simp only[rkN] at h ⊢
   rw[nw,sndX_An]
   rcases sndX_c X f to (V f) hj' with h2 | ⟨rfl,rfl⟩
   ·rw[rkO h2]
    exact t.knw f f' j' hP h2
   ·rw[rkN]
    have h3:=G.vc f' f'
    rw[List.getD_eq_getElem?_getD,List.getElem?_eq_none (by omega)]
    exact (decide_eq_false (by omega)).symm
 ·by_cases e:i=P
  ·subst e
   rw[if_pos rfl,bothL_get,updV_self]
   unfold bothF1
   rcases sndX_c X i to (V i) hj with h2 | ⟨rfl,rfl⟩
   ·obtain ⟨hl,_⟩:=t.at' f j h2
    rw[rkO h2,t.knw i f j hi h2,decide_eq_false (show ¬rk f j=N by omega)]
    by_cases e2:f=i
    ·subst e2
     rw[upV1_self]
     have:=G.own f hi
     by_cases h3:j<V f f
     ·simp[h3,show j<V f f+1 by omega]
     ·omega
    ·rw[upV1_ne _ e2];simp
   ·rw[rkN,decide_eq_true rfl,upV1_self,G.own f hi]
    simp
  ·rw[if_neg e,updV_ne _ _ e]
   rcases sndX_c X P to (V P) hj with h2 | ⟨rfl,rfl⟩
   ·rw[rkO h2]
    exact t.knw i f j hi h2
   ·rw[rkN]
    have h3:=G.vc i f
    have:=t.knl i
    rw[List.getD_eq_getElem?_getD,List.getElem?_eq_none (by omega)]
    exact (decide_eq_false (by omega)).symm
 ·rcases sndX_c X P to (V P) hj with h2 | ⟨rfl,rfl⟩
  ·rw[rkO h2,sndX_T _ _ _ _ h2]
   exact t.got d f j hd h2
  ·rw[rkN]
   have h3:=Nat.le_trans (G.tv d f) (G.vc d f)
   exact ⟨fun h=>by have:=hgt d N h;omega,fun h=>by omega⟩
 ·unfold cntQ
  rw[List.filter_append,List.length_append]
  have:=t.cnt f
  unfold cntQ at this
  rw[this]
  show _=upV1 X.c P f
  unfold upV1
  by_cases e:f=P
  ·subst e;simp
  ·rw[if_neg e,List.filter_cons,if_neg (by simp[Ne.symm e])];rfl
 ·by_cases hlt:m<ms.length
  ·rw[List.getElem_append_left hlt]
   exact Nat.le_succ_of_le (t.ahl m hlt)
  ·have:m=N:=by simp at hm;omega
   subst this
   rw[nw]
   exact Nat.le_succ_of_le kl
 ·by_cases e:i=P
  ·rw[if_pos e,bothL_len]
   unfold bothN
   simp only[List.length_nil]
   omega
  ·rw[if_neg e]
   exact Nat.le_succ_of_le (t.knl i)
theorem TL.take {n N:Nat} {X:Tr} {rk V tk:Nat->Nat->Nat} {es:Nat->List E3} {ms:List SM4} {kn:Nat->List Bool} {gt:Nat->List Nat} (t:TL n X N rk V tk ms kn gt) (G:GI n X N rk V tk es) {a j d:Nat} (hj:j<X.c a) (hd:d<n) (hT:(X.T a j).testBit d=true) (g1:tk d a<=j) (g2:∀i,tk d a<=i->i<j->(X.T a i).testBit d=false) (h:rk a j<ms.length) :
  TL n X N rk (updV V d (maxV (V d) (upV1 (X.A a j) a))) (tkS tk d a j) ms (fun i=>if i=d then bothL (kn d) ms[rk a j].ah (rk a j) else kn i) (fun i=>if i=d then gt d++[rk a j] else gt i):=by
 have ajj:=G.aj a j hj
 have inj:∀ {f i f' i'},i<X.c f->i'<X.c f'->rk f i=rk f' i'->f=f'/\i=i':=fun {f i f' i'} h1 h2 e=>by
  obtain ⟨_,a1,b1,_⟩:=t.at' f i h1
  obtain ⟨_,a2,b2,_⟩:=t.at' f' i' h2
  simp only[e] at a1 b1
  exact ⟨a1.symm.trans a2,by omega⟩
 refine ⟨t.len,t.at',t.inv,t.ahd,fun i f k hi hk=>?_,fun d' f k hd' hk=>?_,t.cnt,t.ahl,fun i=>?_⟩
 ·by_cases e:i=d
  ·subst e
   rw[if_pos rfl,bothL_get,updV_self]
   unfold bothF1
   rw[t.knw i f k hi hk,t.ahd a j hj f k hk h]
   have hx:decide (rk f k=rk a j)=decide (f=a/\k=j):=by
    by_cases e2:f=a/\k=j
    ·rw[decide_eq_true e2,e2.1,e2.2,decide_eq_true rfl]
    ·rw[decide_eq_false e2,decide_eq_false fun x=>e2 (inj hk hj x)]
   rw[hx,<-Bool.decide_or,<-Bool.decide_or]
   refine decide_eq_decide.2 ?_
   show _ ↔ k<max (V i f) (upV1 (X.A a j) a f)
   by_cases e2:f=a
   ·subst e2
    rw[upV1_self,ajj]
    omega
   ·rw[upV1_ne _ e2]
    constructor
    ·rintro (h1 | h1 | h1)<;>omega
    ·intro h1
     by_cases h3:k<V i f
     ·exact .inl h3
     ·exact .inr (.inl (by omega))
  ·rw[if_neg e,updV_ne _ _ e]
   exact t.knw i f k hi hk
 ·have old:=t.got d' f k hd' hk
  unfold tkS
  by_cases e:d'=d
  ·subst e
   rw[if_pos rfl,List.mem_append,List.mem_singleton,old]
   by_cases e2:f=a
   ·subst e2
    rw[if_pos ⟨rfl,rfl⟩]
    constructor
    ·rintro (⟨x,y⟩ | x)
     ·exact ⟨x,by omega⟩
     ·obtain ⟨_,rfl⟩:=inj hk hj x
      exact ⟨hT,by omega⟩
    ·rintro ⟨x,y⟩
     by_cases h3:k<tk d' f
     ·exact .inl ⟨x,h3⟩
     ·by_cases h4:k=j
      ·subst h4;exact .inr rfl
      ·have:=g2 k (by omega) (by omega)
       rw[this] at x;cases x
   ·rw[if_neg fun x=>e2 x.2]
    exact ⟨fun x=>x.resolve_right fun y=>e2 (inj hk hj y).1,.inl⟩
  ·rw[if_neg e,if_neg fun x=>e x.1]
   exact old
 ·have l1:=t.knl d
  have l2:=t.ahl _ h
  have l3:=t.len
  by_cases e:i=d
  ·rw[if_pos e,bothL_len]
   unfold bothN
   omega
  ·rw[if_neg e]
   exact t.knl i
end Go.Am
namespace Go.Am
open Go.Proofs
set_option maxRecDepth 100000
set_option linter.all false
attribute [local congr] zAf zAq zAr zAs zAj zAg
theorem storeN_modsQ {h g:Heap} {b o:Nat} {vs:List Value} (hg:h.storeN b o vs=some g):∀m∈g.mods,m∈h.mods\/m=b:=by
 unfold Heap.storeN at hg
 split at hg
 ·split at hg
  ·rename_i hk _
   simp only[Option.some.injEq] at hg
   subst hg
   intro m hm
   rw[Heap.put_eq hk] at hm
   rcases List.mem_cons.1 hm with rfl | hm
   ·exact .inr rfl
   ·exact .inl hm
  ·cases hg
 ·cases hg
theorem appendV_modsQ {P:Program} {t0:TypeId} {t1:Option TypeId} {s x:Value} {h h':Heap} {v:Value} (hv:zBh P t0 t1 s x h=some (v,h')):∀m∈h'.mods,m∈h.mods\/zAn s=some m:=by
 unfold zBh at hv
 split at hv
 ·split at hv
  ·split at hv
   ·split at hv
    ·split at hv
     ·cases hv;exact fun m hm=>.inl hm
     ·split at hv
      ·split at hv
       ·split at hv
        ·split at hv
         ·rename_i hb _
          simp only[Option.some.injEq,Prod.mk.injEq] at hv
          rw[<-hv.2,Heap.put_eq hb]
          intro m hm
          rcases List.mem_cons.1 hm with rfl | hm
          ·exact .inr rfl
          ·exact .inl hm
         ·cases hv
        ·cases hv
       ·cases hv
      ·split at hv
       ·split at hv
        ·rename_i b o _ _ _ _
         rw[Option.map_eq_some_iff] at hv
         obtain ⟨g,hg,hv⟩:=hv
         simp only[Prod.mk.injEq] at hv
         rw[<-hv.2]
         intro m hm
         have:=storeN_modsQ hg m hm
         rcases this with h | h
         ·exact .inl h
         ·exact .inr (by rw[h];rfl)
        ·cases hv
       ·split at hv
        ·rw[Option.map_eq_some_iff] at hv
         obtain ⟨g,hg,hv⟩:=hv
         simp only[Prod.mk.injEq] at hv
         rw[<-hv.2]
         exact fun m hm=>.inl hm
        ·split at hv
         ·simp only[Option.some.injEq,Prod.mk.injEq] at hv
          rw[<-hv.2]
          exact fun m hm=>.inl hm
         ·cases hv
        ·cases hv
    ·cases hv
   ·cases hv
  ·cases hv
 ·cases hv
theorem map_updQ {α:Type} (f:Nat->α) (v:α) (N i:Nat) (hi:i<N):((List.range N).map f).take i++[v]++((List.range N).map f).drop (i+1)=(List.range N).map fun j=>if j=i then v else f j:=by
 apply List.ext_getElem?
 intro j
 simp only[List.getElem?_map,List.getElem?_append,List.length_append,List.length_take,List.length_map,List.length_range,List.length_singleton,List.getElem?_take,List.getElem?_drop,List.getElem?_range]
 rw[Nat.min_eq_left (by omega)]
 rcases Nat.lt_trichotomy j i with h | h | h
 ·rw[if_pos (by omega),if_pos h,if_pos h]
  simp only[List.getElem?_range (show j<N by omega),Option.map_some,if_neg (show ¬j=i by omega)]
 ·subst h
  rw[if_pos (by omega),if_neg (by omega),Nat.sub_self]
  simp[List.getElem?_range hi]
 ·rw[if_neg (by omega)]
  rw[show i+1+(j-(i+1))=j by omega]
  by_cases hj:j<N
  ·simp only[List.getElem?_range hj,Option.map_some,if_neg (show ¬j=i by omega)]
  ·have:(List.range N)[j]?=none:=List.getElem?_eq_none (by simp;omega)
   rw[this];rfl
def KpP (n0:Nat) (h h':Heap):Prop:=h.blks.length<=h'.blks.length/\(∀b,b<n0->b<h.blks.length->h'.blks[b]?=h.blks[b]?)/\∀(b:Nat) (all:List Value) (ty:TypeId),h.blks[b]?=some ⟨.cells all,ty,true⟩->ty≠78->ty≠73->ty≠71->ty≠68->h'.blks[b]?=h.blks[b]?
theorem KpP.trans {n0:Nat} {a b c:Heap} (h:KpP n0 a b) (k:KpP n0 b c):KpP n0 a c:=
 ⟨Nat.le_trans h.1 k.1,fun q hq hl=>(k.2.1 q hq (Nat.lt_of_lt_of_le hl h.1)).trans (h.2.1 q hq hl),fun q all ty hb t1 t2 t3 t4=>by have e:=h.2.2 q all ty hb t1 t2 t3 t4;exact (k.2.2 q all ty (e.trans hb) t1 t2 t3 t4).trans e⟩
theorem Same.kpP {n0:Nat} {h h':Heap} (e:Same h h'):KpP n0 h h':=⟨e.1,fun b _ hl=>e.2 b hl,fun b all ty hb _ _ _ _=>e.2 b (List.getElem?_eq_some_iff.1 hb).1⟩
def updF {α:Type} (f:Nat->α) (i:Nat) (v:α):Nat->α:=fun j=>if j=i then v else f j
section
variable {n0:Nat} {h:Heap} {p kb gb n:Nat} {ms:List SM4} {kn:Nat->List Bool} {gt:Nat->List Nat}
theorem PaV.setG (A:PaV n0 h p kb gb n ms kn gt) {d:Nat} (hd:d<n) {v:Value} {l:List Nat} (a:AI 0 h v l):∃h',h.storeN gb d [v]=some h'/\PaV n0 h' p kb gb n ms kn (updF gt d l)/\KpP n0 h h'/\h'.blks.length=h.blks.length/\HMod (Just gb) h h':=by
 obtain ⟨gv,gc,ga⟩:=A.gt
 have st:=zAp gc (o:=d) (vs:=[v]) (by simp;omega)
 rw[List.length_singleton,map_updQ gv v n d hd] at st
 have oth:∀ {b:Nat} {all:List Value} {ty:TypeId},h.blks[b]?=some ⟨.cells all,ty,true⟩->ty≠68->b≠gb:=fun {b all ty} hb ht e=>by subst e;exact ht (gc.ty hb).symm
 have lt:=gc.lt
 have lo:=A.lo
 refine ⟨_,st,⟨?_,?_,⟨_,gc.put _,fun i hi=>?_⟩,A.lo⟩,⟨by rw[Heap.put_len];exact Nat.le_refl _,fun b hb _=>Heap.put_other (by omega) _,fun b all ty hb _ _ _ t4=>Heap.put_other (fun e=>oth hb t4 e) _⟩,Heap.put_len ..,⟨by rw[Heap.put_len];exact Nat.le_refl _,fun b _ hb=>Heap.put_other (fun e=>hb e) _,[gb],by rw[Heap.put_eq gc];rfl,fun m hm=>by rw[List.mem_singleton] at hm;subst hm;exact ⟨rfl,lt⟩⟩⟩
 ·obtain ⟨lv,c,avs,x,bs⟩:=A.c
  exact ⟨lv,c.keepPut (fun e=>oth c (by decide) e.symm) _,avs,x.keepPut (fun e=>by obtain ⟨all,hh⟩:=x.blk e;exact oth hh (by decide) rfl) _,bs.mono fun _ _ y=>Acc.keepPut y (fun e=>by obtain ⟨all,hh⟩:=Acc.blk y e;exact oth hh (by decide) rfl) _⟩
 ·obtain ⟨kv,kc,ka⟩:=A.kn
  exact ⟨kv,kc.keepPut (fun e=>oth kc (by decide) e.symm) _,fun i hi=>Acc.keepPut (ka i hi) (fun e=>by obtain ⟨all,hh⟩:=Acc.blk (ka i hi) e;exact oth hh (by decide) rfl) _⟩
 ·unfold updF
  by_cases e:i=d
  ·rw[if_pos e,if_pos e]
   exact Acc.keepPut a (fun e=>by obtain ⟨all,hh⟩:=Acc.blk a e;exact oth hh (by decide) rfl) _
  ·rw[if_neg e,if_neg e]
   exact Acc.keepPut (ga i hi) (fun e=>by obtain ⟨all,hh⟩:=Acc.blk (ga i hi) e;exact oth hh (by decide) rfl) _
theorem PaV.setK (A:PaV n0 h p kb gb n ms kn gt) {d:Nat} (hd:d<n) {v:Value} {l:List Bool} (a:ABo 0 h v l):∃h',h.storeN kb d [v]=some h'/\PaV n0 h' p kb gb n ms (updF kn d l) gt/\KpP n0 h h'/\h'.blks.length=h.blks.length/\HMod (Just kb) h h':=by
 obtain ⟨kv,kc,ka⟩:=A.kn
 have st:=zAp kc (o:=d) (vs:=[v]) (by simp;omega)
 rw[List.length_singleton,map_updQ kv v n d hd] at st
 have oth:∀ {b:Nat} {all:List Value} {ty:TypeId},h.blks[b]?=some ⟨.cells all,ty,true⟩->ty≠71->b≠kb:=fun {b all ty} hb ht e=>by subst e;exact ht (kc.ty hb).symm
 have lt:=kc.lt
 have lo:=A.lo
 refine ⟨_,st,⟨?_,⟨_,kc.put _,fun i hi=>?_⟩,?_,A.lo⟩,⟨by rw[Heap.put_len];exact Nat.le_refl _,fun b hb _=>Heap.put_other (by omega) _,fun b all ty hb _ _ t3 _=>Heap.put_other (fun e=>oth hb t3 e) _⟩,Heap.put_len ..,⟨by rw[Heap.put_len];exact Nat.le_refl _,fun b _ hb=>Heap.put_other (fun e=>hb e) _,[kb],by rw[Heap.put_eq kc];rfl,fun m hm=>by rw[List.mem_singleton] at hm;subst hm;exact ⟨rfl,lt⟩⟩⟩
 ·obtain ⟨lv,c,avs,x,bs⟩:=A.c
  exact ⟨lv,c.keepPut (fun e=>oth c (by decide) e.symm) _,avs,x.keepPut (fun e=>by obtain ⟨all,hh⟩:=x.blk e;exact oth hh (by decide) rfl) _,bs.mono fun _ _ y=>Acc.keepPut y (fun e=>by obtain ⟨all,hh⟩:=Acc.blk y e;exact oth hh (by decide) rfl) _⟩
 ·unfold updF
  by_cases e:i=d
  ·rw[if_pos e,if_pos e]
   exact Acc.keepPut a (fun e=>by obtain ⟨all,hh⟩:=Acc.blk a e;exact oth hh (by decide) rfl) _
  ·rw[if_neg e,if_neg e]
   exact Acc.keepPut (ka i hi) (fun e=>by obtain ⟨all,hh⟩:=Acc.blk (ka i hi) e;exact oth hh (by decide) rfl) _
 ·obtain ⟨gv,gc,ga⟩:=A.gt
  exact ⟨gv,gc.keepPut (fun e=>oth gc (by decide) e.symm) _,fun i hi=>Acc.keepPut (ga i hi) (fun e=>by obtain ⟨all,hh⟩:=Acc.blk (ga i hi) e;exact oth hh (by decide) rfl) _⟩
end
theorem mkI0 (h:Heap):zAi Tryz.prog 68 0 #[] h=some (.slice (some ⟨h.blks.length,0,none⟩) 0 0,h.new (.cells []) 3):=by kernel_rfl
theorem mkBo0 (h:Heap):zAi Tryz.prog 71 0 #[] h=some (.slice (some ⟨h.blks.length,0,none⟩) 0 0,h.new (.cells []) 4):=by kernel_rfl
theorem stIr (p o:Nat) (a:Option Addr) (n c:Nat) (h:Heap):zBc Tryz.prog 68 (.pointer (some ⟨p,o,none⟩)) (.slice a n c) h=h.storeN p o [.slice a n c]:=by kernel_rfl
theorem stBr (p o:Nat) (a:Option Addr) (n c:Nat) (h:Heap):zBc Tryz.prog 71 (.pointer (some ⟨p,o,none⟩)) (.slice a n c) h=h.storeN p o [.slice a n c]:=by kernel_rfl
theorem stSeS (p o:Nat) (a:Option Addr) (n c:Nat) (h:Heap):zBc Tryz.prog 74 (.pointer (some ⟨p,o,none⟩)) (.slice a n c) h=h.storeN p o [.slice a n c]:=by kernel_rfl
theorem zerosQ (z:Value) (hz:z.cells=#[z]) (m:Nat):((Array.range (m*1)).map fun x=>z.cells[x % z.cells.size]!).toList=List.replicate m z:=by
 rw[hz]
 exact zeros_list z m
theorem etKn:ElemT Tryz.prog 75 71 1 24 (.slice none 0 0):=⟨by kernel_rfl,by kernel_rfl,by kernel_rfl,by kernel_rfl,by omega,rfl,by simp[zBg,ground0]⟩
theorem etGt:ElemT Tryz.prog 76 68 1 24 (.slice none 0 0):=⟨by kernel_rfl,by kernel_rfl,by kernel_rfl,by kernel_rfl,by omega,rfl,by simp[zBg,ground0]⟩
theorem mkKn (m:Nat) (hm:m<=64) (h:Heap):zBd Tryz.prog 75 (.int .i64 m) (.int .i64 m) h=some (.slice (some ⟨h.blks.length,0,none⟩) m m,h.new (.cells ((List.range m).map fun _=>.slice none 0 0)) 71):=by
 unfold zBd
 simp only[etKn.under,zBq,etKn.size,etKn.bytes,etKn.zero]
 rw[if_pos ⟨Nat.le_refl _,by omega,by omega,by omega,etKn.zs,etKn.zg⟩]
 rw[zerosQ _ rfl,show ((List.range m).map fun _=>(Value.slice none 0 0))=List.replicate m (.slice none 0 0) by simp[List.map_const']]
theorem mkGt (m:Nat) (hm:m<=64) (h:Heap):zBd Tryz.prog 76 (.int .i64 m) (.int .i64 m) h=some (.slice (some ⟨h.blks.length,0,none⟩) m m,h.new (.cells ((List.range m).map fun _=>.slice none 0 0)) 68):=by
 unfold zBd
 simp only[etGt.under,zBq,etGt.size,etGt.bytes,etGt.zero]
 rw[if_pos ⟨Nat.le_refl _,by omega,by omega,by omega,etGt.zs,etGt.zg⟩]
 rw[zerosQ _ rfl,show ((List.range m).map fun _=>(Value.slice none 0 0))=List.replicate m (.slice none 0 0) by simp[List.map_const']]
theorem bdPa (n:Int) (a b:Option Addr) (k l c d:Nat):buildV Tryz.prog 78 #[(0,.int .i64 n),(2,.slice a k c),(3,.slice b l d)]=some (.agg #[.int .i64 n,.slice none 0 0,.slice a k c,.slice b l d]):=by kernel_rfl
theorem bxPa (n:Int) (a b:Option Addr) (k l c d:Nat) (h:Heap):boxV Tryz.prog 78 (.agg #[.int .i64 n,.slice none 0 0,.slice a k c,.slice b l d]) h=some (.pointer (some ⟨h.blks.length,0,none⟩),h.new (.cells [.int .i64 n,.slice none 0 0,.slice a k c,.slice b l d]) 78):=by kernel_rfl
theorem spec_NewPast (n:Nat) (hn:n<=64) (h:Heap):∃h',evC Tryz.prog 19 #[.int .i64 n] h=some (.pointer (some ⟨h.blks.length+2,0,none⟩),h')/\HExt h h'/\PaV h.blks.length h' (h.blks.length+2) h.blks.length (h.blks.length+1) n [] (fun _=>[]) (fun _=>[]):=by
 rw[call19]
 have k1:=mkKn n hn (nm h)
 have e0:(nm h).blks.length=h.blks.length:=rfl
 rw[e0] at k1
 have c1:=Cells.new (nm h) 71 ((List.range n).map fun _=>.slice none 0 0)
 rw[e0] at c1
 have i1:In h.blks.length No (nm h) ((nm h).new (.cells ((List.range n).map fun _=>.slice none 0 0)) 71):=In.new (h:=nm h) (Nat.le_refl h.blks.length) _ _
 have l1:((nm h).new (.cells ((List.range n).map fun _=>.slice none 0 0)) 71).blks.length=h.blks.length+1:=by simp[Heap.new]
 generalize (nm h).new (.cells ((List.range n).map fun _=>.slice none 0 0)) 71=h1 at *
 have k2:=mkGt n hn h1
 rw[l1] at k2
 have c2:=Cells.new h1 68 ((List.range n).map fun _=>.slice none 0 0)
 rw[l1] at c2
 have s2:Same h1 (h1.new (.cells ((List.range n).map fun _=>.slice none 0 0)) 68):=Same.new _ _ _
 have i2:=i1.trans (In.new (S:=No) i1.len (.cells ((List.range n).map fun _=>.slice none 0 0)) 68)
 have l2:(h1.new (.cells ((List.range n).map fun _=>.slice none 0 0)) 68).blks.length=h.blks.length+2:=by simp[Heap.new,l1]
 generalize h1.new (.cells ((List.range n).map fun _=>.slice none 0 0)) 68=h2 at *
 have bd:=bdPa (n:Nat) (some ⟨h.blks.length,0,none⟩) (some ⟨h.blks.length+1,0,none⟩) n n n n
 have bx:=bxPa (n:Nat) (some ⟨h.blks.length,0,none⟩) (some ⟨h.blks.length+1,0,none⟩) n n n n h2
 rw[l2] at bx
 have c3:=Cells.new h2 78 [.int .i64 n,.slice none 0 0,.slice (some ⟨h.blks.length,0,none⟩) n n,.slice (some ⟨h.blks.length+1,0,none⟩) n n]
 rw[l2] at c3
 have s3:Same h2 (h2.new (.cells [.int .i64 n,.slice none 0 0,.slice (some ⟨h.blks.length,0,none⟩) n n,.slice (some ⟨h.blks.length+1,0,none⟩) n n]) 78):=Same.new _ _ _
 have i3:=i2.trans (In.new (S:=No) i2.len (.cells [.int .i64 n,.slice none 0 0,.slice (some ⟨h.blks.length,0,none⟩) n n,.slice (some ⟨h.blks.length+1,0,none⟩) n n]) 78)
 refine ⟨_,?_,zAl i3,⟨⟨_,c3.done,[],.nil,.nil⟩,⟨fun _=>.slice none 0 0,((c1.same s2).same s3).done,fun _ _=>.nil⟩,⟨fun _=>.slice none 0 0,(c2.same s3).done,fun _ _=>.nil⟩,by omega⟩⟩
 simp -implicitDefEqProofs (disch:=omega) only[↓c19_0_eq,k1,k2,bd,bx,↓ret19,↓zAc,↓zAb,↓Option.bind_some,↓zAa,sxB,Nat.reduceBEq]
end Go.Am
namespace Go.Am
open Go.Proofs
set_option maxRecDepth 100000
set_option linter.all false
attribute [local congr] zAf zAq zAr zAs zAj zAg
theorem copyQ {t el:TypeId} {bt:Nat} {z:Value} (et:ElemT Tryz.prog t el 1 bt z) {h:Heap} {b:Nat} (hb:h.blks[b]?=some ⟨.cells [],el,true⟩) {v:Value} {n:Nat} {cs:List Value} (s:Sl Tryz.prog h 1 v n cs) (hl:n<2^39) (hbt:bt<=64) (one:cs.all Value.oneCell'=true) (hcs:cs.length=n) :
  ∃a c h',zBh Tryz.prog t (some t) (.slice (some ⟨b,0,none⟩) 0 0) v h=some (.slice a n c,h')/\Acc b h' el 1 (.slice a n c) n cs/\Keeps b h h'/\∀m∈h'.mods,m∈h.mods\/m=b:=by
 have hlt:=(List.getElem?_eq_some_iff.1 hb).1
 have a0:Acc b h el 1 (.slice (some ⟨b,0,none⟩) 0 0) 0 []:=.full (Nat.le_refl _) (by omega) hb (by simp) (by simp)
 obtain ⟨v',h',e1,e2,e3,e4,e5⟩:=append_acc et (t1:=some t) (n0:=b) (by omega) a0 (newsV_row et.under s.row) (by rw[hcs,Nat.mul_one]) (Nat.le_trans (Nat.mul_le_mul_left _ hbt) (by omega)) (by omega) one
 rw[List.nil_append,Nat.zero_add] at e2
 obtain ⟨a,c,rfl⟩:=e2.shape
 refine ⟨a,c,h',e1,e2,e3,fun m hm=>?_⟩
 rcases appendV_modsQ e1 m hm with h | h
 ·exact .inl h
 ·exact .inr (Option.some.inj h).symm
theorem all_bo (l:List Bool):(l.map boV).all Value.oneCell'=true:=by rw[List.all_map,List.all_eq_true];intro x _;rfl
theorem all_i64 (l:List Nat):(l.map i64V).all Value.oneCell'=true:=by rw[List.all_map,List.all_eq_true];intro x _;rfl
section
variable {n0:Nat} {h:Heap} {p kb gb n:Nat} {ms:List SM4} {kn:Nat->List Bool} {gt:Nat->List Nat}
theorem PaV.plt (A:PaV n0 h p kb gb n ms kn gt):p<h.blks.length:=by obtain ⟨_,c,_⟩:=A.c;exact c.lt
theorem spec_TTake (A:PaV n0 h p kb gb n ms kn gt) {d m:Nat} (hd:d<n) (hm:m<ms.length) (hl:(gt d).length<2^38) (hml:ms.length<2^38) (hto:∀x∈ms,x.to<2^64) (hkl:(kn d).length<2^38) (hal:ms[m].ah.length<2^38) (h1:hasB ms[m].to (d:Nat)=true) (h2:tknB (gt d) m=false) :
  ∃h',evC Tryz.prog 27 #[.pointer (some ⟨p,0,none⟩),.int .i64 d,.int .i64 m] h=some (.bool true,h')/\KpP n0 h h'/\PaV n0 h' p kb gb n ms (updF kn d (bothL (kn d) ms[m].ah m)) (updF gt d (gt d++[m])):=by
 rw[call27]
 have A0:=A.same (sameNm h)
 have hp:=A.plt
 obtain ⟨la,lc,l1,at1⟩:=A0.at
 obtain ⟨b,o,aa,ac,ib,b0,b1,b2,b3,bo⟩:=at1 m hm
 have qi:=spec_In ms[m].to (hto _ (List.getElem_mem hm)) (d:Nat) (nm h)
 have qt:=spec_Taken (m:=m) A0 hd (by omega)
 rw[h1] at qi
 rw[h2] at qt
 have e0:(nm h).blks.length=h.blks.length:=rfl
 -- the row of what was got,once more
 have k1:=mkI0 (nm h)
 have c1:=Cells.new (nm h) 3 []
 have s1:Same (nm h) ((nm h).new (.cells []) 3):=Same.new _ _ _
 have len1:((nm h).new (.cells []) 3).blks.length=h.blks.length+1:=by simp[Heap.new]
 rw[e0] at k1 c1
 generalize (nm h).new (.cells []) 3=g1 at *
 have A1:=A0.same s1
 obtain ⟨f3,ra,rc,f4,f5⟩:=A1.got hd
 obtain ⟨a2,c2,h23,q2,y2,K2,md2⟩:=copyQ etI (h:=nm g1) (b:=h.blks.length) c1 (Sl.nm (f5.sl etI.size)) (by omega) (by omega) (all_i64 _) (by simp)
 have q2':zBh Tryz.prog 68 (some 68) (.slice (some ⟨h.blks.length,0,none⟩) 0 0) (.slice ra (gt d).length rc) (nm g1)=some (.slice a2 (gt d).length c2,h23):=q2
 have y2':AI h.blks.length (am h23 g1) (.slice a2 (gt d).length c2) (gt d):=Acc.keep y2 fun _ _ _=>rfl
 have S2:Same (nm h) (am h23 g1):=⟨Nat.le_trans s1.1 K2.len,fun b hb=>(K2.old b hb).trans (s1.2 b hb)⟩
 have len2:h.blks.length+1<=(am h23 g1).blks.length:=by have:=K2.len;have e:(nm g1).blks.length=g1.blks.length:=rfl;have e2:(am h23 g1).blks.length=h23.blks.length:=rfl;omega
 have k3:=mkI1 (m:Nat) (am h23 g1)
 obtain ⟨a4,c4,h27,q4,y4,K4,_⟩:=app_int (h:=nm (am h23 g1)) (n0:=h.blks.length) (by have e:(nm (am h23 g1)).blks.length=(am h23 g1).blks.length:=rfl;omega) (Acc.keep y2' fun _ _ _=>rfl) m (by omega)
 have q4':zBh Tryz.prog 68 (some 68) (.slice a2 (gt d).length c2) (.slice (some ⟨(am h23 g1).blks.length,0,none⟩) 1 1) (nm ((am h23 g1).new (.cells [.int .i64 m]) 3))=some (.slice a4 (gt d++[m]).length c4,h27):=q4
 have md4:=appendV_modsQ q4'
 have S4:Same (nm h) (am h27 ((am h23 g1).new (.cells [.int .i64 m]) 3)):=⟨Nat.le_trans S2.1 K4.len,fun b hb=>(K4.old b hb).trans (S2.2 b hb)⟩
 have A4:=A0.same S4
 have y4':AI 0 (am h27 ((am h23 g1).new (.cells [.int .i64 m]) 3)) (.slice a4 (gt d++[m]).length c4) (gt d++[m]):=Acc.up (Acc.keep y4 fun _ _ _=>rfl) (Nat.zero_le _)
 obtain ⟨g5,st5,A5,kp5,len5,_⟩:=A4.setG hd y4'
 obtain ⟨lv,cp,_⟩:=A5.c
 obtain ⟨f6,ka,kc,f7,f8⟩:=A5.knw hd
 obtain ⟨la5,lc5,l15,at5⟩:=A5.at
 obtain ⟨b',o',aa',ac',ib',_,_,_,b3',bo'⟩:=at5 m hm
 obtain ⟨bv,h45,q6,y6,r6,bxa,bxn,bxc,ebv⟩:=spec_both (h:=nm g5) (Sl.nm (f8.sl etBo.size)) (Sl.nm (bo'.sl etBo.size)) m (by omega) (by omega) (by omega)
 subst ebv
 obtain ⟨y6',m6⟩:=y6.amx
 have A6:=A5.same y6'.same
 have r6':ABo 0 (am h45 g5) (.slice bxa bxn bxc) (bothL (kn d) ms[m].ah m):=Acc.up (Acc.keep r6 fun _ _ _=>rfl) (Nat.zero_le _)
 obtain ⟨g7,st7,A7,kp7,len7,_⟩:=A6.setK hd r6'
 have i1:=iaGt gb n d hd
 have i2:=iaKn kb n d hd
 have ck:∀X:Option (Value × Heap),chk ([(am h23 g1).blks.length]++rb (.pointer (some ⟨p,3,none⟩))) (h27.mods++h23.mods) X=X:=fun X=>chk_ne (fun b hb z hz e=>by
  have hb:b=(am h23 g1).blks.length\/b=p:=by
   simp only[rb_ptr,List.mem_append,List.mem_singleton] at hb
   exact hb
  rcases List.mem_append.1 hz with hz | hz
  ·rcases md4 z hz with k | k
   ·cases k
   ·have k1:=Acc.ge y2' k
    obtain ⟨all,k2⟩:=Acc.blk y2' k
    have k3:=(List.getElem?_eq_some_iff.1 k2).1
    omega
  ·rcases md2 z hz with k | k
   ·cases k
   ·omega) X
 refine ⟨_,?_,⟨?_,?_,?_⟩,A7.same (⟨Nat.le_refl _,fun _ _=>rfl⟩:Same g7 (done h g7))⟩
 ·simp -implicitDefEqProofs (disch:=omega) only[↓c27_0_eq,zAt,faPa1,faPa2,faPa3,faSe2,faSe3,ldSeS,ldGot,ldKnw,ldIr,ldBr,ldU,l1,ib,b2,qi,qt,k1,f3,i1,f4,q2',k3,q4',stIr,st5,ck,f6,i2,f7,l15,ib',b3',q6,m6,stBr,st7,(A1.got hd).1,(A0.got hd).1,List.nil_append,List.append_nil,↓ret27,↓zAc,↓zAb,↓Option.bind_some,↓zAa,sxB,Nat.reduceBEq]
 ·have e1:=S4.1
  have e2:=kp5.1
  have e3:=y6'.len
  have e4:=kp7.1
  show h.blks.length<=g7.blks.length
  omega
 ·intro b hb hlt
  have e1:=S4.2 b hlt
  have e2:=kp5.2.1 b hb (Nat.lt_of_lt_of_le hlt S4.1)
  have e3:=y6'.old b (Nat.lt_of_lt_of_le hlt (Nat.le_trans S4.1 kp5.1))
  have e4:=kp7.2.1 b hb (Nat.lt_of_lt_of_le hlt (Nat.le_trans (Nat.le_trans S4.1 kp5.1) y6'.len))
  exact ((e4.trans e3).trans e2).trans e1
 ·intro b all ty hb t1 t2 t3 t4
  have hlt:=(List.getElem?_eq_some_iff.1 hb).1
  have e1:=S4.2 b hlt
  have e2:=kp5.2.2 b all ty (e1.trans hb) t1 t2 t3 t4
  have e3:=y6'.old b (Nat.lt_of_lt_of_le hlt (Nat.le_trans S4.1 kp5.1))
  have e4:=kp7.2.2 b all ty ((e3.trans (e2.trans e1)).trans hb) t1 t2 t3 t4
  exact ((e4.trans e3).trans e2).trans e1
end
end Go.Am
namespace Go.Am
open Go.Proofs
set_option maxRecDepth 100000
set_option linter.all false
attribute [local congr] zAf zAq zAr zAs zAj zAg
abbrev cntM (l:List SM4) (f:Nat):Nat:=cntQ l f
theorem cntM_le (l:List SM4) (f:Nat):cntM l f<=l.length:=List.length_filter_le ..
theorem cntM_succ (l:List SM4) (f i:Nat) (hi:i<l.length):cntM (l.take (i+1)) f=cntM (l.take i) f+if l[i].f=f then 1 else 0:=by
 unfold cntM cntQ
 rw[List.take_succ,List.getElem?_eq_getElem hi,List.filter_append,List.length_append]
 congr 1
 show (List.filter _ [l[i]]).length=_
 by_cases h:l[i].f=f
 ·rw[if_pos h,List.filter_cons,if_pos (by rw[decide_eq_true_eq];exact h)];rfl
 ·rw[if_neg h,List.filter_cons,if_neg (by rw[decide_eq_true_eq];exact h)];rfl
theorem adQ1 (t:TypeId) (xo yo:Operand) (k:Nat) (hk:k+1<2^64):zBk Tryz.prog .add t xo yo (.int .u64 k) (.int .u64 1)=some (.int .u64 ((k+1:Nat):Int)):=by
 rw[bin_add,show (k:Int)+1=((k+1:Nat):Int) by omega,wrap_u64 (by omega) (by omega)]
theorem etSe:ElemT Tryz.prog 74 73 4 48 (.agg #[.int .i64 0,.int .u64 0,.int .u64 0,.slice none 0 0]):=⟨by kernel_rfl,by kernel_rfl,by kernel_rfl,by kernel_rfl,by omega,rfl,by simp[zBg,ground0]⟩
theorem bdSe (a b c:Int) (x:Option Addr) (n k:Nat):buildV Tryz.prog 73 #[(0,.int .i64 a),(1,.int .u64 b),(2,.int .u64 c),(3,.slice x n k)]=some (.agg #[.int .i64 a,.int .u64 b,.int .u64 c,.slice x n k]):=by kernel_rfl
theorem bsSe (a b c:Int) (x:Option Addr) (n k:Nat) (h:Heap):zAi Tryz.prog 74 1 #[(0,.agg #[.int .i64 a,.int .u64 b,.int .u64 c,.slice x n k])] h=some (.slice (some ⟨h.blks.length,0,none⟩) 1 1,h.new (.cells [.int .i64 a,.int .u64 b,.int .u64 c,.slice x n k]) 73):=by kernel_rfl
section
variable {n0:Nat} {h:Heap} {p kb gb n:Nat} {ms:List SM4} {kn:Nat->List Bool} {gt:Nat->List Nat}
theorem PaV.setL (A:PaV n0 h p kb gb n ms kn gt) {g:Heap} (len:h.blks.length<=g.blks.length) (lowk:∀b,b<n0->b<h.blks.length->g.blks[b]?=h.blks[b]?) (k:∀(b:Nat) (all:List Value) (ty:TypeId),h.blks[b]?=some ⟨.cells all,ty,true⟩->ty≠73->g.blks[b]?=h.blks[b]?)
  {ms':List SM4} {lv':Value} {avs':List Value} (a:Acc n0 g 73 4 lv' ms'.length (List.zipWith smC ms' avs').flatten) (bs:All2 (fun av m=>ABo 0 g av m.ah) avs' ms') :
  ∃h',g.storeN p 1 [lv']=some h'/\PaV n0 h' p kb gb n ms' kn gt/\KpP n0 h h':=by
 obtain ⟨lv,c,_⟩:=A.c
 have cg:=(k p _ _ c (by decide)).trans c
 have lo:=A.lo
 have st:=zAp cg (o:=1) (vs:=[lv']) (by simp)
 have oth:∀ {b:Nat} {all:List Value} {ty:TypeId},g.blks[b]?=some ⟨.cells all,ty,true⟩->ty≠78->b≠p:=fun {b all ty} hb ht e=>by subst e;exact ht (Cells.ty cg hb).symm
 have acc:∀ {el:TypeId} {es m:Nat} {v:Value} {cs:List Value},Acc 0 h el es v m cs->el≠73->Acc 0 g el es v m cs:=fun a t=>a.keep fun b _ hb=>by obtain ⟨all,hh⟩:=a.blk hb;exact k b all _ hh t
 obtain ⟨kv,kc,ka⟩:=A.kn
 obtain ⟨gv,gc,ga⟩:=A.gt
 have kc':=(k kb _ _ kc (by decide)).trans kc
 have gc':=(k gb _ _ gc (by decide)).trans gc
 refine ⟨_,st,⟨⟨lv',Cells.put cg _,avs',Acc.keepPut a (fun e=>by obtain ⟨all,hh⟩:=a.blk e;exact oth hh (by decide) rfl) _,bs.mono fun _ _ y=>Acc.keepPut y (fun e=>by obtain ⟨all,hh⟩:=Acc.blk y e;exact oth hh (by decide) rfl) _⟩,⟨kv,Cells.keepPut kc' (fun e=>oth kc' (by decide) e.symm) _,fun i hi=>Acc.keepPut (acc (ka i hi) (by decide)) (fun e=>by obtain ⟨all,hh⟩:=Acc.blk (acc (ka i hi) (by decide)) e;exact oth hh (by decide) rfl) _⟩,⟨gv,Cells.keepPut gc' (fun e=>oth gc' (by decide) e.symm) _,fun i hi=>Acc.keepPut (acc (ga i hi) (by decide)) (fun e=>by obtain ⟨all,hh⟩:=Acc.blk (acc (ga i hi) (by decide)) e;exact oth hh (by decide) rfl) _⟩,A.lo⟩,⟨by rw[Heap.put_len];exact len,fun b hb hl=>(Heap.put_other (by omega) _).trans (lowk b hb hl),fun b all ty hb t1 t2 _ _=>?_⟩⟩
 have e:=k b all ty hb t2
 exact (Heap.put_other (fun e2=>oth (e.trans hb) t1 e2) _).trans e
theorem tsend_loop {Q:Option (Value × Heap)->Prop} {kk:Ex->St->Option (Value × Heap)} (A:PaV n0 h p kb gb n ms kn gt) {f:Nat} {tv:Value} (hml:ms.length<2^38)
  (hk:∀y:Nat->Value,y 0=.pointer (some ⟨p,0,none⟩)->y 1=.int .i64 f->y 2=tv->y 7=.int .u64 ((cntM ms f+1:Nat):Int)->Q (kk .normal ⟨ar 74 y,h⟩)) :
  ∀(mm i:Nat),ms.length=i+mm->∀x:Nat->Value,x 0=.pointer (some ⟨p,0,none⟩)->x 1=.int .i64 f->x 2=tv->x 7=.int .u64 ((cntM (ms.take i) f+1:Nat):Int)->x 8=.int .i64 i->
  Q (lK c22_1 74 x h (zAu 0 kk)):=by
 intro mm
 obtain ⟨la,lc,l1,at1⟩:=A.at
 induction mm with
 | zero=>
  intro i hi x Aa Ab Ac Ah Ai
  obtain rfl:i=ms.length:=by omega
  rw[List.take_length] at Ah
  rw[lK_eq]
  simp -implicitDefEqProofs (disch:=omega) only[↓c22_1_eq,dcF,Aa,Ai,zAt,faPa1,ldSeS,l1,lnSe,↓zAc,↓zAb,↓Option.bind_some,↓zAa,sxB,Nat.reduceBEq]
  exact hk _ Aa Ab Ac Ah
 | succ mm ih=>
  intro i hi x Aa Ab Ac Ah Ai
  have hil:i<ms.length:=by omega
  rw[lK_eq]
  obtain ⟨b,o,_,_,ib,b0,_,_,_,_⟩:=at1 i hil
  have wi:IntKind.i64.wrap ((i:Int)+1)=((i+1:Nat):Int):=by rw[wrap_i64]<;>omega
  have cs:=cntM_succ ms f i hil
  have cl:=cntM_le (ms.take i) f
  rw[List.length_take] at cl
  by_cases hf:ms[i].f=f
  ·rw[if_pos hf] at cs
   have d1:decide ((ms[i].f:Int)=f)=true:=decide_eq_true (by omega)
   have ad:=fun t xo yo=>adQ1 t xo yo (cntM (ms.take i) f+1) (by omega)
   simp -implicitDefEqProofs (disch:=omega) only[↓c22_1_eq,dcT,Aa,Ab,Ah,Ai,zAt,faPa1,ldSeS,l1,lnSe,ib,faSe0,ldI,b0,d1,ad,wi,↓zAc,↓zAb,↓Option.bind_some,↓zAa,sxB,Nat.reduceBEq]
   refine ih (i+1) (by omega) _ Aa Ab Ac ?_ rfl
   show Value.int .u64 ((cntM (ms.take i) f+1+1:Nat):Int)=_
   rw[cs]
  ·rw[if_neg hf] at cs
   have d1:decide ((ms[i].f:Int)=f)=false:=decide_eq_false (by omega)
   simp -implicitDefEqProofs (disch:=omega) only[↓c22_1_eq,dcT,Aa,Ab,Ah,Ai,zAt,faPa1,ldSeS,l1,lnSe,ib,faSe0,ldI,b0,d1,wi,↓zAc,↓zAb,↓Option.bind_some,↓zAa,sxB,Nat.reduceBEq]
   exact ih (i+1) (by omega) _ Aa Ab Ac (by show x 7=_;rw[Ah,cs]) rfl
theorem spec_TSend (A:PaV n0 h p kb gb n ms kn gt) {f to:Nat} (hf:f<n) (hml:ms.length<2^37) (hkl:(kn f).length<2^38) (hl0:n0<=h.blks.length) :
  ∃h',evC Tryz.prog 22 #[.pointer (some ⟨p,0,none⟩),.int .i64 f,.int .u64 to] h=some (.int .i64 ms.length,h')/\KpP n0 h h'/\PaV n0 h' p kb gb n (ms++[⟨f,cntM ms f+1,to,kn f⟩]) (updF kn f (bothL (kn f) [] ms.length)) gt:=by
 rw[call22]
 have A0:=A.same (sameNm h)
 have hp:=A.plt
 have e0:(nm h).blks.length=h.blks.length:=rfl
 simp -implicitDefEqProofs (disch:=omega) only[↓c22_0_eq,↓zAc,↓zAb,↓Option.bind_some,↓zAa,sxB,Nat.reduceBEq]
 refine tsend_loop (Q:=fun r=>∃h',r=some (Value.int .i64 ms.length,h')/\KpP n0 h h'/\PaV n0 h' p kb gb n (ms++[⟨f,cntM ms f+1,to,kn f⟩]) (updF kn f (bothL (kn f) [] ms.length)) gt) (tv:=.int .u64 to) (f:=f) A0 (by omega) (fun y y0 y1 y2 y7=>?_) ms.length 0 (by omega) _ ?_ ?_ ?_ ?_ ?_
 rotate_left
 ·rfl
 ·rfl
 ·rfl
 ·rfl
 ·rfl
 obtain ⟨la,lc,l1,_⟩:=A0.at
 have k1:=mkBo0 (nm h)
 have c1:=Cells.new (nm h) 4 []
 have s1:Same (nm h) ((nm h).new (.cells []) 4):=Same.new _ _ _
 have len1:((nm h).new (.cells []) 4).blks.length=h.blks.length+1:=by simp[Heap.new]
 rw[e0] at k1 c1
 generalize (nm h).new (.cells []) 4=g1 at *
 have A1:=A0.same s1
 obtain ⟨f3,ra,rc,f4,f5⟩:=A1.knw hf
 obtain ⟨a2,c2,h30,q2,y2',K2,md2⟩:=copyQ etBo (h:=nm g1) (b:=h.blks.length) c1 (Sl.nm (f5.sl etBo.size)) (by omega) (by omega) (all_bo _) (by simp)
 have q2':zBh Tryz.prog 71 (some 71) (.slice (some ⟨h.blks.length,0,none⟩) 0 0) (.slice ra (kn f).length rc) (nm g1)=some (.slice a2 (kn f).length c2,h30):=q2
 have r2:ABo 0 (am h30 g1) (.slice a2 (kn f).length c2) (kn f):=Acc.up (Acc.keep y2' fun _ _ _=>rfl) (Nat.zero_le _)
 have S2:Same (nm h) (am h30 g1):=⟨Nat.le_trans s1.1 K2.len,fun b hb=>(K2.old b hb).trans (s1.2 b hb)⟩
 have bd:=bdSe (f:Nat) ((cntM ms f+1:Nat):Int) (to:Nat) a2 (kn f).length c2
 have bs:=bsSe (f:Nat) ((cntM ms f+1:Nat):Int) (to:Nat) a2 (kn f).length c2 (am h30 g1)
 have A2:=A0.same S2
 obtain ⟨lv,cp,avs,a,ab⟩:=A2.c
 obtain ⟨la',lc',rfl⟩:=a.shape
 have hla:la'=la/\lc'=lc:=by
  have l1':(am h30 g1).load1 p 1=some (.slice la' ms.length lc'):=cp.load 1
  have:(am h30 g1).load1 p 1=(nm h).load1 p 1:=by
   obtain ⟨_,cp0,_⟩:=A0.c
   rw[(cp0.same S2).load 1,cp0.load 1]
  rw[this,l1] at l1'
  cases l1'
  exact ⟨rfl,rfl⟩
 obtain ⟨rfl,rfl⟩:=hla
 have al:=ab.lenQ
 have g2l:=S2.1
 have S3:Same (am h30 g1) ((am h30 g1).new (.cells (smC ⟨f,cntM ms f+1,to,kn f⟩ (.slice a2 (kn f).length c2))) 73):=Same.new _ _ _
 have row:Row ((am h30 g1).new (.cells (smC ⟨f,cntM ms f+1,to,kn f⟩ (.slice a2 (kn f).length c2))) 73) 4 (.slice (some ⟨(am h30 g1).blks.length,0,none⟩) 1 1) 1 (smC ⟨f,cntM ms f+1,to,kn f⟩ (.slice a2 (kn f).length c2)):=.mk (loadN_blk (zBn _ _ _) rfl)
 obtain ⟨v',h35,e1,e2,e3,e4,e5⟩:=append_acc etSe (t1:=some 74) (n0:=n0) (by have:=S3.1;omega) (a.same S3) (newsV_row etSe.under row) (by simp[smC]) (by omega) (by omega) rfl
 obtain ⟨la3,lc3,rfl⟩:=e2.shape
 have e1':zBh Tryz.prog 74 (some 74) (.slice la' ms.length lc') (.slice (some ⟨(am h30 g1).blks.length,0,none⟩) 1 1) ((am h30 g1).new (.cells [.int .i64 f,.int .u64 ((cntM ms f+1:Nat):Int),.int .u64 to,.slice a2 (kn f).length c2]) 73)=some (.slice la3 (ms.length+1) lc3,h35):=e1
 have k35:∀(b:Nat) (all:List Value) (ty:TypeId),(am h30 g1).blks[b]?=some ⟨.cells all,ty,true⟩->ty≠73->h35.blks[b]?=(am h30 g1).blks[b]?:=fun b all ty hb ht=>by
  have hlt:=(List.getElem?_eq_some_iff.1 hb).1
  refine (e4 b (Nat.lt_of_lt_of_le hlt S3.1) fun e=>?_).trans (S3.2 b hlt)
  obtain ⟨all',hh⟩:=a.blk e
  rw[hb] at hh
  simp only[Option.some.injEq,Blk.mk.injEq] at hh
  exact ht hh.2.1
 have len35:(am h30 g1).blks.length<=h35.blks.length:=Nat.le_trans S3.1 e3.len
 have bl:∀ {v:Value} {l:List Bool},ABo 0 (am h30 g1) v l->ABo 0 h35 v l:=fun {v l} x=>Acc.keep x fun b _ hb=>by obtain ⟨all,hh⟩:=Acc.blk x hb;exact k35 b all _ hh (by decide)
 have e2':Acc n0 h35 73 4 (.slice la3 (ms.length+1) lc3) (ms++[(⟨f,cntM ms f+1,to,kn f⟩:SM4)]).length (List.zipWith smC (ms++[⟨f,cntM ms f+1,to,kn f⟩]) (avs++[.slice a2 (kn f).length c2])).flatten:=by
  rw[List.zipWith_append al.symm,List.flatten_append,List.length_append]
  simpa using e2
 have ab':All2 (fun av m=>ABo 0 h35 av m.ah) (avs++[.slice a2 (kn f).length c2]) (ms++[(⟨f,cntM ms f+1,to,kn f⟩:SM4)]):=(ab.mono fun _ _ x=>bl x).append (.cons (bl r2) .nil)
 obtain ⟨h38,st38,A38,kp38⟩:=A2.setL len35 (fun b hb hl=>(e3.old b hb).trans (S3.2 b hl)) k35 e2' ab'
 have ck:∀X:Option (Value × Heap),chk (rb (.pointer (some ⟨p,1,none⟩))) h30.mods X=X:=fun X=>chk_ne (fun b hb z hz e=>by
  have hb:b=p:=by simpa [rb_ptr] using hb
  rcases md2 z hz with k | k
  ·cases k
  ·omega) X
 obtain ⟨f6,ka,kc,f7,f8⟩:=A38.knw hf
 obtain ⟨bv,h48,q6,y6,r6,bxa,bxn,bxc,ebv⟩:=spec_both (h:=nm h38) (vb:=.slice none 0 0) (b:=[]) (Sl.nm (f8.sl etBo.size)) Sl.nil ms.length (by omega) (by omega) (by simp)
 subst ebv
 obtain ⟨y6',m6⟩:=y6.amx
 have A6:=A38.same y6'.same
 have r6':ABo 0 (am h48 h38) (.slice bxa bxn bxc) (bothL (kn f) [] ms.length):=Acc.up (Acc.keep r6 fun _ _ _=>rfl) (Nat.zero_le _)
 obtain ⟨h50,st50,A50,kp50,len50,_⟩:=A6.setK hf r6'
 have i2:=iaKn kb n f hf
 refine ⟨_,?_,?_,A50.same (⟨Nat.le_refl _,fun _ _=>rfl⟩:Same h50 (done h h50))⟩
 ·simp -implicitDefEqProofs (disch:=omega) only[↓c22_2_eq,y0,y1,y2,y7,zAt,faPa1,faPa2,ldSeS,ldKnw,ldBr,l1,lnSe,k1,f3,i2,f4,q2',bd,bs,e1',stSeS,st38,ck,f6,f7,q6,m6,stBr,st50,List.nil_append,List.append_nil,↓ret22,↓zAc,↓zAb,↓Option.bind_some,↓zAa,sxB,Nat.reduceBEq]
 ·have S2':Same h (am h30 g1):=S2
  exact (((S2'.kpP (n0:=n0)).trans kp38).trans (y6'.same.kpP)).trans (kp50.trans (Same.kpP (show Same h50 (done h h50) from ⟨Nat.le_refl _,fun _ _=>rfl⟩)))
end
end Go.Am
namespace Go.Am
open Go.Proofs
set_option maxRecDepth 100000
set_option linter.all false
attribute [local congr] zAf zAq zAr zAs zAj zAg
theorem All2.monoZ {α β:Type} {R S:α->β->Prop} {l:List α} {m:List β} (h:All2 R l m) (k:∀a∈l,∀b,R a b->S a b):All2 S l m:=by
 induction h with
 | nil=>exact .nil
 | cons x _ ih=>exact .cons (k _ (by simp) _ x) (ih fun a ha b r=>k a (List.mem_cons_of_mem _ ha) b r)
def EnZ (Z:Nat->Prop) (h:Heap) (p:Nat) (n me:Int) (m:List (List Nat)) (g:List Nat):Prop:=∃rv gv vs,Cells h p 123 [.int .i64 n,.int .i64 me,.int .i64 n,rv,gv]/\AMv 45 0 h rv vs m/\AU 0 h gv g/\(∀x∈vs,∀b,zAn x=some b->¬Z b)/\∀b,zAn gv=some b->¬Z b
theorem EnZ.en {Z:Nat->Prop} {h:Heap} {p:Nat} {n me:Int} {m:List (List Nat)} {g:List Nat} (E:EnZ Z h p n me m g):En 0 h p n me m g:=let ⟨rv,gv,vs,c,a,u,_⟩:=E;⟨rv,gv,c,⟨vs,a⟩,u⟩
theorem EnZ.kp {Z:Nat->Prop} {h h':Heap} {p:Nat} {n me:Int} {m:List (List Nat)} {g:List Nat} (E:EnZ Z h p n me m g) (k:∀(b:Nat) (all:List Value) (ty:TypeId),h.blks[b]?=some ⟨.cells all,ty,true⟩->(ty=123/\b=p\/ty=45\/ty=30/\¬Z b)->h'.blks[b]?=h.blks[b]?):EnZ Z h' p n me m g:=by
 obtain ⟨rv,gv,vs,c,a,u,z1,z2⟩:=E
 refine ⟨rv,gv,vs,(k _ _ _ c (.inl ⟨rfl,rfl⟩)).trans c,⟨a.out.keep fun b _ hb=>by obtain ⟨all,hh⟩:=a.out.blk hb;exact k b all _ hh (.inr (.inl rfl)),a.rows.monoZ fun x hx r y=>Acc.keep y fun b _ hb=>by obtain ⟨all,hh⟩:=Acc.blk y hb;exact k b all _ hh (.inr (.inr ⟨rfl,z1 x hx b hb⟩)),a.apart⟩,u.keep fun b _ hb=>by obtain ⟨all,hh⟩:=u.blk hb;exact k b all _ hh (.inr (.inr ⟨rfl,z2 b hb⟩)),z1,z2⟩
theorem EnZ.of {Z:Nat->Prop} {h:Heap} {L p:Nat} {n me:Int} {rv gv:Value} {m:List (List Nat)} {g:List Nat} (E:EnC 0 h p n me rv gv m g) (a:AM 45 L h rv m) (hZ:∀b,Z b->b<L) (z2:∀b,zAn gv=some b->¬Z b):EnZ Z h p n me m g:=by
 obtain ⟨vs,a⟩:=a
 refine ⟨rv,gv,vs,E.c,⟨a.out.up (Nat.zero_le _),a.rows.mono fun _ _ y=>Acc.up y (Nat.zero_le _),a.apart⟩,E.au,fun x hx b hb hz=>?_,z2⟩
 have:=hZ b hz
 have key:∀ {l:List Value} {k:List (List Nat)},All2 (AU L h) l k->∀x∈l,∀b,zAn x=some b->L<=b:=by
  intro l k hl
  induction hl with
  | nil=>intro x hx;cases hx
  | cons y _ ih=>
   intro x hx b hb
   rcases List.mem_cons.1 hx with rfl | hx
   ·exact Acc.ge y hb
   ·exact ih x hx b hb
 have:=key a.rows x hx b hb
 omega
def Zs (ps:List (Nat × Nat)) (b:Nat):Prop:=∃i,∃hi:i<ps.length,b=ps[i].2
structure WdOk (n:Nat) (X:Tr) (rk tk:Nat->Nat->Nat) (a d:Nat) (w:Wd) (j:Nat):Prop where
 frm:w.frm=a
 plc:w.plc=rk a j
 num:w.num=j+1
 to:w.to=X.T a j
 lb:∃g,w.lb=logB g/\StOk X tk a j d g
 fb:w.fb=stampM n (mxK n X (X.A a j))
structure FSt (h0 h:Heap) (n bw p kb gb k:Nat) (ps:List (Nat × Nat)) (fs:List Nat) (pv fv:Value) (X:Tr) (N:Nat) (rk V tk:Nat->Nat->Nat) (E:Nat->List E3) (S:Nat->List Nat) (ms:List SM4) (kn:Nat->List Bool) (gt:Nat->List Nat) (wv:Nat->Value) (lv:Nat->List (Value × Value)) (W:Nat->List Wd):Prop where
 sm:Same h0 h
 G:LGrp h n h0.blks.length ps E S X.c
 lps:ps.length=n
 F:∀i (hi:i<fs.length),EnZ (Zs ps) h fs[i] n (i:Nat) (mxK n X (V i)) (vxT n X tk i)
 lfs:fs.length=n
 flo:∀i (hi:i<fs.length),h0.blks.length<=fs[i]
 fne:fs.Pairwise (· ≠ ·)
 pr:Acc h0.blks.length h 24 1 pv n (ps.map ptrW)
 fr:Acc h0.blks.length h 57 1 fv n (fs.map ptrF)
 Wy:Ways h h0.blks.length bw (n*n) wv lv W
 P:PaV h0.blks.length h p kb gb n ms kn gt
 gi:GI n X N rk V tk E
 tl:TL n X N rk V tk ms kn gt
 sn:∀i,i<n->(S i).length=n/\∀f,f<n->(S i).getD f 0=tk i f
 li:∀i,i<n->LInv (i:Nat) (E i)
 wds:∀a d,a<n->d<n->All2 (fun w j=>WdOk n X rk tk a d w j) (W (a*n+d)) (wayJ X tk a d)
 Nk:N<=k
 ck:∀a,X.c a<=N
 gl:∀d,(gt d).length<=k
 gN:∀d,∀x∈gt d,x<N
section
variable {h0 h:Heap} {n bw p kb gb k:Nat} {ps:List (Nat × Nat)} {fs:List Nat} {pv fv:Value} {X:Tr} {N:Nat} {rk V tk:Nat->Nat->Nat} {E:Nat->List E3} {S:Nat->List Nat} {ms:List SM4} {kn:Nat->List Bool} {gt:Nat->List Nat} {wv:Nat->Value} {lv:Nat->List (Value × Value)} {W:Nat->List Wd}
theorem EnZ.same {Z:Nat->Prop} {h h':Heap} {p:Nat} {n me:Int} {m:List (List Nat)} {g:List Nat} (E:EnZ Z h p n me m g) (e:Same h h'):EnZ Z h' p n me m g:=E.kp fun b _ _ hb _=>e.2 b (List.getElem?_eq_some_iff.1 hb).1
theorem FSt.same {h':Heap} (L:FSt h0 h n bw p kb gb k ps fs pv fv X N rk V tk E S ms kn gt wv lv W) (e:Same h h'):FSt h0 h' n bw p kb gb k ps fs pv fv X N rk V tk E S ms kn gt wv lv W:=
 { L with sm:=L.sm.trans e,G:=L.G.same e,F:=fun i hi=>(L.F i hi).same e,pr:=L.pr.same e,fr:=L.fr.same e,Wy:=L.Wy.same e,P:=L.P.same e }
theorem FSt.up {k':Nat} (L:FSt h0 h n bw p kb gb k ps fs pv fv X N rk V tk E S ms kn gt wv lv W) (hk:k<=k'):FSt h0 h n bw p kb gb k' ps fs pv fv X N rk V tk E S ms kn gt wv lv W:=
 { L with Nk:=Nat.le_trans L.Nk hk,gl:=fun d=>Nat.le_trans (L.gl d) hk }
theorem FSt.ok (L:FSt h0 h n bw p kb gb k ps fs pv fv X N rk V tk E S ms kn gt wv lv W) (h1:1<=n) (hn:n<=6) (hk:k<=100) {i:Nat} (hi:i<n):EnOk n (i:Nat) (mxK n X (V i)) (vxT n X tk i):=by
 have cb:∀a,X.c a<2^20:=fun a=>by have:=L.ck a;have:=L.Nk;omega
 refine ⟨mx_good n h1 (by omega) _,by omega,by omega,by unfold vxT;rw[vx_len],mx_lt fun a b=>?_,vx_lt fun a=>?_⟩
 ·have:=cT_le X a b (V i a)
  have:=L.gi.vc i a
  have:=cb a
  omega
 ·have:=cT_le X a i (tk i a)
  have:=L.gi.tv i a
  have:=L.gi.vc i a
  have:=cb a
  omega
theorem log_ok {es:List E3} {V:Nat->Nat} (l:LogOk X V es) (hV:∀a,V a<=100) (h0:∀a,n<=a->V a=0) (hn:n<=6):wide es/\es.length<=606/\getP (logB es)=some es/\(logB es).length<2^20:=by
 have len:=GI.len (N:=0) l hV h0
 have l2:es.length<=606:=Nat.le_trans len (Nat.le_trans (Nat.mul_le_mul_right 101 hn) (by omega))
 have w:wide es:=fun e he=>by
  have:=may_of l.good he
  obtain ⟨f,_,h2,_⟩:=l.ent e he
  have:=hV f
  exact ⟨by omega,by omega⟩
 have le:=encL_le es (fun e he=>by have:=may_of l.good he;omega) w
 have pl:=putL_le es.length (by omega)
 exact ⟨w,l2,get_put l.good w (by omega),by unfold logB;rw[List.length_append];omega⟩
theorem putLs_le:∀(l:List Nat),(∀y∈l,y<2^64)->(putLs l).length<=10*l.length
 | [],_=>Nat.zero_le _
 | a::l,h=>by
  have:=putLs_le l fun y hy=>h y (by simp[hy])
  have h2:=putL_le a (h a (by simp))
  show ((a::l).flatMap putL).length<=_
  rw[List.flatMap_cons,List.length_append,List.length_cons]
  have h3:(l.flatMap putL).length<=10*l.length:=this
  omega
theorem stamp_len {n:Nat} (hn:n<=6) {F:Nat->Nat->Nat} (hF:∀a b,F a b<2^64):(stampM n (mx n F)).length<2^20:=by
 unfold stampM
 split
 ·refine Nat.lt_of_le_of_lt (putLs_le _ fun y hy=>?_) ?_
  ·obtain ⟨r,hr,hy⟩:=List.mem_flatten.1 hy
   exact mx_lt hF r hr y hy
  ·have e:(mx n F).flatten.length=n*n:=by
    unfold mx
    rw[List.length_flatten,List.map_map]
    have:(List.length ∘ fun a=>(List.range n).map fun b=>F a b)=fun _=>n:=by funext a;simp
    rw[this,List.map_const',List.length_range,List.sum_replicate_nat]
   rw[e]
   have:=Nat.mul_le_mul hn hn
   omega
 ·simp
theorem FSt.head (L:FSt h0 h n bw p kb gb k ps fs pv fv X N rk V tk E S ms kn gt wv lv W) (h1:1<=n) (hn:n<=6) (hk:k<=100) {a d:Nat} (ha:a<n) (hd:d<n) {w:Wd} {ws:List Wd} (hw:W (a*n+d)=w::ws) :
  ∃j js g,wayJ X tk a d=j::js/\WdOk n X rk tk a d w j/\w.lb=logB g/\StOk X tk a j d g/\getP w.lb=some g/\wide g/\g.length<=606/\w.lb.length<2^20/\w.fb.length<2^20/\j<X.c a/\tk d a<=j/\(X.T a j).testBit d=true/\(∃hr:rk a j<ms.length,canTB ms ms[rk a j] (gt d) d (rk a j)=canE n (d:Nat) (S d) (w.frm:Nat) w.num w.lb) ∧
   canFE n (d:Nat) (vxT n X tk d) (w.frm:Nat) w.fb=canE n (d:Nat) (S d) (w.frm:Nat) w.num w.lb/\(canE n (d:Nat) (S d) (w.frm:Nat) w.num w.lb=true ↔ CanT X tk a j d):=by
 have q:=L.wds a d ha hd
 rw[hw] at q
 generalize hjs:wayJ X tk a d=l at q
 cases q with
 | cons hok hr=>
  rename_i j js
  have hj:j∈wayJ X tk a d:=by rw[hjs];exact List.mem_cons_self
  obtain ⟨j1,j2,j3⟩:=wayJ_mem.1 hj
  obtain ⟨g,g1,g2⟩:=hok.lb
  have cb:∀x,X.c x<=100:=fun x=>by have:=L.ck x;have:=L.Nk;omega
  obtain ⟨o1,o2,o3,o4⟩:=log_ok (n:=n) g2.1 (fun x=>Nat.le_trans (L.gi.ac a j x j1) (cb x)) (fun x hx=>by have:=L.gi.ac a j x j1;have:=L.gi.out x hx;omega) hn
  have fl:w.fb.length<2^20:=by
   rw[hok.fb]
   exact stamp_len hn fun x y=>by have:=cT_le X x y (X.A a j x);have:=L.gi.ac a j x j1;have:=cb x;omega
  obtain ⟨s1,s2⟩:=L.sn d hd
  have at':∀f,f<n->atN (S d) (f:Nat)=tk d f:=fun f hf=>by
   unfold atN
   rw[if_neg (by omega),Int.toNat_natCast]
   exact s2 f hf
  have c1:canE n (d:Nat) (S d) (w.frm:Nat) w.num w.lb=true ↔ CanT X tk a j d:=by
   rw[hok.frm,hok.num]
   exact can_iff L.gi (by omega) ha j1 hd j3 g2 at' (by rw[g1];exact o3)
  have c2:canFE n (d:Nat) (vxT n X tk d) (w.frm:Nat) w.fb=true ↔ CanT X tk a j d:=by
   rw[hok.frm,hok.fb]
   exact full_can L.gi h1 (by omega) (fun x=>by have:=cb x;omega) ha j1 hd j3
  obtain ⟨hr',_⟩:=L.tl.at' a j j1
  have c3:=L.tl.can L.gi (by omega) j1 hd j3 j2 hr'
  exact ⟨j,js,g,rfl,hok,g1,g2,by rw[g1];exact o3,o1,o2,by rw[g1];exact o4,fl,j1,j2,j3,⟨hr',Bool.eq_iff_iff.2 (c3.trans c1.symm)⟩,Bool.eq_iff_iff.2 (c2.trans c1.symm),c1⟩
end
end Go.Am
namespace Go.Am
open Go.Proofs
set_option maxRecDepth 100000
set_option linter.all false
attribute [local congr] zAf zAq zAr zAs zAj zAg
theorem faWv0 (p:Nat):zAe Tryz.prog 80 (.pointer (some ⟨p,0,none⟩)) 0=some (.pointer (some ⟨p,0,none⟩)):=by kernel_rfl
theorem faWv1 (p:Nat):zAe Tryz.prog 80 (.pointer (some ⟨p,0,none⟩)) 1=some (.pointer (some ⟨p,1,none⟩)):=by kernel_rfl
theorem faWv2 (p:Nat):zAe Tryz.prog 80 (.pointer (some ⟨p,0,none⟩)) 2=some (.pointer (some ⟨p,2,none⟩)):=by kernel_rfl
theorem faWv3 (p:Nat):zAe Tryz.prog 80 (.pointer (some ⟨p,0,none⟩)) 3=some (.pointer (some ⟨p,3,none⟩)):=by kernel_rfl
theorem faWv4 (p:Nat):zAe Tryz.prog 80 (.pointer (some ⟨p,0,none⟩)) 4=some (.pointer (some ⟨p,4,none⟩)):=by kernel_rfl
theorem faWv5 (p:Nat):zAe Tryz.prog 80 (.pointer (some ⟨p,0,none⟩)) 5=some (.pointer (some ⟨p,5,none⟩)):=by kernel_rfl
theorem ldWo (p o:Nat) (h:Heap):zAw Tryz.prog 80 (.pointer (some ⟨p,o,none⟩)) h=(h.loadN p o 6).map fun vs=>.agg vs.toArray:=by kernel_rfl
theorem alWo (h:Heap):zBp Tryz.prog 80 h=some (.pointer (some ⟨h.blks.length,0,none⟩),h.new (.cells [.int .i64 0,.int .i64 0,.int .u64 0,.int .u64 0,.slice none 0 0,.slice none 0 0]) 80):=by kernel_rfl
theorem stWo (p:Nat) (a b c d:Int) (x y:Option Addr) (l k m q:Nat) (h:Heap):zBc Tryz.prog 80 (.pointer (some ⟨p,0,none⟩)) (.agg #[.int .i64 a,.int .i64 b,.int .u64 c,.int .u64 d,.slice x l k,.slice y m q]) h=h.storeN p 0 [.int .i64 a,.int .i64 b,.int .u64 c,.int .u64 d,.slice x l k,.slice y m q]:=by kernel_rfl
theorem var_wd (h:Heap) (w:Wd) (x y:Option Addr) (l k m q:Nat):∃hA h',zBp Tryz.prog 80 h=some (.pointer (some ⟨h.blks.length,0,none⟩),hA)/\zBc Tryz.prog 80 (.pointer (some ⟨h.blks.length,0,none⟩)) (.agg (wdC w (.slice x l k,.slice y m q)).toArray) hA=some h'/\Cells h' h.blks.length 80 (wdC w (.slice x l k,.slice y m q))/\Same h h':=by
 have c:=Cells.new h 80 [.int .i64 0,.int .i64 0,.int .u64 0,.int .u64 0,.slice none 0 0,.slice none 0 0]
 have c':Cells ((h.new (.cells [.int .i64 0,.int .i64 0,.int .u64 0,.int .u64 0,.slice none 0 0,.slice none 0 0]) 80).put h.blks.length (.cells (wdC w (.slice x l k,.slice y m q)))) h.blks.length 80 (wdC w (.slice x l k,.slice y m q)):=c.put _
 refine ⟨_,_,alWo h,?_,c',(Same.new h _ _).put (Nat.le_refl _) _⟩
 rw[show zBc Tryz.prog 80 (.pointer (some ⟨h.blks.length,0,none⟩)) (.agg (wdC w (.slice x l k,.slice y m q)).toArray) _=_ from stWo _ _ _ _ _ _ _ _ _ _ _ _,zAp c (by simp)];rfl
theorem remN (t:TypeId) (xo yo:Operand) (a b:Nat) (hb:0<b) (hb2:b<2^62):zBk Tryz.prog .rem t xo yo (.int .i64 a) (.int .i64 b)=some (.int .i64 ((a % b:Nat):Int)):=by
 refine bin_int t xo yo .i64 .i64 a b .rem rfl ?_
 have h1:¬((b:Int)=0):=by omega
 have e:((a % b:Nat):Int)=(a:Int).tmod b:=by
  rw[Int.tmod_eq_emod_of_nonneg (by omega)]
  push_cast;rfl
 have hlt:=Nat.mod_lt a hb
 simp only[eqGuard,Go.binOp,Op.intDiv]
 rw[if_neg h1,<-e]
 rfl
theorem bneqF (xo yo:Operand) (a b:Bool):zBk Tryz.prog .neq 4 xo yo (.bool a) (.bool b)=some (.bool (!(a == b))):=bin_bneq _ _ _ _ (by cases a<;>cases b<;>kernel_rfl)
theorem bb_neF (r:Bool):(!(r == r))=false:=by cases r<;>rfl
theorem iaWsF (bw N i:Nat) (hi:i<N):zAh Tryz.prog 62 (.slice (some ⟨bw,0,none⟩) N N) (.int .i64 i)=some (.pointer (some ⟨bw,i,none⟩)):=by
 have hu:Tryz.prog.underlying 62=some (.slice 70):=by kernel_rfl
 have hs:sizeT Tryz.prog 70=some 1:=by kernel_rfl
 unfold zAh
 simp only[hu,zBq,hs]
 rw[if_pos hi]
 simp
theorem lnWo (a:Option Addr) (n c:Nat) (h:Heap):lenV Tryz.prog 70 (.slice a n c) h=some (.int .i64 n):=by kernel_rfl
theorem WayV.shapeF {n0:Nat} {h:Heap} {v:Value} {lvs:List (Value × Value)} {ws:List Wd} (w:WayV n0 h v lvs ws):∃a c,v=.slice a ws.length c:=Acc.shape w.row
theorem ldByF (p o:Nat) (h:Heap):zAw Tryz.prog 35 (.pointer (some ⟨p,o,none⟩)) h=h.load1 p o:=by kernel_rfl
structure KF (b x:Nat->Value):Prop where
 e0:x 0=b 0
 e1:x 1=b 1
 e5:x 5=b 5
 e6:x 6=b 6
 e12:x 12=b 12
 e13:x 13=b 13
 e14:x 14=b 14
section
variable {h0 h:Heap} {n bw p kb gb k:Nat} {ps:List (Nat × Nat)} {fs:List Nat} {pv fv:Value} {X:Tr} {N:Nat} {rk V tk:Nat->Nat->Nat} {E:Nat->List E3} {S:Nat->List Nat} {ms:List SM4} {kn:Nat->List Bool} {gt:Nat->List Nat} {wv:Nat->Value} {lv:Nat->List (Value × Value)} {W:Nat->List Wd}
theorem FSt.engL (L:FSt h0 h n bw p kb gb k ps fs pv fv X N rk V tk E S ms kn gt wv lv W) {d:Nat} (hd:d<n) (pP:d<ps.length) :
  ∃ad,zAh Tryz.prog 55 pv (.int .i64 d)=some (.pointer (some ad))/\zAw Tryz.prog 24 (.pointer (some ad)) h=some (.pointer (some ⟨ps[d].1,0,none⟩)):=by
 obtain ⟨a,e1,e2,_⟩:=(Acc.sl L.pr etP.size).row.at1 etP.under etP.size (by kernel_rfl) hd .i64
 refine ⟨a,e1,?_⟩
 rw[e2,List.getElem?_map,List.getElem?_eq_getElem pP];rfl
theorem FSt.engF (L:FSt h0 h n bw p kb gb k ps fs pv fv X N rk V tk E S ms kn gt wv lv W) {d:Nat} (hd:d<n) (pF:d<fs.length) :
  ∃ad,zAh Tryz.prog 56 fv (.int .i64 d)=some (.pointer (some ad))/\zAw Tryz.prog 57 (.pointer (some ad)) h=some (.pointer (some ⟨fs[d],0,none⟩)):=by
 obtain ⟨a,e1,e2,_⟩:=(Acc.sl L.fr etPF.size).row.at1 etPF.under etPF.size (by kernel_rfl) hd .i64
 refine ⟨a,e1,?_⟩
 rw[e2,List.getElem?_map,List.getElem?_eq_getElem pF];rfl
theorem FSt.tcan (L:FSt h0 h n bw p kb gb k ps fs pv fv X N rk V tk E S ms kn gt wv lv W) (hn:n<=6) (hk:k<=100) {d m:Nat} (hd:d<n) (hm:m<ms.length):evC Tryz.prog 24 #[.pointer (some ⟨p,0,none⟩),.int .i64 d,.int .i64 m] h=some (.bool (canTB ms ms[m] (gt d) d m),h):=by
 have l1:=L.tl.len
 have l2:=L.Nk
 have l3:=L.gl d
 refine spec_TCan L.P hd hm (by omega) (by omega) fun x hx=>?_
 obtain ⟨i,hi,rfl⟩:=List.getElem_of_mem hx
 obtain ⟨_,j,hj,hr⟩:=L.tl.inv i hi
 obtain ⟨_,_,_,e⟩:=L.tl.at' ms[i].f j hj
 simp only[hr] at e
 have h16:(2:Nat)^n<=2^6:=Nat.pow_le_pow_right (by omega) hn
 have:=(L.gi.tw ms[i].f j hj).1
 omega
theorem ff_check {β:Type} {Q:Option β->Prop} {kk:Ex->St->Option β} {b:Nat->Value} (h1:1<=n) (hn:n<=6) (hk:k<=100) (b0:b 0=.int .i64 n) (b5:b 5=pv) (b6:b 6=fv) (b12:b 12=.pointer (some ⟨p,0,none⟩)) (b13:b 13=.slice (some ⟨bw,0,none⟩) (n*n) (n*n))
  (hq:∀(h':Heap) (y:Nat->Value),FSt h0 h' n bw p kb gb k ps fs pv fv X N rk V tk E S ms kn gt wv lv W->KF b y->Q (kk .normal ⟨ar 366 y,h'⟩)) :
  ∀(mm i:Nat),n*n=i+mm->∀(x:Nat->Value) (h:Heap),FSt h0 h n bw p kb gb k ps fs pv fv X N rk V tk E S ms kn gt wv lv W->KF b x->x 26=.int .i64 i->Q (lK c4_18 366 x h (zAu 6 kk)):=by
 have hNN:n*n<=36:=Nat.le_trans (Nat.mul_le_mul hn hn) (by omega)
 have w1:IntKind.wrap .i64 ((n:Int)*(n:Int))=((n*n:Nat):Int):=by rw[<-Int.natCast_mul,wrap_i64]<;>omega
 intro mm
 induction mm with
 | zero=>
  intro i hi x h L K Bc
  rw[lK_eq]
  obtain rfl:i=n*n:=by omega
  have Aa:=K.e0.trans b0
  simp -implicitDefEqProofs (disch:=omega) only[↓c4_18_eq,↓c4_21_eq,dcF,Aa,Bc,w1,↓zAc,↓zAb,↓Option.bind_some,↓zAa,sxB,Nat.reduceBEq]
  exact hq h _ L ⟨K.e0,K.e1,K.e5,K.e6,K.e12,K.e13,K.e14⟩
 | succ mm ih=>
  intro i hi x h L K Bc
  rw[lK_eq]
  have hlt:i<n*n:=by omega
  have Aa:=K.e0.trans b0
  have Af:=K.e5.trans b5
  have Ag:=K.e6.trans b6
  have An:=K.e12.trans b12
  have Ao:=K.e13.trans b13
  have wi:IntKind.wrap .i64 ((i:Int)+1)=((i+1:Nat):Int):=by rw[wrap_i64]<;>omega
  have ia1:=iaWsF bw (n*n) i hlt
  have la1:=L.Wy.at hlt
  have WY:=L.Wy.one _ hlt
  obtain ⟨va,vc,ev⟩:=WY.shapeF
  cases hW:W i with
  | nil=>
   rw[hW] at WY ev
   rw[ev] at la1
   simp -implicitDefEqProofs (disch:=omega) only[↓c4_18_eq,↓c4_21_eq,↓c4_22_eq,↓c4_26_eq,↓c4_27_eq,↓c4_32_eq,↓c4_37_eq,↓c4_38_eq,↓c4_43_eq,dcT,dcF,Aa,Ao,Bc,w1,ia1,ldWd,la1,lnWo,List.length_nil,wi,↓zAc,↓zAb,↓Option.bind_some,↓zAa,sxB,Nat.reduceBEq]
   exact ih (i+1) (by omega) _ h L ⟨K.e0,K.e1,K.e5,K.e6,K.e12,K.e13,K.e14⟩ rfl
  | cons w ws=>
   rw[hW] at WY ev
   rw[ev,List.length_cons] at la1
   have hd:i % n<n:=Nat.mod_lt _ (by omega)
   have ha:i / n<n:=Nat.div_lt_of_lt_mul hlt
   have ei:i / n*n+i % n=i:=by rw[Nat.mul_comm];exact Nat.div_add_mod i n
   obtain ⟨wb,wo,l1,ls,els,f0,f1,f2,f3⟩:=WY.first
   rw[ev,List.length_cons] at f0
   obtain ⟨j,js,g,_,hok,_,_,_,_,_,n1,n2,j1,j2,j3,⟨hr,r1⟩,r2,_⟩:=L.head h1 hn hk ha hd (by rw[ei];exact hW)
   obtain ⟨lx,lc,le⟩:=AB.shapeW f2
   obtain ⟨fx,fc,fe⟩:=AB.shapeW f3
   obtain ⟨l11,l12⟩:=l1
   simp only at le fe
   subst le fe
   obtain ⟨hA,hB,e1,e2,cm,sB⟩:=var_wd h w lx fx w.lb.length lc w.fb.length fc
   have LB:=L.same sB
   have m0:hB.load1 h.blks.length 0=some (.int .i64 w.frm):=cm.load 0
   have m1:hB.load1 h.blks.length 1=some (.int .i64 w.plc):=cm.load 1
   have m2:hB.load1 h.blks.length 2=some (.int .u64 w.num):=cm.load 2
   have m4:hB.load1 h.blks.length 4=some (.slice lx w.lb.length lc):=cm.load 4
   have pP:i % n<ps.length:=by rw[L.lps];exact hd
   have pF:i % n<fs.length:=by rw[L.lfs];exact hd
   have rm:=fun t xo yo=>remN t xo yo i n (by omega) (by omega)
   have qt:=LB.tcan hn hk hd hr
   rw[r1,<-hok.plc] at qt
   obtain ⟨ad,i1,i2⟩:=LB.engL hd pP
   obtain ⟨hC,q1,y1⟩:=spec_Can (LB.G.eng (i % n) pP) (w.frm:Nat) w.num (Acc.sl (Acc.same f2 sB) etB.size) (by omega)
   have LC:=LB.same y1.same
   have cm2:=cm.same y1.same
   have n0:hC.load1 h.blks.length 0=some (.int .i64 w.frm):=cm2.load 0
   have n2':hC.load1 h.blks.length 2=some (.int .u64 w.num):=cm2.load 2
   have n5:hC.load1 h.blks.length 5=some (.slice fx w.fb.length fc):=cm2.load 5
   obtain ⟨ad2,i3,i4⟩:=LC.engF hd pF
   obtain ⟨hD,q2,y2⟩:=spec_ECan (LC.F (i % n) pF).en (LC.ok h1 hn hk hd) (w.frm:Nat) w.num (Acc.sl (Acc.same (Acc.same f3 sB) y1.same) etB.size) (by omega)
   rw[r2] at q2
   have LD:=LC.same y2.same
   have gt1:decide (((ws.length+1:Nat):Int)>0)=true:=decide_eq_true (by omega)
   have f1':(h.loadN wb wo 6).map (fun vs=>Value.agg vs.toArray)=some (.agg (wdC w (.slice lx w.lb.length lc,.slice fx w.fb.length fc)).toArray):=by rw[f1];rfl
   simp -implicitDefEqProofs (disch:=omega) only[↓c4_18_eq,↓c4_21_eq,↓c4_22_eq,↓c4_26_eq,↓c4_32_eq,↓c4_37_eq,↓c4_38_eq,↓c4_42_eq,↓c4_48_eq,↓c4_49_eq,dcT,dcF,Aa,Ao,Bc,w1,ia1,ldWd,la1,lnWo,List.length_cons,gt1,f0,ldWo,f1',e1,e2,↓zAc,↓zAb,↓Option.bind_some,↓zAa,sxB,Nat.reduceBEq]
   simp -implicitDefEqProofs (maxSteps:=2000000) (disch:=omega) only[↓c4_52_eq,↓c4_53_eq,↓c4_55_eq,↓c4_56_eq,↓c4_57_eq,↓d4_1_0,↓d4_1_1,↓d4_1_2,↓d4_1_3,↓d4_1_4,↓d4_1_5,↓d4_1_6,↓d4_1_7,↓d4_1_8,↓d4_1_9,↓d4_1_10,↓d4_1_11,↓d4_1_12,↓d4_1_13,↓d4_1_14,↓d4_1_15,↓d4_1_16,↓d4_1_17,↓d4_1_18,↓d4_1_19,↓d4_1_20,↓d4_1_21,↓d4_1_22,↓d4_1_23,↓d4_1_24,↓d4_1_25,↓d4_1_26,↓d4_1_27,↓d4_1_28,↓d4_1_29,↓d4_1_30,↓d4_1_31,↓d4_1_32,Aa,Af,Ag,An,Bc,rm,faWv0,faWv1,faWv2,faWv4,faWv5,ldI,ldU,ldByF,m0,m1,m2,m4,qt,i1,i2,q1,n0,n2',n5,i3,i4,q2,bneqF,bb_neF,↓zAc,↓zAb,↓Option.bind_some,↓zAa,sxB,Nat.reduceBEq]
   simp -implicitDefEqProofs (disch:=omega) only[↓c4_27_eq,Bc,wi,↓zAc,↓zAb,↓Option.bind_some,↓zAa,sxB,Nat.reduceBEq]
   exact ih (i+1) (by omega) _ hD LD ⟨K.e0,K.e1,K.e5,K.e6,K.e12,K.e13,K.e14⟩ rfl
end
end Go.Am
namespace Go.Am
open Go.Proofs
set_option maxRecDepth 100000
set_option linter.all false
attribute [local congr] zAf zAq zAr zAs zAj zAg
structure FSb (h0 h:Heap) (n bw p kb gb k:Nat) (ps:List (Nat × Nat)) (fs:List Nat) (pv fv:Value) (X:Tr) (N:Nat) (rk V tk:Nat->Nat->Nat) (E:Nat->List E3) (S:Nat->List Nat) (ms:List SM4) (kn:Nat->List Bool) (gt:Nat->List Nat) (wv:Nat->Value) (lv:Nat->List (Value × Value)) (W:Nat->List Wd):Prop where
 sm:Same h0 h
 G:LGrp h n h0.blks.length ps E S X.c
 lps:ps.length=n
 F:∀i (hi:i<fs.length),EnZ (Zs ps) h fs[i] n (i:Nat) (mxK n X (V i)) (vxT n X tk i)
 lfs:fs.length=n
 flo:∀i (hi:i<fs.length),h0.blks.length<=fs[i]
 fne:fs.Pairwise (· ≠ ·)
 pr:Acc h0.blks.length h 24 1 pv n (ps.map ptrW)
 fr:Acc h0.blks.length h 57 1 fv n (fs.map ptrF)
 Wy:Ways h h0.blks.length bw (n*n) wv lv W
 P:PaV h0.blks.length h p kb gb n ms kn gt
 gi:GI n X N rk V tk E
 tl:TL n X N rk V tk ms kn gt
 sn:∀i,i<n->(S i).length=n/\∀f,f<n->(S i).getD f 0=tk i f
 li:∀i,i<n->LInv (i:Nat) (E i)
 Nk:N<=k
 ck:∀a,X.c a<=N
 gl:∀d,(gt d).length<=k
 gN:∀d,∀x∈gt d,x<N
section
variable {h0 h:Heap} {n bw p kb gb k:Nat} {ps:List (Nat × Nat)} {fs:List Nat} {pv fv:Value} {X:Tr} {N:Nat} {rk V tk:Nat->Nat->Nat} {E:Nat->List E3} {S:Nat->List Nat} {ms:List SM4} {kn:Nat->List Bool} {gt:Nat->List Nat} {wv:Nat->Value} {lv:Nat->List (Value × Value)} {W:Nat->List Wd}
theorem FSt.b (L:FSt h0 h n bw p kb gb k ps fs pv fv X N rk V tk E S ms kn gt wv lv W):FSb h0 h n bw p kb gb k ps fs pv fv X N rk V tk E S ms kn gt wv lv W:=
 ⟨L.sm,L.G,L.lps,L.F,L.lfs,L.flo,L.fne,L.pr,L.fr,L.Wy,L.P,L.gi,L.tl,L.sn,L.li,L.Nk,L.ck,L.gl,L.gN⟩
theorem FSb.t (L:FSb h0 h n bw p kb gb k ps fs pv fv X N rk V tk E S ms kn gt wv lv W) (w:∀a d,a<n->d<n->All2 (fun w j=>WdOk n X rk tk a d w j) (W (a*n+d)) (wayJ X tk a d)):FSt h0 h n bw p kb gb k ps fs pv fv X N rk V tk E S ms kn gt wv lv W:=
 ⟨L.sm,L.G,L.lps,L.F,L.lfs,L.flo,L.fne,L.pr,L.fr,L.Wy,L.P,L.gi,L.tl,L.sn,L.li,w,L.Nk,L.ck,L.gl,L.gN⟩
theorem at_neF {n a b c d:Nat} (hb:b<n) (hd:d<n) (h:a*n+b=c*n+d):a=c/\b=d:=by
 have hn:0<n:=by omega
 have h1:(a*n+b) / n=a:=by rw[Nat.mul_comm,Nat.mul_add_div hn,Nat.div_eq_of_lt hb,Nat.add_zero]
 have h2:(c*n+d) / n=c:=by rw[Nat.mul_comm,Nat.mul_add_div hn,Nat.div_eq_of_lt hd,Nat.add_zero]
 have e:a=c:=by rw[<-h1,<-h2,h]
 subst e
 exact ⟨rfl,by omega⟩
theorem at_ltF {n a b:Nat} (ha:a<n) (hb:b<n):a*n+b<n*n:=by
 have:(a+1)*n<=n*n:=Nat.mul_le_mul_right n ha
 rw[Nat.add_mul,Nat.one_mul] at this
 omega
theorem FSb.word (L:FSb h0 h n bw p kb gb k ps fs pv fv X N rk V tk E S ms kn gt wv lv W) {h':Heap} {a d:Nat} (ha:a<n) (hd:d<n)
  (kp:KpT 80 h h') (old:∀q,q<h.blks.length->zAn (wv (a*n+d))≠some q->h'.blks[q]?=h.blks[q]?) (low:∀q,q<h0.blks.length->h'.blks[q]?=h.blks[q]?)
  {v':Value} {lv':List (Value × Value)} {ws':List Wd} (w:WayV h0.blks.length h' v' lv' ws') (hbk:zAn v'=zAn (wv (a*n+d))\/∃q,zAn v'=some q/\h.blks.length<=q) :
  ∃h'',h'.storeN bw (a*n+d) [v']=some h''/\FSb h0 h'' n bw p kb gb k ps fs pv fv X N rk V tk E S ms kn gt (updN wv (a*n+d) v') (updN lv (a*n+d) lv') (updN W (a*n+d) ws')/\KpT 70 h' h'':=by
 obtain ⟨h'',st,Wy,kk,inn⟩:=L.Wy.turn (at_ltF ha hd) kp old w hbk
 have lenl:h0.blks.length<=h'.blks.length:=Nat.le_trans L.sm.1 kp.1
 have tk2:∀(b:Nat) (all:List Value) (ty:TypeId),h.blks[b]?=some ⟨.cells all,ty,true⟩->ty≠80->ty≠70->h''.blks[b]?=h.blks[b]?:=fun b all ty hb t1 t2=>by
  have e:=kp.2 b all ty hb t1
  exact (kk.2 b all ty (e.trans hb) t2).trans e
 refine ⟨h'',st,⟨⟨Nat.le_trans lenl kk.1,fun q hq=>?_⟩,(L.G.kpT kp (by decide) (by decide) (by decide)).kpT kk (by decide) (by decide) (by decide),L.lps,fun i hi=>(L.F i hi).kp fun b all ty hb ht=>tk2 b all ty hb ?_ ?_,L.lfs,L.flo,L.fne,(L.pr.kpT kp (by decide)).kpT kk (by decide),(L.fr.kpT kp (by decide)).kpT kk (by decide),Wy,L.P.kp fun b all ty hb ht=>tk2 b all ty hb ?_ ?_,L.gi,L.tl,L.sn,L.li,L.Nk,L.ck,L.gl,L.gN⟩,kk⟩
 ·have:=(inn h0.blks.length (Nat.le_refl _) lenl No).old q hq id
  exact (this.trans (low q hq)).trans (L.sm.2 q hq)
 ·rcases ht with ⟨rfl,_⟩ | rfl | ⟨rfl,_⟩<;>decide
 ·rcases ht with ⟨rfl,_⟩ | rfl | ⟨rfl,_⟩<;>decide
 ·rcases ht with rfl | rfl | rfl | rfl | rfl | rfl<;>decide
 ·rcases ht with rfl | rfl | rfl | rfl | rfl | rfl<;>decide
theorem bdWo (a b c d:Int) (x y:Option Addr) (l k m q:Nat):buildV Tryz.prog 80 #[(0,.int .i64 a),(1,.int .i64 b),(2,.int .u64 c),(3,.int .u64 d),(4,.slice x l k),(5,.slice y m q)]=some (.agg #[.int .i64 a,.int .i64 b,.int .u64 c,.int .u64 d,.slice x l k,.slice y m q]):=by kernel_rfl
theorem bsWo (a b c d:Int) (x y:Option Addr) (l k m q:Nat) (h:Heap):zAi Tryz.prog 70 1 #[(0,.agg #[.int .i64 a,.int .i64 b,.int .u64 c,.int .u64 d,.slice x l k,.slice y m q])] h=some (.slice (some ⟨h.blks.length,0,none⟩) 1 1,h.new (.cells [.int .i64 a,.int .i64 b,.int .u64 c,.int .u64 d,.slice x l k,.slice y m q]) 80):=by kernel_rfl
theorem ai_atF {n0:Nat} {h:Heap} {v:Value} {ns:List Nat} (s:AI n0 h v ns) {i:Nat} (hi:i<ns.length) :
  ∃a,zAh Tryz.prog 68 v (.int .i64 i)=some (.pointer (some a))/\zAw Tryz.prog 3 (.pointer (some a)) h=some (.int .i64 (ns[i]:Nat)):=by
 obtain ⟨a,e1,e2,_⟩:=(Acc.sl s etI.size).row.at1 etI.under etI.size (by kernel_rfl) hi .i64
 refine ⟨a,e1,?_⟩
 rw[e2,List.getElem?_map,List.getElem?_eq_getElem hi];rfl
theorem ABs.kpTF {t:TypeId} {n0:Nat} {h h':Heap} {v:Value} {l:List (List UInt8)} (a:ABs n0 h v l) (k:KpT t h h') (h1:35≠t) (h2:5≠t):ABs n0 h' v l:=
 let ⟨vs,x⟩:=a
 ⟨vs,x.kp fun b all ty hb ht _=>k.2 b all ty hb (by rcases ht with rfl | rfl;exact h1;exact h2)⟩
theorem ABs.atF {n0:Nat} {h:Heap} {v:Value} {l:List (List UInt8)} (a:ABs n0 h v l) {i:Nat} (hi:i<l.length) :
  ∃ad x c,zAh Tryz.prog 34 v (.int .i64 i)=some (.pointer (some ad))/\zAw Tryz.prog 35 (.pointer (some ad)) h=some (.slice x (l.getD i []).length c)/\AB n0 h (.slice x (l.getD i []).length c) (l.getD i []):=by
 obtain ⟨vs,x⟩:=a
 obtain ⟨ad,e1,e2,_⟩:=(x.out.sl etBs.size).row.at1 etBs.under etBs.size (by kernel_rfl) hi .i64
 obtain ⟨y,hy,ay⟩:=x.rows.get' (i:=i) (b:=l[i]) (List.getElem?_eq_getElem hi)
 rw[hy] at e2
 obtain ⟨z,c,rfl⟩:=AB.shapeW ay
 have e:l.getD i []=l[i]:=by rw[List.getD_eq_getElem?_getD,List.getElem?_eq_getElem hi];rfl
 rw[e]
 exact ⟨ad,z,c,e1,e2,ay⟩
theorem faMo1 (p:Nat):zAe Tryz.prog 64 (.pointer (some ⟨p,0,none⟩)) 1=some (.pointer (some ⟨p,1,none⟩)):=by kernel_rfl
theorem faMo2 (p:Nat):zAe Tryz.prog 64 (.pointer (some ⟨p,0,none⟩)) 2=some (.pointer (some ⟨p,2,none⟩)):=by kernel_rfl
theorem faMo3 (p:Nat):zAe Tryz.prog 64 (.pointer (some ⟨p,0,none⟩)) 3=some (.pointer (some ⟨p,3,none⟩)):=by kernel_rfl
theorem ff_words {β:Type} {Q:Option β->Prop} {kk:Ex->St->Option β} {b:Nat->Value} {P pm t m0 num:Nat} {mv:List Value} {ds:List Nat} {da:Option Addr} {dc:Nat} {sv qv:Value} {R:Nat->List UInt8} {fb:List UInt8} {B:Nat} (hB:B<=2^20)
  (hn:n<=6) (hP:P<n) (hm1:mv[1]?=some (.int .i64 (P:Nat))) (b0:b 0=.int .i64 n) (b12:b 12=.pointer (some ⟨p,0,none⟩)) (b13:b 13=.slice (some ⟨bw,0,none⟩) (n*n) (n*n))
  (hm0:∃h:m0<ms.length,ms[m0].num=num) (hds:∀d∈ds,d<n) (hdl:ds.length<=64) {OK:Nat->Nat->Nat->List Wd->Prop}
  (hok:∀q,(hq:q<ds.length)->∀a d ws,a<n->d<n->OK q a d ws->OK (q+1) a d (if a=P/\d=ds[q] then ws++[⟨P,m0,num,t,R ds[q],fb⟩] else ws))
  (hk:∀(h:Heap) (y:Nat->Value) (wv:Nat->Value) (lv:Nat->List (Value × Value)) (W:Nat->List Wd),FSb h0 h n bw p kb gb k ps fs pv fv X N rk V tk E S ms kn gt wv lv W->Cells h pm 64 mv->(∀i,(W i).length<=B)->(∀a d,a<n->d<n->OK ds.length a d (W (a*n+d)))->KF b y->y 15=.pointer (some ⟨pm,0,none⟩)->Q (kk .normal ⟨ar 366 y,h⟩)) :
  ∀(mm j:Nat),ds.length=j+mm->∀(x:Nat->Value) (h:Heap) (wv:Nat->Value) (lv:Nat->List (Value × Value)) (W:Nat->List Wd),FSb h0 h n bw p kb gb k ps fs pv fv X N rk V tk E S ms kn gt wv lv W->Cells h pm 64 mv->AI h0.blks.length h (.slice da ds.length dc) ds->ABs h0.blks.length h sv (ds.map R)->ABs h0.blks.length h qv (List.replicate ds.length fb)->(∀i,(W i).length+mm<=B)->(∀a d,a<n->d<n->OK j a d (W (a*n+d)))->
   KF b x->x 15=.pointer (some ⟨pm,0,none⟩)->x 16=.int .u64 t->x 17=sv->x 18=qv->x 19=.int .i64 m0->x 20=.slice da ds.length dc->x 21=.int .i64 j->Q (lK c4_23 366 x h (zAu 4 kk)):=by
 intro mm
 have ln:∀h,lenV Tryz.prog 68 (.slice da ds.length dc) h=some (.int .i64 ds.length):=fun h=>by kernel_rfl
 induction mm with
 | zero=>
  intro j hj x h wv lv W L cm A R1 R2 hW hO K Aq Ar As Au Av Aw Ax
  rw[lK_eq]
  obtain rfl:j=ds.length:=by omega
  simp -implicitDefEqProofs (disch:=omega) only[↓c4_23_eq,↓c4_28_eq,dcF,Aw,Ax,ln,↓zAc,↓zAb,↓Option.bind_some,↓zAa,sxB,Nat.reduceBEq]
  exact hk h _ wv lv W L cm (fun i=>by have:=hW i;omega) hO ⟨K.e0,K.e1,K.e5,K.e6,K.e12,K.e13,K.e14⟩ Aq
 | succ mm ih=>
  intro j hj x h wv lv W L cm A R1 R2 hW hO K Aq Ar As Au Av Aw Ax
  rw[lK_eq]
  have hlt:j<ds.length:=by omega
  have Aa:=K.e0.trans b0
  have An:=K.e12.trans b12
  have Ao:=K.e13.trans b13
  have lp:h.load1 pm 1=some (.int .i64 (P:Nat)):=(cm.load 1).trans hm1
  have d1:=hds ds[j] (List.getElem_mem hlt)
  obtain ⟨ad,i1,i2⟩:=ai_atF A hlt
  have hat:=at_ltF hP d1
  have hNN:n*n<=36:=Nat.le_trans (Nat.mul_le_mul hn hn) (by omega)
  have hPn:P*n<2^20:=by omega
  have w1:IntKind.wrap .i64 ((P:Int)*(n:Int))=((P*n:Nat):Int):=by rw[<-Int.natCast_mul,wrap_i64]<;>omega
  have w2:IntKind.wrap .i64 (((P*n:Nat):Int)+(ds[j]:Nat))=((P*n+ds[j]:Nat):Int):=by rw[wrap_i64]<;>omega
  have wj:IntKind.wrap .i64 ((j:Int)+1)=((j+1:Nat):Int):=by rw[wrap_i64]<;>omega
  have ia1:=iaWsF bw (n*n) (P*n+ds[j]) hat
  have la1:=L.Wy.at hat
  obtain ⟨hml,hmn⟩:=hm0
  obtain ⟨ta,tc,tl1,tat⟩:=L.P.at
  obtain ⟨tb,to',_,_,it,_,t1,_,_,_⟩:=tat m0 hml
  rw[hmn] at t1
  obtain ⟨ad2,sx,sc,s1,s2,s3⟩:=R1.atF (i:=j) (by rw[List.length_map];exact hlt)
  obtain ⟨ad3,fx,fc,q1,q2,q3⟩:=R2.atF (i:=j) (by rw[List.length_replicate];exact hlt)
  rw[show (ds.map R).getD j []=R ds[j] by rw[List.getD_eq_getElem?_getD,List.getElem?_map,List.getElem?_eq_getElem hlt];rfl] at s2 s3
  rw[show (List.replicate ds.length fb).getD j []=fb by rw[List.getD_eq_getElem?_getD,List.getElem?_replicate,if_pos hlt];rfl] at q2 q3
  obtain ⟨v',g1,e1,Wn,kp1,kT,old,hb⟩:=(L.Wy.one _ hat).app L.sm.1 ⟨P,m0,num,t,R ds[j],fb⟩ (lv:=(.slice sx (R ds[j]).length sc,.slice fx fb.length fc)) ⟨s3,q3⟩ (by have:=hW (P*n+ds[j]);omega)
  have e1':zBh Tryz.prog 70 (some 70) (wv (P*n+ds[j])) (.slice (some ⟨h.blks.length,0,none⟩) 1 1) (h.new (.cells [.int .i64 (P:Nat),.int .i64 (m0:Nat),.int .u64 (num:Nat),.int .u64 (t:Nat),.slice sx (R ds[j]).length sc,.slice fx fb.length fc]) 80)=some (v',g1):=e1
  obtain ⟨h2,st,L2,kk2⟩:=L.word hP d1 kT old (fun q hq=>kp1.old q hq) Wn hb
  obtain ⟨va,vc,rfl⟩:=Acc.shape Wn.row
  have kT2:∀ {ty:TypeId} {cs:List Value} {p:Nat},Cells h p ty cs->ty≠80->ty≠70->Cells h2 p ty cs:=fun c t1 t2=>(c.kpT kT t1).kpT kk2 t2
  simp -implicitDefEqProofs (disch:=omega) only[↓c4_23_eq,↓c4_28_eq,↓c4_29_eq,↓c4_33_eq,↓c4_39_eq,↓c4_44_eq,dcT,Aa,Aq,Aw,Ax,ln,faMo1,ldI,lp,w1,i1,i2,w2,↓zAc,↓zAb,↓Option.bind_some,↓zAa,sxB,Nat.reduceBEq]
  simp -implicitDefEqProofs (maxSteps:=2000000) (disch:=omega) only[↓c4_45_eq,↓d4_0_0,↓d4_0_1,↓d4_0_2,↓d4_0_3,↓d4_0_4,↓d4_0_5,↓d4_0_6,↓d4_0_7,↓d4_0_8,↓d4_0_9,↓d4_0_10,↓d4_0_11,↓d4_0_12,↓d4_0_13,↓d4_0_14,↓d4_0_15,↓d4_0_16,↓d4_0_17,↓d4_0_18,↓d4_0_19,↓d4_0_20,↓d4_0_21,↓d4_0_22,↓d4_0_23,↓d4_0_24,↓d4_0_25,↓d4_0_26,↓d4_0_27,↓d4_0_28,↓d4_0_29,↓d4_0_30,↓d4_0_31,An,Ao,Aq,Ar,As,Au,Av,Ax,ia1,ldWd,la1,faMo1,ldI,lp,zAt,faPa1,ldSeS,tl1,it,faSe1,ldU,t1,s1,ldByF,s2,q1,q2,bdWo,bsWo,e1',stWd,st,↓zAc,↓zAb,↓Option.bind_some,↓zAa,sxB,Nat.reduceBEq]
  simp -implicitDefEqProofs (disch:=omega) only[↓c4_34_eq,Ax,wj,↓zAc,↓zAb,↓Option.bind_some,↓zAa,sxB,Nat.reduceBEq]
  refine ih (j+1) (by omega) _ h2 _ _ _ L2 (kT2 cm (by decide) (by decide)) ((Acc.kpT A kT (by decide)).kpT kk2 (by decide)) ((R1.kpTF kT (by decide) (by decide)).kpTF kk2 (by decide) (by decide)) ((R2.kpTF kT (by decide) (by decide)).kpTF kk2 (by decide) (by decide)) (fun i=>?_) (fun a d ha hd=>?_) ⟨K.e0,K.e1,K.e5,K.e6,K.e12,K.e13,K.e14⟩ Aq Ar As Au Av Aw ?_
  ·by_cases e:i=P*n+ds[j]
   ·subst e
    rw[updN_self,List.length_append,List.length_singleton]
    have:=hW (P*n+ds[j])
    omega
   ·rw[updN_ne _ _ e]
    have:=hW i
    omega
  ·have:=hok j hlt a d _ ha hd (hO a d ha hd)
   by_cases e:a=P/\d=ds[j]
   ·obtain ⟨rfl,rfl⟩:=e
    rw[if_pos ⟨rfl,rfl⟩] at this
    rw[updN_self]
    exact this
   ·rw[if_neg e] at this
    rw[updN_ne _ _ fun x=>e (at_neF hd d1 x)]
    exact this
  ·rfl
end
end Go.Am
namespace Go.Am
open Go.Proofs
set_option maxRecDepth 100000
set_option linter.all false
attribute [local congr] zAf zAq zAr zAs zAj zAg
theorem Acc.ptrAt {n0:Nat} {h:Heap} {el t:TypeId} {v:Value} {n:Nat} {cs:List Value} (a:Acc n0 h el 1 v n cs) (hu:Tryz.prog.underlying t=some (.slice el)) (hs:sizeT Tryz.prog el=some 1) {i:Nat} (hi:i<n):∃b o,zAh Tryz.prog t v (.int .i64 i)=some (.pointer (some ⟨b,o,none⟩))/\h.load1 b o=cs[i]?/\∃all,h.blks[b]?=some ⟨.cells all,el,true⟩:=by
 have r:=a.row
 have bk:=fun b hb=>a.blk (b:=b) hb
 generalize hn:n=m at r
 cases r with
 | nil=>omega
 | mk hld=>
  rename_i b o c
  refine ⟨b,o+i,?_,loadN_get hld (by omega),bk b rfl⟩
  unfold zAh
  simp only[hu,zBq,hs]
  rw[if_pos (by omega),Nat.mul_one]
theorem LEn.kpF {h h':Heap} {p s:Nat} {n me:Int} {num:Nat} {es:List E3} {ns:List Nat} (l:LEn h p s n me num es ns) (k:∀(b:Nat) (all:List Value) (ty:TypeId),h.blks[b]?=some ⟨.cells all,ty,true⟩->ty=90\/ty=30\/ty=99->h'.blks[b]?=h.blks[b]?):LEn h' p s n me num es ns:=
 let ⟨la,lc,a,b⟩:=l.eng
 ⟨⟨la,lc,(k _ _ _ a (.inl rfl)).trans a,b.keep fun q _ hq=>by obtain ⟨all,hh⟩:=b.blk hq;exact k q all _ hh (.inr (.inr rfl))⟩,(k _ _ _ l.seen (.inr (.inl rfl))).trans l.seen,l.len⟩
theorem Ways.kpF {h h':Heap} {base bw N:Nat} {wv:Nat->Value} {lv:Nat->List (Value × Value)} {W:Nat->List Wd} (G:Ways h base bw N wv lv W) (k:∀(b:Nat) (all:List Value) (ty:TypeId),h.blks[b]?=some ⟨.cells all,ty,true⟩->ty=70\/ty=80\/ty=5->h'.blks[b]?=h.blks[b]?):Ways h' base bw N wv lv W:=
 ⟨(k bw _ _ G.row (.inl rfl)).trans G.row,fun i hi=>(G.one i hi).kp fun b all ty hb ht=>k b all ty hb (.inr ht),G.sep,G.low⟩
theorem sendT_idF (n:Nat) (me:Int) (to:Nat):sendT n me (sendT n me to)=sendT n me to:=by
 unfold sendT
 rw[Nat.and_assoc,Nat.and_self]
theorem sendT_eqF (n P to:Nat) (hP:P<64):outB (to &&& allN n) (2^P)=sendT n (P:Nat) to:=by
 unfold sendT outB
 have e:ofN (P:Nat)=2^P:=by unfold ofN;rw[if_pos (by omega),Int.toNat_natCast]
 rw[e,Nat.and_assoc]
theorem sendT_ltF (n:Nat) (me:Int) (to:Nat):sendT n me to<2^n:=by
 have h1:sendT n me to<=allN n:=Nat.le_trans Nat.and_le_right Nat.and_le_left
 have h2:1<=2^n:=Nat.one_le_two_pow
 unfold allN at h1
 omega
theorem sendT_meF (n P to:Nat) (hn:n<=16) (hP:P<n):hasB (sendT n (P:Nat) to) (P:Nat)=false:=by
 have h:=hasB_outMe (allN n) (P:Nat) (allN_lt n (by omega)) (by omega) (by omega)
 unfold sendT
 unfold hasB at h ⊢
 rw[Nat.testBit_and]
 cases hb:(outB (allN n) (ofN (P:Nat))).testBit (P:Int).toNat with
 | false=>simp
 | true=>rw[hb] at h;simp at h;omega
theorem bits_ltF {s n d:Nat} (hs:s<2^n) (hd:d∈bitsTo s 64):d<n/\s.testBit d=true:=by
 unfold bitsTo at hd
 have h:=(List.mem_filter.1 hd).2
 refine ⟨Nat.lt_of_not_le fun hge=>?_,h⟩
 rw[Nat.testBit_lt_two_pow (Nat.lt_of_lt_of_le hs (Nat.pow_le_pow_right (by omega) hge))] at h
 cases h
theorem pop_bitsF:∀t<64,pop t=(bitsTo t 64).length:=by decide +kernel
theorem WdOk.snd {n N:Nat} {X:Tr} {rk V tk:Nat->Nat->Nat} {es:Nat->List E3} (G:GI n X N rk V tk es) {P to a d j:Nat} {w:Wd} (hj:j<X.c a) (k:WdOk n X rk tk a d w j):WdOk n (sndX X P to (V P)) (rkS rk P (X.c P) N) tk a d w j:=by
 refine ⟨k.frm,?_,k.num,?_,?_,?_⟩
 ·rw[k.plc]
  exact (if_neg fun e=>by have e2:=e.2;rw[e.1] at hj;omega).symm
 ·rw[k.to,sndX_T _ _ _ _ hj]
 ·obtain ⟨g,g1,g2⟩:=k.lb
  exact ⟨g,g1,g2.snd G hj⟩
 ·rw[k.fb,sndX_A _ _ _ _ hj]
  congr 1
  refine mx_ext fun x y _ _=>(cT_ext fun i hi=>sndX_T _ _ _ _ (Nat.lt_of_lt_of_le hi (G.ac a j x hj))).symm
theorem All2.monoR {α β:Type} {R S:α->β->Prop} {l:List α} {m:List β} (h:All2 R l m) (k:∀a,∀b∈m,R a b->S a b):All2 S l m:=by
 induction h with
 | nil=>exact .nil
 | cons x _ ih=>exact .cons (k _ _ (by simp) x) (ih fun a b hb r=>k a b (List.mem_cons_of_mem _ hb) r)
section
variable {h0 h:Heap} {n bw p kb gb k:Nat} {ps:List (Nat × Nat)} {fs:List Nat} {pv fv:Value} {X:Tr} {N:Nat} {rk V tk:Nat->Nat->Nat} {E:Nat->List E3} {S:Nat->List Nat} {ms:List SM4} {kn:Nat->List Bool} {gt:Nat->List Nat} {wv:Nat->Value} {lv:Nat->List (Value × Value)} {W:Nat->List Wd}
theorem ff_send {β:Type} {Q:Option β->Prop} {kk:Ex->St->Option β} {b:Nat->Value} {P pm to:Nat} {mv:List Value}
  (L:FSt h0 h n bw p kb gb k ps fs pv fv X N rk V tk E S ms kn gt wv lv W) (h1:1<=n) (hn:n<=6) (hkk:k<=40) (hP:P<n) (cm:Cells h pm 64 mv) (hm1:mv[1]?=some (.int .i64 (P:Nat))) (hm3:mv[3]?=some (.int .u64 to)) (hto:to<2^64) (hW:∀i,(W i).length<=64*k)
  (b0:b 0=.int .i64 n) (b5:b 5=pv) (b6:b 6=fv) (b12:b 12=.pointer (some ⟨p,0,none⟩)) (b13:b 13=.slice (some ⟨bw,0,none⟩) (n*n) (n*n))
  (hk0:∀y:Nat->Value,KF b y->Q (kk (.exit 3) ⟨ar 366 y,h⟩))
  (hk:∀(h':Heap) (y:Nat->Value) (X:Tr) (N:Nat) (rk V:Nat->Nat->Nat) (E:Nat->List E3) (S:Nat->List Nat) (ms:List SM4) (kn:Nat->List Bool) (wv:Nat->Value) (lv:Nat->List (Value × Value)) (W:Nat->List Wd),FSt h0 h' n bw p kb gb (k+1) ps fs pv fv X N rk V tk E S ms kn gt wv lv W->Cells h' pm 64 mv->(∀i,(W i).length<=64*(k+1))->KF b y->y 15=.pointer (some ⟨pm,0,none⟩)->Q (kk .normal ⟨ar 366 y,h'⟩)) :
  ∀x:Nat->Value,KF b x->x 15=.pointer (some ⟨pm,0,none⟩)->Q (cK c4_19 366 x h kk):=by
 intro x K Aq
 have pP:P<ps.length:=by rw[L.lps];exact hP
 have pF:P<fs.length:=by rw[L.lfs];exact hP
 have Aa:=K.e0.trans b0
 have Af:=K.e5.trans b5
 have Ag:=K.e6.trans b6
 have An:=K.e12.trans b12
 have lp1:h.load1 pm 1=some (.int .i64 (P:Nat)):=(cm.load 1).trans hm1
 have lp3:h.load1 pm 3=some (.int .u64 to):=(cm.load 3).trans hm3
 have al:=spec_AllOfS n (by omega)
 have cvu:=fun h=>cvUint (P:Int) h (by omega) (by omega)
 have an:=fun t xo yo=>anU t xo yo to (allN n) hto (allN_ltS (by omega))
 have sl:=fun t xo yo=>shlS t xo yo P (by omega)
 have ao:=fun t xo yo=>anS t xo yo (to &&& allN n) (2^P) (Nat.lt_of_le_of_lt Nat.and_le_left hto) (Nat.pow_lt_pow_right (by omega) (by omega))
 rw[sendT_eqF n P to (by omega)] at ao
 have tlt:=sendT_ltF n (P:Nat) to
 have tid:=sendT_idF n (P:Nat) to
 have tme:=sendT_meF n P to (by omega) hP
 generalize sendT n (P:Nat) to=t at ao tlt tid tme
 have h16:(2:Nat)^n<=2^6:=Nat.pow_le_pow_right (by omega) hn
 have tmb:t.testBit P=false:=by rw[<-hasB_natQ t P (by omega)];exact tme
 by_cases ht0:t=0
 ·have dz:decide ((t:Int)=0)=true:=decide_eq_true (by omega)
  simp -implicitDefEqProofs (disch:=omega) only[↓c4_19_eq,Aa,Aq,faMo1,faMo3,ldI,ldU,lp1,lp3,al,am_nm,nm_mods,List.nil_append,List.append_nil,an,cvu,sl,ao,dz,↓zAc,↓zAb,↓Option.bind_some,↓zAa,sxB,Nat.reduceBEq]
  exact hk0 _ ⟨K.e0,K.e1,K.e5,K.e6,K.e12,K.e13,K.e14⟩
 have dz:decide ((t:Int)=0)=false:=decide_eq_false (by omega)
 have cb:∀a,X.c a<=40:=fun a=>by have:=L.ck a;have:=L.Nk;omega
 have lgP:=L.G.low P pP
 obtain ⟨o1,o2,_,_⟩:=log_ok (n:=n) (L.gi.log P hP).1 (fun x=>Nat.le_trans (L.gi.vc P x) (by have:=cb x;omega)) (fun x hx=>by have:=L.gi.vc P x;have:=L.gi.out x hx;omega) hn
 have cbP:=cb P
 obtain ⟨sv,hA,q1,m1,L1,B1⟩:=spec_Send ((L.G.eng P pP).same (sameNm h)) (by omega) o1 (by omega) (by omega) t (by omega) lgP.2.2 (insOk_all (by rw[lessE_len];omega))
 rw[tid] at L1 B1
 rw[listW_bits _ (by omega),show bitsL t=bitsTo t 64 from rfl] at B1
 have m1':=m1.amx
 have md:=m1.mods_nm
 have sgA:Same hA (am hA h):=⟨Nat.le_refl _,fun _ _=>rfl⟩
 have G1:=L.G.turn pP m1' (fun b hb=>.inl hb) (L1.same sgA)
 have cEn:∀ {q:Nat} {all:List Value} {ty:TypeId},h.blks[q]?=some ⟨.cells all,ty,true⟩->ty≠90->q≠ps[P].1:=fun {q all ty} hq ht e=>by
  obtain ⟨_,_,c,_⟩:=(L.G.eng P pP).eng
  subst e
  exact ht (Cells.ty c hq).symm
 have k1:∀(q:Nat) (all:List Value) (ty:TypeId),h.blks[q]?=some ⟨.cells all,ty,true⟩->ty≠90->(am hA h).blks[q]?=h.blks[q]?:=fun q all ty hq ht=>m1'.old q (List.getElem?_eq_some_iff.1 hq).1 fun e=>cEn hq ht e
 have cm1:=(k1 pm _ _ cm (by decide)).trans cm
 have lpA:(am hA h).load1 pm 1=some (.int .i64 (P:Nat)):=(Cells.load cm1 1).trans hm1
 -- full's Send
 obtain ⟨fb',fo,i3,i4,fall,i5⟩:=L.fr.ptrAt etPF.under etPF.size (i:=P) hP
 rw[List.getElem?_map,List.getElem?_eq_getElem pF] at i4
 have i5':=(k1 _ _ _ i5 (by decide)).trans i5
 have i4':(am hA h).load1 fb' fo=some (.pointer (some ⟨fs[P],0,none⟩)):=by
  have e:(am hA h).load1 fb' fo=h.load1 fb' fo:=by rw[Cells.load i5' fo,Cells.load i5 fo]
  rw[e,i4];rfl
 have ldPF:∀(b o:Nat) (h:Heap),zAw Tryz.prog 57 (.pointer (some ⟨b,o,none⟩)) h=h.load1 b o:=fun b o h=>by kernel_rfl
 have EP:=(L.F P pF).kp (h':=am hA h) fun q all ty hq hty=>k1 q all ty hq (by rcases hty with ⟨rfl,_⟩ | rfl | ⟨rfl,_⟩<;>decide)
 obtain ⟨rv,gv,vs,c1,a1,u1,z1,z2⟩:=EP
 obtain ⟨qv,h80,q2,m2,⟨rv',E2,A2⟩,B2⟩:=spec_ESendZ (L:=0) (h:=am hA h) (p:=fs[P]) (n:=n) (me:=(P:Nat)) (m:=mxK n X (V P)) (g:=vxT n X tk P) ⟨c1,⟨vs,a1⟩,u1⟩ (Nat.zero_le _) (L.ok h1 hn (by omega) hP) t (by omega)
 rw[toE_eq n P t (by omega),tid] at E2 A2 B2
 rw[full_send L.gi h1 (by omega) (fun x=>by have:=cb x;omega) hP] at E2 A2
 rw[pop_bitsF t (by omega)] at B2
 have cFn:∀ {q:Nat} {all:List Value} {ty:TypeId},(am hA h).blks[q]?=some ⟨.cells all,ty,true⟩->ty≠123->q≠fs[P]:=fun {q all ty} hq ht e=>by subst e;exact ht (Cells.ty c1 hq).symm
 -- the truth's Send
 have k2:∀(q:Nat) (all:List Value) (ty:TypeId),(am hA h).blks[q]?=some ⟨.cells all,ty,true⟩->q≠fs[P]->h80.blks[q]?=(am hA h).blks[q]?:=fun q all ty hq ht=>m2.old q (List.getElem?_eq_some_iff.1 hq).1 ht
 have k12:∀(q:Nat) (all:List Value) (ty:TypeId),h.blks[q]?=some ⟨.cells all,ty,true⟩->ty≠90->ty≠123->h80.blks[q]?=h.blks[q]?:=fun q all ty hq t1 t2=>by
  have e:=k1 q all ty hq t1
  exact (k2 q all ty (e.trans hq) (cFn (e.trans hq) t2)).trans e
 have P2:=L.P.kp (h':=h80) fun q all ty hq hty=>k12 q all ty hq (by rcases hty with rfl | rfl | rfl | rfl | rfl | rfl<;>decide) (by rcases hty with rfl | rfl | rfl | rfl | rfl | rfl<;>decide)
 have lo0:h0.blks.length<=h80.blks.length:=Nat.le_trans (Nat.le_trans L.sm.1 m1'.len) m2.len
 have tll:=L.tl.len
 have Nk:=L.Nk
 have knP:=L.tl.knl P
 obtain ⟨h84,q3,kp3,P3⟩:=spec_TSend (to:=t) P2 hP (by omega) (by omega) lo0
 have cnt:cntM ms P=X.c P:=L.tl.cnt P
 rw[cnt,tll] at P3
 rw[tll] at q3
 obtain ⟨da,dc,h86,q4,y4,A4⟩:=spec_ListS t (by omega) h84
 have s4:=y4.same
 have blen:=bitsTo_len t 64
 have k3:∀(q:Nat) (all:List Value) (ty:TypeId),h80.blks[q]?=some ⟨.cells all,ty,true⟩->ty≠78->ty≠73->ty≠71->ty≠68->h86.blks[q]?=h80.blks[q]?:=fun q all ty hq t1 t2 t3 t4=>by
  have e:=kp3.2.2 q all ty hq t1 t2 t3 t4
  exact (s4.2 q (Nat.lt_of_lt_of_le (List.getElem?_eq_some_iff.1 hq).1 kp3.1)).trans e
 have kall:∀(q:Nat) (all:List Value) (ty:TypeId),h.blks[q]?=some ⟨.cells all,ty,true⟩->ty≠90->ty≠123->ty≠78->ty≠73->ty≠71->ty≠68->h86.blks[q]?=h.blks[q]?:=fun q all ty hq t1 t2 t3 t4 t5 t6=>by
  have e:=k12 q all ty hq t1 t2
  exact (k3 q all ty (e.trans hq) t3 t4 t5 t6).trans e
 have kA:∀(q:Nat) (all:List Value) (ty:TypeId),(am hA h).blks[q]?=some ⟨.cells all,ty,true⟩->q≠fs[P]->ty≠78->ty≠73->ty≠71->ty≠68->h86.blks[q]?=(am hA h).blks[q]?:=fun q all ty hq hne t3 t4 t5 t6=>by
  have e:=k2 q all ty hq hne
  exact (k3 q all ty (e.trans hq) t3 t4 t5 t6).trans e
 have acc:∀ {n1 m es:Nat} {el:TypeId} {v:Value} {cs:List Value},Acc n1 h el es v m cs->el≠90->el≠123->el≠78->el≠73->el≠71->el≠68->Acc n1 h86 el es v m cs:=fun a t1 t2 t3 t4 t5 t6=>a.keep fun q _ hq=>by obtain ⟨all,hh⟩:=a.blk hq;exact kall q all _ hh t1 t2 t3 t4 t5 t6
 have sm6:Same h0 h86:=⟨Nat.le_trans lo0 (Nat.le_trans kp3.1 s4.1),fun q hq=>by
  have e0:=L.sm.2 q hq
  have l0:=Nat.lt_of_lt_of_le hq L.sm.1
  have e1:=m1'.old q l0 fun e=>by have e:q=ps[P].1:=e;omega
  have l1:=Nat.lt_of_lt_of_le l0 m1'.len
  have e2:=m2.old q l1 fun e=>by have e:q=fs[P]:=e;have:=L.flo P pF;omega
  have l2:=Nat.lt_of_lt_of_le l1 m2.len
  have e3:=kp3.2.1 q hq l2
  have e4:=s4.2 q (Nat.lt_of_lt_of_le l2 kp3.1)
  exact (((e4.trans e3).trans e2).trans e1).trans e0⟩
 have gs:=GI.send L.gi (by omega) hP tlt tmb
 have num':updN X.c P (X.c P+1)=(sndX X P t (V P)).c:=by
  funext a
  show (if a=P then X.c P+1 else X.c a)=if a=P then X.c a+1 else X.c a
  by_cases e:a=P
  ·rw[if_pos e,if_pos e,e]
  ·rw[if_neg e,if_neg e]
 rw[num'] at G1
 have hZ:∀q,Zs ps q->q<(am hA h).blks.length:=fun q ⟨i,hi,e⟩=>by
  rw[e]
  exact Nat.lt_of_lt_of_le (L.G.eng i hi).seen.lt m1'.len
 have Fin:FSb h0 h86 n bw p kb gb (k+1) ps fs pv fv (sndX X P t (V P)) (N+1) (rkS rk P (X.c P) N) (updV V P (upV1 (V P) P)) tk (updN E P (sendLog (E P) (P:Nat) (X.c P) t)) (updN S P (S P)) (ms++[⟨P,X.c P+1,t,kn P⟩]) (updF kn P (bothL (kn P) [] N)) gt wv lv W:=by
  refine ⟨sm6,⟨fun i hi=>(G1.eng i hi).kpF fun q all ty hq hty=>kA q all ty hq (cFn hq (by rcases hty with rfl | rfl | rfl<;>decide)) ?_ ?_ ?_ ?_,G1.low,G1.sep⟩,L.lps,fun i hi=>?_,L.lfs,L.flo,L.fne,acc L.pr (by decide) (by decide) (by decide) (by decide) (by decide) (by decide),acc L.fr (by decide) (by decide) (by decide) (by decide) (by decide) (by decide),L.Wy.kpF fun q all ty hq hty=>kall q all ty hq ?_ ?_ ?_ ?_ ?_ ?_,P3.same s4,gs.1,L.tl.send L.gi hP L.gN,fun i hi=>?_,fun i hi=>?_,by omega,fun a=>?_,fun d=>Nat.le_succ_of_le (L.gl d),fun d q hq=>Nat.lt_succ_of_lt (L.gN d q hq)⟩
  ·rcases hty with rfl | rfl | rfl<;>decide
  ·rcases hty with rfl | rfl | rfl<;>decide
  ·rcases hty with rfl | rfl | rfl<;>decide
  ·rcases hty with rfl | rfl | rfl<;>decide
  ·have ev:vxT n (sndX X P t (V P)) tk i=vxT n X tk i:=vx_ext fun a _=>cT_ext fun j hj=>sndX_T _ _ _ _ (Nat.lt_of_lt_of_le hj (Nat.le_trans (L.gi.tv i a) (L.gi.vc i a)))
   rw[ev]
   by_cases e:i=P
   ·subst e
    rw[updV_self]
    refine (EnZ.of E2 A2 hZ z2).kp fun q all ty hq hty=>k3 q all ty hq ?_ ?_ ?_ ?_
    ·rcases hty with ⟨rfl,_⟩ | rfl | ⟨rfl,_⟩<;>decide
    ·rcases hty with ⟨rfl,_⟩ | rfl | ⟨rfl,_⟩<;>decide
    ·rcases hty with ⟨rfl,_⟩ | rfl | ⟨rfl,_⟩<;>decide
    ·rcases hty with ⟨rfl,_⟩ | rfl | ⟨rfl,_⟩<;>decide
   ·rw[updV_ne _ _ e]
    have em:mxK n (sndX X P t (V P)) (V i)=mxK n X (V i):=mx_ext fun a b _ _=>cT_ext fun j hj=>sndX_T _ _ _ _ (Nat.lt_of_lt_of_le hj (L.gi.vc i a))
    rw[em]
    have ne:fs[i]≠fs[P]:=by
     rcases Nat.lt_or_gt_of_ne e with h | h
     ·exact List.pairwise_iff_getElem.1 L.fne i P hi pF h
     ·exact Ne.symm (List.pairwise_iff_getElem.1 L.fne P i pF hi h)
    have e1:=(L.F i hi).kp (h':=am hA h) fun q all ty hq hty=>k1 q all ty hq (by rcases hty with ⟨rfl,_⟩ | rfl | ⟨rfl,_⟩<;>decide)
    refine e1.kp fun q all ty hq hty=>kA q all ty hq ?_ ?_ ?_ ?_ ?_
    ·rcases hty with ⟨_,rfl⟩ | rfl | ⟨rfl,_⟩
     ·exact ne
     ·exact cFn hq (by decide)
     ·exact cFn hq (by decide)
    ·rcases hty with ⟨rfl,_⟩ | rfl | ⟨rfl,_⟩<;>decide
    ·rcases hty with ⟨rfl,_⟩ | rfl | ⟨rfl,_⟩<;>decide
    ·rcases hty with ⟨rfl,_⟩ | rfl | ⟨rfl,_⟩<;>decide
    ·rcases hty with ⟨rfl,_⟩ | rfl | ⟨rfl,_⟩<;>decide
  ·rcases hty with rfl | rfl | rfl<;>decide
  ·rcases hty with rfl | rfl | rfl<;>decide
  ·rcases hty with rfl | rfl | rfl<;>decide
  ·rcases hty with rfl | rfl | rfl<;>decide
  ·rcases hty with rfl | rfl | rfl<;>decide
  ·rcases hty with rfl | rfl | rfl<;>decide
  ·by_cases e:i=P
   ·subst e;rw[updN_self];exact L.sn i hi
   ·rw[updN_ne _ _ e];exact L.sn i hi
  ·by_cases e:i=P
   ·subst e
    rw[updN_self]
    exact inv_send (L.li i hi) (X.c i) t (by omega) (by omega) (by omega) tme
   ·rw[updN_ne _ _ e];exact L.li i hi
  ·show upV1 X.c P a<=N+1
   have:=L.ck a
   unfold upV1
   split<;>omega
 have cm6:=(kall pm _ _ cm (by decide) (by decide) (by decide) (by decide) (by decide) (by decide)).trans cm
 have lp80:h80.load1 pm 1=some (.int .i64 (P:Nat)):=(Cells.load ((k12 pm _ _ cm (by decide) (by decide)).trans cm) 1).trans hm1
 -- the rows of stamps
 have B1':ABs (nm h).blks.length (am hA h) sv ((bitsTo t 64).map (rowF (E P) t)):=B1.same sgA
 have kpB:∀ {n1:Nat} {v:Value} {l:List (List UInt8)},ABs n1 h80 v l->ABs n1 h86 v l:=fun {n1 v l} ⟨vs,x⟩=>⟨vs,x.kp fun q all ty hq hty _=>k3 q all ty hq (by rcases hty with rfl | rfl<;>decide) (by rcases hty with rfl | rfl<;>decide) (by rcases hty with rfl | rfl<;>decide) (by rcases hty with rfl | rfl<;>decide)⟩
 have B1h:ABs (nm h).blks.length h80 sv ((bitsTo t 64).map (rowF (E P) t)):=by
  obtain ⟨vs,x⟩:=B1'
  exact ⟨vs,x.kp fun q all ty hq hty _=>k2 q all ty hq (cFn hq (by rcases hty with rfl | rfl<;>decide))⟩
 have R1:=(kpB B1h).up (n1:=h0.blks.length) L.sm.1
 have R2:=(kpB B2).up (n1:=h0.blks.length) (Nat.le_trans L.sm.1 m1'.len)
 have A4':AI h0.blks.length h86 (.slice da (bitsTo t 64).length dc) (bitsTo t 64):=Acc.up A4 (Nat.le_trans lo0 kp3.1)
 have ln1:=R1.len
 have ln2:=R2.len
 rw[List.length_map] at ln1
 rw[List.length_replicate] at ln2
 have ln3:∀h,lenV Tryz.prog 68 (.slice da (bitsTo t 64).length dc) h=some (.int .i64 (bitsTo t 64).length):=fun h=>by kernel_rfl
 obtain ⟨ad,i1,i2⟩:=L.engL hP pP
 have ck:∀Y:Option β,chk (rb (.pointer (some ⟨fb',fo,none⟩))++rb (.pointer (some ⟨pm,1,none⟩))) hA.mods Y=Y:=fun Y=>chk_ne (fun b hb z hz e=>by
  have hz:z=ps[P].1:=(md z hz).symm ▸ rfl
  simp only[rb_ptr,List.mem_append,List.mem_singleton] at hb
  rcases hb with rfl | rfl
  ·exact cEn i5 (by decide) (e.trans hz)
  ·exact cEn cm (by decide) (e.trans hz)) Y
 have len0:(nm h).blks.length=h.blks.length:=rfl
 simp -implicitDefEqProofs (maxSteps:=2000000) (disch:=omega) only[↓c4_19_eq,Aa,Af,Ag,An,Aq,faMo1,faMo3,ldI,ldU,lp1,lp3,al,am_nm,nm_mods,List.nil_append,List.append_nil,an,cvu,sl,ao,dz,i1,i2,q1,lpA,i3,ldPF,i4',q2,ck,lp80,q3,q4,ln1,ln2,ln3,ne_eq,eq_self,not_true_eq_false,decide_false,↓zAc,↓zAb,↓Option.bind_some,↓zAa,sxB,Nat.reduceBEq]
 refine ff_words (B:=64*(k+1)) (b:=b) (P:=P) (t:=t) (m0:=N) (num:=X.c P+1) (ds:=bitsTo t 64) (R:=rowF (E P) t) (fb:=stampM n (mxK n X (V P))) (OK:=fun q a d ws=>All2 (fun w j=>WdOk n (sndX X P t (V P)) (rkS rk P (X.c P) N) tk a d w j) ws (wayJ X tk a d++if a=P/\d∈(bitsTo t 64).take q then [X.c P] else [])) (by omega) hn hP hm1 b0 b12 b13 ⟨by simp[tll],?_⟩ (fun d hd=>(bits_ltF tlt hd).1) blen (fun q hq a d ws ha hd ok=>?_) (fun h' y wv' lv' W' L' c' w' o' K' y15=>?_) (bitsTo t 64).length 0 (by omega) _ h86 wv lv W Fin cm6 A4' R1 R2 (fun i=>by have:=hW i;omega) (fun a d ha hd=>?_) ⟨K.e0,K.e1,K.e5,K.e6,K.e12,K.e13,K.e14⟩ ?_ ?_ ?_ ?_ ?_ ?_ ?_
 ·rw[List.getElem_append_right (by omega)]
  simp[tll]
 ·have nd:(bitsTo t 64).Nodup:=by unfold bitsTo;exact List.nodup_range.sublist List.filter_sublist
  have mem:d∈(bitsTo t 64).take (q+1) ↔ d∈(bitsTo t 64).take q\/d=(bitsTo t 64)[q]:=by
   rw[List.take_succ,List.getElem?_eq_getElem hq,List.mem_append]
   simp
  have nin:(bitsTo t 64)[q] ∉ (bitsTo t 64).take q:=fun hm=>by
   obtain ⟨i,hi,he⟩:=List.getElem_of_mem hm
   rw[List.length_take] at hi
   rw[List.getElem_take] at he
   have:=(List.getElem_inj nd).1 he
   omega
  by_cases e:a=P/\d=(bitsTo t 64)[q]
  ·obtain ⟨rfl,rfl⟩:=e
   rw[if_pos ⟨rfl,rfl⟩,if_pos ⟨rfl,mem.2 (.inr rfl)⟩]
   rw[if_neg fun x=>nin x.2,List.append_nil] at ok
   have hb:=bits_ltF tlt (List.getElem_mem hq)
   refine All2.append ok (.cons ⟨rfl,(if_pos ⟨rfl,rfl⟩).symm,rfl,(sndX_Tn X a t (V a)).symm,⟨_,?_,gs.2 _ hb.1 hb.2⟩,?_⟩ .nil)
   ·have gg:goodE (purgeE (lessE (E a) (outB t (ofN ((bitsTo t 64)[q]:Nat)))))=true:=(gs.2 _ hb.1 hb.2).1.good
    show putE _=_
    unfold putE
    rw[if_pos gg]
   ·show stampM n (mxK n X (V a))=_
    rw[sndX_An]
    congr 1
    exact mx_ext fun x y _ _=>(cT_ext fun i hi=>sndX_T _ _ _ _ (Nat.lt_of_lt_of_le hi (L.gi.vc a x))).symm
  ·rw[if_neg e]
   have e2:(a=P/\d∈(bitsTo t 64).take (q+1)) ↔ (a=P/\d∈(bitsTo t 64).take q):=by
    rw[mem]
    constructor
    ·rintro ⟨x,y | y⟩
     ·exact ⟨x,y⟩
     ·exact absurd ⟨x,y⟩ e
    ·rintro ⟨x,y⟩
     exact ⟨x,.inl y⟩
   simp only[e2]
   exact ok
 ·refine hk h' y _ _ _ _ _ _ _ _ wv' lv' W' (L'.t fun a d ha hd=>?_) c' w' K' y15
  have:=o' a d ha hd
  rw[List.take_length] at this
  by_cases ea:a=P
  ·subst ea
   rw[wayJ_send (Nat.le_trans (L.gi.tv d a) (L.gi.vc d a))]
   have e2:d∈bitsTo t 64 ↔ t.testBit d=true:=⟨fun h=>(bits_ltF tlt h).2,fun h=>List.mem_filter.2 ⟨List.mem_range.2 (by omega),h⟩⟩
   simp only[e2,true_and] at this
   exact this
  ·rw[wayJ_send2 ea]
   rw[if_neg fun x=>ea x.1,List.append_nil] at this
   exact this
 ·rw[List.take_zero,if_neg fun x=>(List.not_mem_nil x.2),List.append_nil]
  exact (L.wds a d ha hd).monoR fun w j hj r=>r.snd L.gi (wayJ_mem.1 hj).1
 ·exact Aq
 all_goals rfl
end
end Go.Am
namespace Go.Am
open Go.Proofs
set_option maxRecDepth 100000
set_option linter.all false
attribute [local congr] zAf zAq zAr zAs zAj zAg
theorem remZ (t:TypeId) (xo yo:Operand) (a:Int) (b:Nat) (ha:0<=a) (hb:0<b) (hb2:b<2^62):zBk Tryz.prog .rem t xo yo (.int .i64 a) (.int .i64 b)=some (.int .i64 ((a.toNat % b:Nat):Int)):=by
 obtain ⟨k,rfl⟩:∃k:Nat,a=k:=⟨a.toNat,by omega⟩
 rw[Int.toNat_natCast]
 exact remN t xo yo k b hb hb2
theorem KpT.reflF (t:TypeId) (h:Heap):KpT t h h:=⟨Nat.le_refl _,fun _ _ _ _ _=>rfl⟩
section
variable {h0 h:Heap} {n bw p kb gb k:Nat} {ps:List (Nat × Nat)} {fs:List Nat} {pv fv:Value} {X:Tr} {N:Nat} {rk V tk:Nat->Nat->Nat} {E:Nat->List E3} {S:Nat->List Nat} {ms:List SM4} {kn:Nat->List Bool} {gt:Nat->List Nat} {wv:Nat->Value} {lv:Nat->List (Value × Value)} {W:Nat->List Wd}
theorem FSt.mto (L:FSt h0 h n bw p kb gb k ps fs pv fv X N rk V tk E S ms kn gt wv lv W) (hn:n<=6):∀x∈ms,x.to<2^64:=fun x hx=>by
 obtain ⟨i,hi,rfl⟩:=List.getElem_of_mem hx
 obtain ⟨_,j,hj,hr⟩:=L.tl.inv i hi
 obtain ⟨_,_,_,e⟩:=L.tl.at' ms[i].f j hj
 simp only[hr] at e
 have h16:(2:Nat)^n<=2^6:=Nat.pow_le_pow_right (by omega) hn
 have:=(L.gi.tw ms[i].f j hj).1
 omega
theorem FSt.takeAll (L:FSt h0 h n bw p kb gb k ps fs pv fv X N rk V tk E S ms kn gt wv lv W) (h1:1<=n) (hn:n<=6) (hk:k<=40) {a P:Nat} (ha:a<n) (hP:P<n) (pP:P<ps.length) (pF:P<fs.length) {w:Wd} {ws:List Wd} (hw:W (a*n+P)=w::ws) {bv cv:Value} (hb:AB h0.blks.length h bv w.lb) (hc:AB h0.blks.length h cv w.fb) (hr:canE n (P:Nat) (S P) (w.frm:Nat) w.num w.lb=true) :
  ∃hE hF hG V' tk' E' S' kn' gt',evC Tryz.prog 9 #[.pointer (some ⟨ps[P].1,0,none⟩),.int .i64 w.frm,.int .u64 w.num,.int .u64 w.to,bv] h=some (.bool true,hE)/\(∀(q:Nat) (all:List Value) (ty:TypeId),h.blks[q]?=some ⟨.cells all,ty,true⟩->ty≠90->ty≠30->hE.blks[q]?=h.blks[q]?) ∧
   evC Tryz.prog 26 #[.pointer (some ⟨fs[P],0,none⟩),.int .i64 w.frm,.int .u64 w.num,.int .u64 w.to,cv] hE=some (.bool true,hF)/\evC Tryz.prog 27 #[.pointer (some ⟨p,0,none⟩),.int .i64 P,.int .i64 w.plc] hF=some (.bool true,hG) ∧
   (∀(q:Nat) (all:List Value) (ty:TypeId),h.blks[q]?=some ⟨.cells all,ty,true⟩->ty≠90->ty≠30->ty≠123->hF.blks[q]?=h.blks[q]?) ∧
   (∀(q:Nat) (all:List Value) (ty:TypeId),h.blks[q]?=some ⟨.cells all,ty,true⟩->ty≠90->ty≠30->ty≠123->ty≠78->ty≠73->ty≠71->ty≠68->hG.blks[q]?=h.blks[q]?) ∧
   FSb h0 hG n bw p kb gb (k+1) ps fs pv fv X N rk V' tk' E' S' ms kn' gt' wv lv W/\(∀a' d' w j,WdOk n X rk tk a' d' w j->WdOk n X rk tk' a' d' w j)/\(∀a' d',¬(d'=P/\a'=a)->wayJ X tk' a' d'=wayJ X tk a' d')/\(∃j js,wayJ X tk a P=j::js/\wayJ X tk' a P=js):=by
 obtain ⟨j,js,g,wj,hok,eg,st,gp,gw,gl,n1,n2,j1,j2,j3,⟨hm,r1⟩,r2,rc⟩:=L.head h1 hn (by omega) ha hP hw
 have hC:=rc.1 hr
 have cb:∀a,X.c a<=40:=fun a=>by have:=L.ck a;have:=L.Nk;omega
 have lgP:=L.G.low P pP
 have h16:(2:Nat)^n<=2^6:=Nat.pow_le_pow_right (by omega) hn
 have Tw:=(L.gi.tw a j j1).1
 obtain ⟨o1,o2,_,_⟩:=log_ok (n:=n) (L.gi.log P hP).1 (fun x=>Nat.le_trans (L.gi.vc P x) (by have:=cb x;omega)) (fun x hx=>by have:=L.gi.vc P x;have:=L.gi.out x hx;omega) hn
 obtain ⟨sl,sg⟩:=L.sn P hP
 have hne:zAn bv≠some ps[P].1/\zAn bv≠some ps[P].2:=by
  obtain ⟨_,_,c,_⟩:=(L.G.eng P pP).eng
  constructor
  ·intro e
   obtain ⟨all,hh⟩:=Acc.blk hb e
   exact absurd (Cells.ty c hh) (by decide)
  ·intro e
   obtain ⟨all,hh⟩:=Acc.blk hb e
   exact absurd (Cells.ty (L.G.eng P pP).seen hh) (by decide)
 have head0:=wayJ_head wj
 obtain ⟨hE,q1,m1,L1⟩:=spec_Take (L.G.eng P pP) (by omega) sl o1 (by omega) lgP.2.2 (w.frm:Nat) w.num w.to (by have:=cb a;rw[hok.num];omega) (by rw[hok.to];omega) (Acc.sl hb etB.size) (by omega) hne.1 hne.2 gp hr (insOk_all (by omega))
 have k1:∀(q:Nat) (all:List Value) (ty:TypeId),h.blks[q]?=some ⟨.cells all,ty,true⟩->ty≠90->(ty=30->¬Zs ps q)->hE.blks[q]?=h.blks[q]?:=fun q all ty hq t1 t2=>m1.old q (List.getElem?_eq_some_iff.1 hq).1 fun e=>by
  rcases e with e | e
  ·obtain ⟨_,_,c,_⟩:=(L.G.eng P pP).eng
   subst e
   exact t1 (Cells.ty c hq).symm
  ·have hz:Zs ps q:=⟨P,pP,e⟩
   subst e
   exact t2 (Cells.ty (L.G.eng P pP).seen hq).symm hz
 rw[Int.toNat_natCast,hok.frm,hok.num,hok.to] at L1
 have G1:=L.G.turn pP m1 (fun b hb=>hb) L1
 have e2:updN X.c P (X.c P)=X.c:=by funext i;unfold updN;split;(rename_i e;rw[e]);rfl
 rw[e2] at G1
 have kE:∀(i:Nat) (hi:i<fs.length),EnZ (Zs ps) hE fs[i] n (i:Nat) (mxK n X (V i)) (vxT n X tk i):=fun i hi=>(L.F i hi).kp fun q all ty hq hty=>k1 q all ty hq (by rcases hty with ⟨rfl,_⟩ | rfl | ⟨rfl,_⟩<;>decide) fun e=>by
  rcases hty with ⟨rfl,_⟩ | rfl | ⟨_,hz⟩
  ·exact absurd e (by decide)
  ·exact absurd e (by decide)
  ·exact hz
 have hcE:AB h0.blks.length hE cv w.fb:=Acc.keep hc fun q _ hq=>by obtain ⟨all,hh⟩:=Acc.blk hc hq;exact k1 q all _ hh (by decide) (fun e=>absurd e (by decide))
 obtain ⟨rv,gv,vs,c1,a1,u1,z1,z2⟩:=kE P pF
 have hF:=r2.trans hr
 obtain ⟨hF',q2,m2,rv',gv',E2,A2,U2⟩:=spec_ETakeZ (L:=0) (h:=hE) (p:=fs[P]) (n:=n) (me:=(P:Nat)) (m:=mxK n X (V P)) (g:=vxT n X tk P) ⟨c1,⟨vs,a1⟩,u1⟩ (Nat.zero_le _) (L.ok h1 hn (by omega) hP) (w.frm:Nat) w.num w.to (by rw[hok.to];omega) (Acc.sl hcE etB.size) (by omega) hF
 obtain ⟨ft1,ft2⟩:=full_take L.gi h1 (by omega) (fun x=>by have:=cb x;omega) ha j1 hP j3 hC j2 head0
 rw[hok.frm,hok.to,hok.fb] at E2 A2
 rw[hok.frm,hok.fb] at U2
 rw[ft1,ft2] at E2
 rw[ft1] at A2
 rw[ft2] at U2
 have cFn:∀ {q:Nat} {all:List Value} {ty:TypeId},hE.blks[q]?=some ⟨.cells all,ty,true⟩->ty≠123->q≠fs[P]:=fun {q all ty} hq ht e=>by subst e;exact ht (Cells.ty c1 hq).symm
 have k2:∀(q:Nat) (all:List Value) (ty:TypeId),hE.blks[q]?=some ⟨.cells all,ty,true⟩->q≠fs[P]->hF'.blks[q]?=hE.blks[q]?:=fun q all ty hq ht=>m2.old q (List.getElem?_eq_some_iff.1 hq).1 ht
 have k12:∀(q:Nat) (all:List Value) (ty:TypeId),h.blks[q]?=some ⟨.cells all,ty,true⟩->ty≠90->ty≠30->ty≠123->hF'.blks[q]?=h.blks[q]?:=fun q all ty hq t1 t2 t3=>by
  have e:=k1 q all ty hq t1 fun x=>absurd x t2
  exact (k2 q all ty (e.trans hq) (cFn (e.trans hq) t3)).trans e
 have P2:=L.P.kp (h':=hF') fun q all ty hq hty=>k12 q all ty hq (by rcases hty with rfl | rfl | rfl | rfl | rfl | rfl<;>decide) (by rcases hty with rfl | rfl | rfl | rfl | rfl | rfl<;>decide) (by rcases hty with rfl | rfl | rfl | rfl | rfl | rfl<;>decide)
 have tll:=L.tl.len
 have Nk:=L.Nk
 have hct:canTB ms ms[rk a j] (gt P) P (rk a j)=true:=r1.trans hr
 unfold canTB at hct
 rw[Bool.and_eq_true,Bool.and_eq_true,Bool.not_eq_true'] at hct
 obtain ⟨hG,q3,kp3,P3⟩:=spec_TTake P2 hP hm (by have:=L.gl P;omega) (by omega) (L.mto hn) (by have:=L.tl.knl P;omega) (by have:=L.tl.ahl _ hm;omega) hct.1 hct.2.1
 have k3:∀(q:Nat) (all:List Value) (ty:TypeId),hF'.blks[q]?=some ⟨.cells all,ty,true⟩->ty≠78->ty≠73->ty≠71->ty≠68->hG.blks[q]?=hF'.blks[q]?:=kp3.2.2
 have kall:∀(q:Nat) (all:List Value) (ty:TypeId),h.blks[q]?=some ⟨.cells all,ty,true⟩->ty≠90->ty≠30->ty≠123->ty≠78->ty≠73->ty≠71->ty≠68->hG.blks[q]?=h.blks[q]?:=fun q all ty hq t1 t0 t2 t3 t4 t5 t6=>by
  have e:=k12 q all ty hq t1 t0 t2
  exact (k3 q all ty (e.trans hq) t3 t4 t5 t6).trans e
 have kA:∀(q:Nat) (all:List Value) (ty:TypeId),hE.blks[q]?=some ⟨.cells all,ty,true⟩->q≠fs[P]->ty≠78->ty≠73->ty≠71->ty≠68->hG.blks[q]?=hE.blks[q]?:=fun q all ty hq hne t3 t4 t5 t6=>by
  have e:=k2 q all ty hq hne
  exact (k3 q all ty (e.trans hq) t3 t4 t5 t6).trans e
 have acc:∀ {n1 m es:Nat} {el:TypeId} {v:Value} {cs:List Value},Acc n1 h el es v m cs->el≠90->el≠30->el≠123->el≠78->el≠73->el≠71->el≠68->Acc n1 hG el es v m cs:=fun a t1 t0 t2 t3 t4 t5 t6=>a.keep fun q _ hq=>by obtain ⟨all,hh⟩:=a.blk hq;exact kall q all _ hh t1 t0 t2 t3 t4 t5 t6
 obtain ⟨GI',up⟩:=GI.take L.gi (by omega) ha j1 hP j3 st hC j2 head0
 have sm6:Same h0 hG:=⟨Nat.le_trans (Nat.le_trans (Nat.le_trans L.sm.1 m1.len) m2.len) kp3.1,fun q hq=>by
  have e0:=L.sm.2 q hq
  have l0:=Nat.lt_of_lt_of_le hq L.sm.1
  have e1:=m1.old q l0 fun e=>by omega
  have l1:=Nat.lt_of_lt_of_le l0 m1.len
  have e2:=m2.old q l1 fun e=>by have e:q=fs[P]:=e;have:=L.flo P pF;omega
  have l2:=Nat.lt_of_lt_of_le l1 m2.len
  have e3:=kp3.2.1 q hq l2
  exact ((e3.trans e2).trans e1).trans e0⟩
 have hZ:∀q,Zs ps q->q<hE.blks.length:=fun q ⟨i,hi,e⟩=>by
  rw[e]
  exact Nat.lt_of_lt_of_le (L.G.eng i hi).seen.lt m1.len
 refine ⟨hE,hF',hG,updV V P (maxV (V P) (upV1 (X.A a j) a)),tkS tk P a j,updN E P (takeLog (E P) (P:Nat) (a:Nat) (j+1) (X.T a j) g),updN S P ((S P).set a (j+1)),updF kn P (bothL (kn P) ms[rk a j].ah (rk a j)),updF gt P (gt P++[rk a j]),q1,fun q all ty hq t1 t2=>k1 q all ty hq t1 fun x=>absurd x t2,q2,by rw[hok.plc];exact q3,k12,kall,?_,fun a' d' w j ok=>⟨ok.frm,ok.plc,ok.num,ok.to,?_,ok.fb⟩,fun a' d' hne=>wayJ_other hne,j,js,wj,wayJ_take wj⟩
 ·refine ⟨sm6,⟨fun i hi=>(G1.eng i hi).kpF fun q all ty hq hty=>kA q all ty hq (cFn hq (by rcases hty with rfl | rfl | rfl<;>decide)) ?_ ?_ ?_ ?_,G1.low,G1.sep⟩,L.lps,fun i hi=>?_,L.lfs,L.flo,L.fne,acc L.pr (by decide) (by decide) (by decide) (by decide) (by decide) (by decide) (by decide),acc L.fr (by decide) (by decide) (by decide) (by decide) (by decide) (by decide) (by decide),L.Wy.kpF fun q all ty hq hty=>kall q all ty hq ?_ ?_ ?_ ?_ ?_ ?_ ?_,P3,GI',L.tl.take L.gi j1 hP j3 j2 head0 hm,fun i hi=>?_,fun i hi=>?_,Nat.le_succ_of_le Nk,L.ck,fun d=>?_,fun d q hq=>?_⟩
  ·rcases hty with rfl | rfl | rfl<;>decide
  ·rcases hty with rfl | rfl | rfl<;>decide
  ·rcases hty with rfl | rfl | rfl<;>decide
  ·rcases hty with rfl | rfl | rfl<;>decide
  ·by_cases e:i=P
   ·subst e
    rw[updV_self]
    refine (EnZ.of E2 A2 hZ fun q hq hz=>?_).kp fun q all ty hq hty=>k3 q all ty hq ?_ ?_ ?_ ?_
    ·have:=hZ q hz
     have:=Acc.ge U2 hq
     omega
    ·rcases hty with ⟨rfl,_⟩ | rfl | ⟨rfl,_⟩<;>decide
    ·rcases hty with ⟨rfl,_⟩ | rfl | ⟨rfl,_⟩<;>decide
    ·rcases hty with ⟨rfl,_⟩ | rfl | ⟨rfl,_⟩<;>decide
    ·rcases hty with ⟨rfl,_⟩ | rfl | ⟨rfl,_⟩<;>decide
   ·rw[updV_ne _ _ e]
    have ev:vxT n X (tkS tk P a j) i=vxT n X tk i:=vx_ext fun x _=>by
     have:tkS tk P a j i x=tk i x:=if_neg fun y=>e y.1
     rw[this]
    rw[ev]
    have ne:fs[i]≠fs[P]:=by
     rcases Nat.lt_or_gt_of_ne e with h | h
     ·exact List.pairwise_iff_getElem.1 L.fne i P hi pF h
     ·exact Ne.symm (List.pairwise_iff_getElem.1 L.fne P i pF hi h)
    refine (kE i hi).kp fun q all ty hq hty=>kA q all ty hq ?_ ?_ ?_ ?_ ?_
    ·rcases hty with ⟨_,rfl⟩ | rfl | ⟨rfl,_⟩
     ·exact ne
     ·exact cFn hq (by decide)
     ·exact cFn hq (by decide)
    ·rcases hty with ⟨rfl,_⟩ | rfl | ⟨rfl,_⟩<;>decide
    ·rcases hty with ⟨rfl,_⟩ | rfl | ⟨rfl,_⟩<;>decide
    ·rcases hty with ⟨rfl,_⟩ | rfl | ⟨rfl,_⟩<;>decide
    ·rcases hty with ⟨rfl,_⟩ | rfl | ⟨rfl,_⟩<;>decide
  ·rcases hty with rfl | rfl | rfl<;>decide
  ·rcases hty with rfl | rfl | rfl<;>decide
  ·rcases hty with rfl | rfl | rfl<;>decide
  ·rcases hty with rfl | rfl | rfl<;>decide
  ·rcases hty with rfl | rfl | rfl<;>decide
  ·rcases hty with rfl | rfl | rfl<;>decide
  ·rcases hty with rfl | rfl | rfl<;>decide
  ·by_cases e:i=P
   ·subst e
    rw[updN_self]
    refine ⟨by rw[List.length_set];exact sl,fun f hf=>?_⟩
    rw[List.getD_eq_getElem?_getD,List.getElem?_set]
    unfold tkS
    by_cases e3:a=f
    ·subst e3
     rw[if_pos rfl,if_pos (by rw[sl];exact ha),if_pos ⟨rfl,rfl⟩];rfl
    ·rw[if_neg e3,if_neg fun x=>e3 x.2.symm,<-List.getD_eq_getElem?_getD]
     exact sg f hf
   ·rw[updN_ne _ _ e]
    refine ⟨(L.sn i hi).1,fun f hf=>?_⟩
    unfold tkS
    rw[if_neg fun x=>e x.1]
    exact (L.sn i hi).2 f hf
  ·by_cases e:i=P
   ·subst e
    rw[updN_self]
    have hmx:mayE ⟨(a:Nat),j+1,X.T a j⟩=true:=by
     unfold mayE
     simp only[Bool.and_eq_true,decide_eq_true_eq]
     omega
    exact inv_take (L.li i hi) st.1.good (a:Nat) (j+1) (X.T a j) hmx (by omega) (by omega)
   ·rw[updN_ne _ _ e];exact L.li i hi
  ·unfold updF
   by_cases e:d=P
   ·rw[if_pos e,List.length_append,List.length_singleton]
    have:=L.gl P
    omega
   ·rw[if_neg e];exact Nat.le_succ_of_le (L.gl d)
  ·unfold updF at hq
   by_cases e:d=P
   ·rw[if_pos e] at hq
    rcases List.mem_append.1 hq with hq | hq
    ·exact L.gN P q hq
    ·rw[List.mem_singleton] at hq;omega
   ·rw[if_neg e] at hq
    exact L.gN d q hq
 ·obtain ⟨g',Ab,Ac⟩:=ok.lb
  exact ⟨g',Ab,Ac.1,Ac.2.mono up⟩
end
end Go.Am
namespace Go.Am
open Go.Proofs
set_option maxRecDepth 100000
set_option linter.all false
attribute [local congr] zAf zAq zAr zAs zAj zAg
section
variable {h0 h:Heap} {n bw p kb gb k:Nat} {ps:List (Nat × Nat)} {fs:List Nat} {pv fv:Value} {X:Tr} {N:Nat} {rk V tk:Nat->Nat->Nat} {E:Nat->List E3} {S:Nat->List Nat} {ms:List SM4} {kn:Nat->List Bool} {gt:Nat->List Nat} {wv:Nat->Value} {lv:Nat->List (Value × Value)} {W:Nat->List Wd}
theorem ff_take {β:Type} {Q:Option β->Prop} {kk:Ex->St->Option β} {b:Nat->Value} {P pm:Nat} {kz:Int} {mv:List Value}
  (L:FSt h0 h n bw p kb gb k ps fs pv fv X N rk V tk E S ms kn gt wv lv W) (h1:1<=n) (hn:n<=6) (hkk:k<=40) (hP:P<n) (cm:Cells h pm 64 mv) (hm1:mv[1]?=some (.int .i64 (P:Nat))) (hm2:mv[2]?=some (.int .i64 kz)) (hW:∀i,(W i).length<=64*k)
  (b0:b 0=.int .i64 n) (b5:b 5=pv) (b6:b 6=fv) (b12:b 12=.pointer (some ⟨p,0,none⟩)) (b13:b 13=.slice (some ⟨bw,0,none⟩) (n*n) (n*n))
  (hk:∀(h':Heap) (y:Nat->Value) (V tk:Nat->Nat->Nat) (E:Nat->List E3) (S:Nat->List Nat) (kn:Nat->List Bool) (gt:Nat->List Nat) (wv:Nat->Value) (lv:Nat->List (Value × Value)) (W:Nat->List Wd),FSt h0 h' n bw p kb gb (k+1) ps fs pv fv X N rk V tk E S ms kn gt wv lv W->(∀i,(W i).length<=64*(k+1))->KF b y->Q (kk .normal ⟨ar 366 y,h'⟩)) :
  ∀x:Nat->Value,KF b x->x 15=.pointer (some ⟨pm,0,none⟩)->Q (cK c4_20 366 x h kk):=by
 intro x K Aq
 have pP:P<ps.length:=by rw[L.lps];exact hP
 have pF:P<fs.length:=by rw[L.lfs];exact hP
 have Aa:=K.e0.trans b0
 have Af:=K.e5.trans b5
 have Ag:=K.e6.trans b6
 have An:=K.e12.trans b12
 have Ao:=K.e13.trans b13
 have lp1:h.load1 pm 1=some (.int .i64 (P:Nat)):=(cm.load 1).trans hm1
 have lp2:h.load1 pm 2=some (.int .i64 kz):=(cm.load 2).trans hm2
 have W1:∀i,(W i).length<=64*(k+1):=fun i=>by have:=hW i;omega
 by_cases hz:kz>=0
 ·have rm:=fun t xo yo=>remZ t xo yo kz n hz (by omega) (by omega)
  have am:kz.toNat % n<n:=Nat.mod_lt _ (by omega)
  generalize kz.toNat % n=a at rm am
  have hat:=at_ltF am hP
  have hNN:n*n<=36:=Nat.le_trans (Nat.mul_le_mul hn hn) (by omega)
  have hPn:a*n<2^20:=by omega
  have w1:IntKind.wrap .i64 ((a:Int)*(n:Int))=((a*n:Nat):Int):=by rw[<-Int.natCast_mul,wrap_i64]<;>omega
  have w2:IntKind.wrap .i64 (((a*n:Nat):Int)+(P:Nat))=((a*n+P:Nat):Int):=by rw[wrap_i64]<;>omega
  have ia1:=iaWsF bw (n*n) (a*n+P) hat
  have la1:=L.Wy.at hat
  have WY:=L.Wy.one _ hat
  obtain ⟨va,vc,ev⟩:=WY.shapeF
  simp -implicitDefEqProofs (disch:=omega) only[↓c4_20_eq,↓c4_24_eq,↓c4_25_eq,↓c4_30_eq,↓c4_35_eq,dcT,Aa,Aq,faMo1,faMo2,ldI,lp1,lp2,decide_eq_true hz,rm,w1,w2,↓zAc,↓zAb,↓Option.bind_some,↓zAa,sxB,Nat.reduceBEq]
  cases hw:W (a*n+P) with
  | nil=>
   rw[hw] at WY ev
   rw[ev] at la1
   simp -implicitDefEqProofs (disch:=omega) only[↓c4_36_eq,↓c4_40_eq,↓c4_41_eq,↓c4_47_eq,dcF,Ao,ia1,ldWd,la1,lnWo,List.length_nil,↓zAc,↓zAb,↓Option.bind_some,↓zAa,sxB,Nat.reduceBEq]
   exact hk h _ V tk E S kn gt wv lv W (L.up (by omega)) W1 ⟨K.e0,K.e1,K.e5,K.e6,K.e12,K.e13,K.e14⟩
  | cons w ws=>
   rw[hw] at WY ev
   rw[ev,List.length_cons] at la1
   obtain ⟨wb,wo,l1,ls,els,f0,f1,f2,f3⟩:=WY.first
   rw[ev,List.length_cons] at f0
   obtain ⟨j,js,g,wj,hok,_,_,_,_,_,n1,n2,j1,j2,j3,⟨hr,r1⟩,r2,_⟩:=L.head h1 hn (by omega) am hP hw
   obtain ⟨lx,lc,le⟩:=AB.shapeW f2
   obtain ⟨fx,fc,fe⟩:=AB.shapeW f3
   obtain ⟨l11,l12⟩:=l1
   simp only at le fe
   subst le fe
   obtain ⟨hA,hB,e1,e2,cw,sB⟩:=var_wd h w lx fx w.lb.length lc w.fb.length fc
   have LB:=L.same sB
   have cmB:=cm.same sB
   have m0:hB.load1 h.blks.length 0=some (.int .i64 w.frm):=cw.load 0
   have m1:hB.load1 h.blks.length 1=some (.int .i64 w.plc):=cw.load 1
   have m2:hB.load1 h.blks.length 2=some (.int .u64 w.num):=cw.load 2
   have m4:hB.load1 h.blks.length 4=some (.slice lx w.lb.length lc):=cw.load 4
   have mP:hB.load1 pm 1=some (.int .i64 (P:Nat)):=(cmB.load 1).trans hm1
   have qt:=LB.tcan hn (by omega) hP hr
   rw[r1,<-hok.plc] at qt
   obtain ⟨ad,i1,i2⟩:=LB.engL hP pP
   have bB:=Acc.same f2 sB
   have fB:=Acc.same f3 sB
   obtain ⟨hC,q1,y1⟩:=spec_Can (LB.G.eng P pP) (w.frm:Nat) w.num (Acc.sl bB etB.size) (by omega)
   have LC:=LB.same y1.same
   have cw2:=cw.same y1.same
   have c0:hC.load1 h.blks.length 0=some (.int .i64 w.frm):=cw2.load 0
   have c2:hC.load1 h.blks.length 2=some (.int .u64 w.num):=cw2.load 2
   have c5:hC.load1 h.blks.length 5=some (.slice fx w.fb.length fc):=cw2.load 5
   have cP:hC.load1 pm 1=some (.int .i64 (P:Nat)):=((cmB.same y1.same).load 1).trans hm1
   obtain ⟨ad2,i3,i4⟩:=LC.engF hP pF
   have fC:=Acc.same fB y1.same
   obtain ⟨hD,q2,y2⟩:=spec_ECan (LC.F P pF).en (LC.ok h1 hn (by omega) hP) (w.frm:Nat) w.num (Acc.sl fC etB.size) (by omega)
   rw[r2] at q2
   have LD:=LC.same y2.same
   have cwD:=cw2.same y2.same
   have cmD:=(cmB.same y1.same).same y2.same
   have bD:=Acc.same (Acc.same bB y1.same) y2.same
   have fD:=Acc.same fC y2.same
   have d0:hD.load1 h.blks.length 0=some (.int .i64 w.frm):=cwD.load 0
   have d2:hD.load1 h.blks.length 2=some (.int .u64 w.num):=cwD.load 2
   have d3:hD.load1 h.blks.length 3=some (.int .u64 w.to):=cwD.load 3
   have d4:hD.load1 h.blks.length 4=some (.slice lx w.lb.length lc):=cwD.load 4
   have dP:hD.load1 pm 1=some (.int .i64 (P:Nat)):=(cmD.load 1).trans hm1
   obtain ⟨ad3,i5,i6⟩:=LD.engL hP pP
   have gt1:decide (((ws.length+1:Nat):Int)>0)=true:=decide_eq_true (by omega)
   have f1':(h.loadN wb wo 6).map (fun vs=>Value.agg vs.toArray)=some (.agg (wdC w (.slice lx w.lb.length lc,.slice fx w.fb.length fc)).toArray):=by rw[f1];rfl
   simp -implicitDefEqProofs (disch:=omega) only[↓c4_36_eq,↓c4_40_eq,↓c4_41_eq,↓c4_46_eq,↓c4_50_eq,Ao,ia1,ldWd,la1,lnWo,List.length_cons,gt1,f0,ldWo,f1',e1,e2,↓zAc,↓zAb,↓Option.bind_some,↓zAa,sxB,Nat.reduceBEq]
   simp -implicitDefEqProofs (maxSteps:=2000000) (disch:=omega) only[↓c4_51_eq,↓c4_54_eq,↓c4_55_eq,↓c4_58_eq,↓c4_60_eq,↓c4_61_eq,↓d4_2_0,↓d4_2_1,↓d4_2_2,↓d4_2_3,↓d4_2_4,↓d4_2_5,↓d4_2_6,↓d4_2_7,↓d4_2_8,↓d4_2_9,↓d4_2_10,↓d4_2_11,↓d4_2_12,↓d4_2_13,↓d4_2_14,↓d4_2_15,↓d4_2_16,↓d4_2_17,↓d4_2_18,↓d4_2_19,↓d4_2_20,↓d4_2_21,↓d4_2_22,↓d4_2_23,↓d4_2_24,↓d4_2_25,↓d4_2_26,↓d4_2_27,↓d4_2_28,↓d4_2_29,↓d4_2_30,Af,Ag,An,Aq,faMo1,faWv0,faWv1,faWv2,faWv4,faWv5,ldI,ldU,ldByF,mP,m0,m1,m2,m4,qt,i1,i2,q1,cP,c0,c2,c5,i3,i4,q2,bneqF,bb_neF,↓zAc,↓zAb,↓Option.bind_some,↓zAa,sxB,Nat.reduceBEq]
   cases hrr:canE n (P:Nat) (S P) (w.frm:Nat) w.num w.lb with
   | false=>
    obtain ⟨hE,q3,y3⟩:=spec_TakeNo (LD.G.eng P pP) (w.frm:Nat) w.num w.to (Acc.sl bD etB.size) (by omega) hrr
    have LE:=LD.same y3.same
    have cwE:=cwD.same y3.same
    have e0:hE.load1 h.blks.length 0=some (.int .i64 w.frm):=cwE.load 0
    have e2':hE.load1 h.blks.length 2=some (.int .u64 w.num):=cwE.load 2
    have e3:hE.load1 h.blks.length 3=some (.int .u64 w.to):=cwE.load 3
    have e5:hE.load1 h.blks.length 5=some (.slice fx w.fb.length fc):=cwE.load 5
    have eP:hE.load1 pm 1=some (.int .i64 (P:Nat)):=((cmD.same y3.same).load 1).trans hm1
    obtain ⟨ad4,i7,i8⟩:=LE.engF hP pF
    obtain ⟨rv,gv,vs,cc1,aa1,uu1,_⟩:=LE.F P pF
    obtain ⟨hF,q4,y4⟩:=spec_ETakeNoZ (L:=0) ⟨cc1,⟨vs,aa1⟩,uu1⟩ (LE.ok h1 hn (by omega) hP) (w.frm:Nat) w.num w.to (Acc.sl (Acc.same fD y3.same) etB.size) (by omega) (r2.trans hrr)
    simp -implicitDefEqProofs (maxSteps:=2000000) (disch:=omega) only[↓c4_59_eq,↓c4_62_eq,↓c4_63_eq,↓c4_64_eq,↓c4_65_eq,↓d4_3_0,↓d4_3_1,↓d4_3_2,↓d4_3_3,↓d4_3_4,↓d4_3_5,↓d4_3_6,↓d4_3_7,↓d4_3_8,↓d4_3_9,↓d4_3_10,↓d4_3_11,↓d4_3_12,↓d4_3_13,↓d4_3_14,↓d4_3_15,↓d4_3_16,↓d4_3_17,↓d4_3_18,↓d4_3_19,↓d4_3_20,↓d4_3_21,↓d4_3_22,↓d4_3_23,↓d4_3_24,↓d4_3_25,↓d4_3_26,↓d4_3_27,↓d4_3_28,↓d4_3_29,↓d4_3_30,↓d4_3_31,↓d4_3_32,↓d4_3_33,↓d4_3_34,Af,Ag,An,Aq,faMo1,faWv0,faWv2,faWv3,faWv4,faWv5,ldI,ldU,ldByF,dP,d0,d2,d3,d4,i5,i6,q3,eP,e0,e2',e3,e5,i7,i8,q4,hrr,bneqF,bb_neF,↓zAc,↓zAb,↓Option.bind_some,↓zAa,sxB,Nat.reduceBEq]
    exact hk hF _ V tk E S kn gt wv lv W ((LE.same y4.same).up (by omega)) W1 ⟨K.e0,K.e1,K.e5,K.e6,K.e12,K.e13,K.e14⟩
   | true=>
    obtain ⟨hE,hF,hG,V',tk',E',S',kn',gt',q3,k3,q4,q5,k4,k5,LG,wok,wjo,⟨j',js',wj1,wj2⟩⟩:=LD.takeAll h1 hn hkk am hP pP pF hw bD fD hrr
    have cwE:=(k3 _ _ _ cwD (by decide) (by decide)).trans cwD
    have cmE:=(k3 _ _ _ cmD (by decide) (by decide)).trans cmD
    have e0:hE.load1 h.blks.length 0=some (.int .i64 w.frm):=Cells.load cwE 0
    have e2':hE.load1 h.blks.length 2=some (.int .u64 w.num):=Cells.load cwE 2
    have e3:hE.load1 h.blks.length 3=some (.int .u64 w.to):=Cells.load cwE 3
    have e5:hE.load1 h.blks.length 5=some (.slice fx w.fb.length fc):=Cells.load cwE 5
    have eP:hE.load1 pm 1=some (.int .i64 (P:Nat)):=(Cells.load cmE 1).trans hm1
    obtain ⟨ad4,i7,i8⟩:∃ad,zAh Tryz.prog 56 fv (.int .i64 P)=some (.pointer (some ad))/\zAw Tryz.prog 57 (.pointer (some ad)) hE=some (.pointer (some ⟨fs[P],0,none⟩)):=by
     have a2:Acc h0.blks.length hE 57 1 fv n (fs.map ptrF):=LD.fr.keep fun q _ hq=>by obtain ⟨all,hh⟩:=LD.fr.blk hq;exact k3 q all _ hh (by decide) (by decide)
     obtain ⟨a,Ab,Ac,_⟩:=(Acc.sl a2 etPF.size).row.at1 etPF.under etPF.size (by kernel_rfl) hP .i64
     refine ⟨a,Ab,?_⟩
     rw[Ac,List.getElem?_map,List.getElem?_eq_getElem pF];rfl
    have cwF:=(k4 _ _ _ cwD (by decide) (by decide) (by decide)).trans cwD
    have cmF:=(k4 _ _ _ cmD (by decide) (by decide) (by decide)).trans cmD
    have g1:hF.load1 h.blks.length 1=some (.int .i64 w.plc):=Cells.load cwF 1
    have gP:hF.load1 pm 1=some (.int .i64 (P:Nat)):=(Cells.load cmF 1).trans hm1
    have la2:=LG.Wy.at hat
    rw[ev,List.length_cons] at la2
    have WY1:=LG.Wy.one _ hat
    rw[hw,els] at WY1
    obtain ⟨v',t1,t2,t3⟩:=WY1.tail
    rw[ev,List.length_cons] at t1
    obtain ⟨h2,st,L2,kk2⟩:=LG.word am hP (KpT.reflF _ hG) (fun _ _ _=>rfl) (fun _ _=>rfl) t2 (.inl t3)
    obtain ⟨va',vc',rfl⟩:=t2.shapeF
    simp -implicitDefEqProofs (maxSteps:=2000000) (disch:=omega) only[↓c4_59_eq,↓c4_62_eq,↓c4_63_eq,↓c4_64_eq,↓c4_65_eq,↓d4_3_0,↓d4_3_1,↓d4_3_2,↓d4_3_3,↓d4_3_4,↓d4_3_5,↓d4_3_6,↓d4_3_7,↓d4_3_8,↓d4_3_9,↓d4_3_10,↓d4_3_11,↓d4_3_12,↓d4_3_13,↓d4_3_14,↓d4_3_15,↓d4_3_16,↓d4_3_17,↓d4_3_18,↓d4_3_19,↓d4_3_20,↓d4_3_21,↓d4_3_22,↓d4_3_23,↓d4_3_24,↓d4_3_25,↓d4_3_26,↓d4_3_27,↓d4_3_28,↓d4_3_29,↓d4_3_30,↓d4_3_31,↓d4_3_32,↓d4_3_33,↓d4_3_34,Af,Ag,An,Ao,Aq,faMo1,faWv0,faWv1,faWv2,faWv3,faWv4,faWv5,ldI,ldU,ldByF,dP,d0,d2,d3,d4,i5,i6,q3,eP,e0,e2',e3,e5,i7,i8,q4,hrr,bneqF,bb_neF,gP,g1,q5,ia1,ldWd,la2,t1,stWd,st,↓zAc,↓zAb,↓Option.bind_some,↓zAa,sxB,Nat.reduceBEq]
    refine hk h2 _ V' tk' E' S' kn' gt' _ _ _ (L2.t fun a' d' ha' hd'=>?_) (fun i=>?_) ⟨K.e0,K.e1,K.e5,K.e6,K.e12,K.e13,K.e14⟩
    ·by_cases e:d'=P/\a'=a
     ·obtain ⟨rfl,rfl⟩:=e
      rw[updN_self,wj2]
      have q:=L.wds a' d' ha' hd'
      rw[hw,wj1] at q
      cases q with
      | cons _ r=>exact r.mono fun w j ok=>wok _ _ w j ok
     ·rw[updN_ne _ _ fun x=>e (by have:=at_neF hd' hP x;exact ⟨this.2,this.1⟩),wjo a' d' e]
      exact (L.wds a' d' ha' hd').mono fun w j ok=>wok _ _ w j ok
    ·by_cases e:i=a*n+P
     ·subst e
      rw[updN_self]
      have:=W1 (a*n+P)
      rw[hw,List.length_cons] at this
      omega
     ·rw[updN_ne _ _ e]
      exact W1 i
 ·simp -implicitDefEqProofs (disch:=omega) only[↓c4_20_eq,↓c4_24_eq,↓c4_25_eq,↓c4_31_eq,dcF,Aq,faMo2,ldI,lp2,↓zAc,↓zAb,↓Option.bind_some,↓zAa,sxB,Nat.reduceBEq]
  exact hk h _ V tk E S kn gt wv lv W (L.up (by omega)) W1 ⟨K.e0,K.e1,K.e5,K.e6,K.e12,K.e13,K.e14⟩
end
end Go.Am
namespace Go.Am
open Go.Proofs
set_option maxRecDepth 100000
set_option linter.all false
attribute [local congr] zAf zAq zAr zAs zAj zAg
theorem eqLnR (xo yo:Operand) (p:Nat):zBk Tryz.prog .eql 24 xo yo (.pointer (some ⟨p,0,none⟩)) (.pointer none)=some (.bool false):=by kernel_rfl
theorem All2.blkR {h:Heap} {L:Nat} {l:List Value} {k:List (List Nat)} (hl:All2 (AU L h) l k):∀x∈l,∀b,zAn x=some b->L<=b/\b<h.blks.length:=by
 induction hl with
 | nil=>intro x hx;cases hx
 | cons y _ ih=>
  intro x hx b hb
  rcases List.mem_cons.1 hx with rfl | hx
  ·obtain ⟨all,ha⟩:=Acc.blk y hb
   exact ⟨Acc.ge y hb,(List.getElem?_eq_some_iff.1 ha).1⟩
  ·exact ih x hx b hb
theorem EnZ.ofEn {Z:Nat->Prop} {h:Heap} {L p:Nat} {n me:Int} {m:List (List Nat)} {g:List Nat} (E:En L h p n me m g) (hZ:∀b,Z b->b<L):EnZ Z h p n me m g:=by
 obtain ⟨rv,gv,c,⟨vs,a⟩,u⟩:=E
 refine ⟨rv,gv,vs,c,⟨a.out.up (Nat.zero_le _),a.rows.mono fun _ _ y=>Acc.up y (Nat.zero_le _),a.apart⟩,Acc.up u (Nat.zero_le _),fun x hx b hb hz=>?_,fun b hb hz=>?_⟩
 ·have:=hZ b hz
  have:=(a.rows.blkR x hx b hb).1
  omega
 ·have:=hZ b hz
  have:=Acc.ge u hb
  omega
theorem EnZ.more {Z Z':Nat->Prop} {h:Heap} {p:Nat} {n me:Int} {m:List (List Nat)} {g:List Nat} (E:EnZ Z h p n me m g) (hZ:∀b,Z' b->Z b\/h.blks.length<=b):EnZ Z' h p n me m g:=by
 obtain ⟨rv,gv,vs,c,a,u,z1,z2⟩:=E
 refine ⟨rv,gv,vs,c,a,u,fun x hx b hb hz=>?_,fun b hb hz=>?_⟩
 ·rcases hZ b hz with hz | hz
  ·exact z1 x hx b hb hz
  ·have:=(a.rows.blkR x hx b hb).2
   omega
 ·rcases hZ b hz with hz | hz
  ·exact z2 b hb hz
  ·obtain ⟨all,ha⟩:=Acc.blk u hb
   have:=(List.getElem?_eq_some_iff.1 ha).1
   omega
theorem EnZ.kpTR {t:TypeId} {Z:Nat->Prop} {h h':Heap} {p:Nat} {n me:Int} {m:List (List Nat)} {g:List Nat} (E:EnZ Z h p n me m g) (k:KpT t h h') (h1:123≠t) (h2:45≠t) (h3:30≠t):EnZ Z h' p n me m g:=
 E.kp fun b all ty hb ht=>k.2 b all ty hb (by rcases ht with ⟨rfl,_⟩ | rfl | ⟨rfl,_⟩<;>assumption)
structure FNw (h:Heap) (n base:Nat) (ps:List (Nat × Nat)) (fs:List Nat):Prop where
 F:∀i (hi:i<fs.length),EnZ (Zs ps) h fs[i] n (i:Nat) (zerosM n) (List.replicate n 0)
 lo:∀i (hi:i<fs.length),base<=fs[i]
 ne:fs.Pairwise (· ≠ ·)
theorem FNw.same {h h':Heap} {n base:Nat} {ps:List (Nat × Nat)} {fs:List Nat} (G:FNw h n base ps fs) (e:Same h h'):FNw h' n base ps fs:=⟨fun i hi=>(G.F i hi).same e,G.lo,G.ne⟩
theorem FNw.kpT {t:TypeId} {h h':Heap} {n base:Nat} {ps:List (Nat × Nat)} {fs:List Nat} (G:FNw h n base ps fs) (k:KpT t h h') (h1:123≠t) (h2:45≠t) (h3:30≠t):FNw h' n base ps fs:=⟨fun i hi=>(G.F i hi).kpTR k h1 h2 h3,G.lo,G.ne⟩
theorem FNw.more {h:Heap} {n base:Nat} {ps ps':List (Nat × Nat)} {fs:List Nat} (G:FNw h n base ps fs) (hZ:∀b,Zs ps' b->Zs ps b\/h.blks.length<=b):FNw h n base ps' fs:=⟨fun i hi=>(G.F i hi).more hZ,G.lo,G.ne⟩
theorem FNw.add {h h':Heap} {n base q:Nat} {ps:List (Nat × Nat)} {fs:List Nat} (G:FNw h n base ps fs) (e:Same h h') (hb:base<=h.blks.length) (hq:h.blks.length<=q) (x:EnZ (Zs ps) h' q n (fs.length:Nat) (zerosM n) (List.replicate n 0)):FNw h' n base ps (fs++[q]):=by
 refine ⟨fun j hj=>?_,fun j hj=>?_,?_⟩
 ·rcases Nat.lt_or_ge j fs.length with hl | hl
  ·simp only[List.getElem_append_left hl]
   exact (G.F j hl).same e
  ·have:j=fs.length:=by simp at hj;omega
   subst this
   simp only[List.getElem_append_right (Nat.le_refl _),Nat.sub_self,List.getElem_cons_zero]
   exact x
 ·rcases Nat.lt_or_ge j fs.length with hl | hl
  ·simp only[List.getElem_append_left hl]
   exact G.lo j hl
  ·have:j=fs.length:=by simp at hj;omega
   subst this
   simp only[List.getElem_append_right (Nat.le_refl _),Nat.sub_self,List.getElem_cons_zero]
   omega
 ·refine List.pairwise_append.2 ⟨G.ne,List.pairwise_singleton _ _,fun a ha b hb'=>?_⟩
  rw[List.mem_singleton] at hb'
  subst hb'
  obtain ⟨i,hi,rfl⟩:=List.getElem_of_mem ha
  obtain ⟨_,_,_,c,_⟩:=G.F i hi
  have:=c.lt
  omega
theorem Zs.snocR {ps:List (Nat × Nat)} {a b c:Nat} (z:Zs (ps++[(a,b)]) c):Zs ps c\/c=b:=by
 obtain ⟨i,hi,rfl⟩:=z
 rcases Nat.lt_or_ge i ps.length with hl | hl
 ·simp only[List.getElem_append_left hl]
  exact .inl ⟨i,hl,rfl⟩
 ·have:i=ps.length:=by simp at hi;omega
  subst this
  simp only[List.getElem_append_right (Nat.le_refl _),Nat.sub_self,List.getElem_cons_zero]
  exact .inr trivial
theorem LGrp.zlt {h:Heap} {n base:Nat} {ps:List (Nat × Nat)} {E:Nat->List E3} {S:Nat->List Nat} {num:Nat->Nat} (G:LGrp h n base ps E S num) {b:Nat} (z:Zs ps b):b<h.blks.length:=by
 obtain ⟨i,hi,rfl⟩:=z
 exact (G.eng i hi).seen.lt
theorem spec_ENewR (n me:Nat) (h2:n<=16) (h4:me<n) (h:Heap):∃(q:Nat) (h':Heap),evC Tryz.prog 18 #[.int .i64 n,.int .i64 me] h=some (.tuple #[.pointer (some ⟨q,0,none⟩),.int .i64 0],h')/\HExt h h'/\h.blks.length<=q/\En h.blks.length h' q n (me:Nat) (zerosM n) (List.replicate n 0):=by
 obtain ⟨q,h',e,x,f⟩:=spec_ENew (n:Nat) (me:Nat) h
 have c:1<=(n:Int)/\(n:Int)<=16/\0<=(me:Int)/\(me:Int)<n:=by omega
 rw[if_pos c,if_pos c] at e
 obtain ⟨f1,f2⟩:=f c
 exact ⟨q,h',e,x,f1,f2⟩
theorem ff_new {β:Type} {Q:Option β->Prop} {kk:Ex->St->Option β} {n:Nat} {h00:Heap} {v1:Value} (hn:n<=16) (hk:∀(h:Heap) (y:Nat->Value) (ps:List (Nat × Nat)) (fs:List Nat) (a:Option Addr) (c:Nat) (a2:Option Addr) (c2:Nat),ps.length=n->fs.length=n->LGrp h n h00.blks.length ps (fun _=>[]) (fun _=>List.replicate n 0) (fun _=>0)->FNw h n h00.blks.length ps fs->Acc h00.blks.length h 24 1 (.slice a n c) n (ps.map ptrW)->Acc h00.blks.length h 57 1 (.slice a2 n c2) n (fs.map ptrF)->Same h00 h->
   y 0=.int .i64 n->y 1=v1->y 5=.slice a n c->y 6=.slice a2 n c2->Q (kk .normal ⟨ar 366 y,h⟩)) :
  ∀(m i:Nat),n=i+m->∀(h:Heap) (x:Nat->Value) (ps:List (Nat × Nat)) (fs:List Nat) (a:Option Addr) (c:Nat) (a2:Option Addr) (c2:Nat),ps.length=i->fs.length=i->Same h00 h->LGrp h n h00.blks.length ps (fun _=>[]) (fun _=>List.replicate n 0) (fun _=>0)->FNw h n h00.blks.length ps fs->Acc h00.blks.length h 24 1 (.slice a ps.length c) ps.length (ps.map ptrW)->Acc h00.blks.length h 57 1 (.slice a2 fs.length c2) fs.length (fs.map ptrF)->
  x 0=.int .i64 n->x 1=v1->x 5=.slice a ps.length c->x 6=.slice a2 fs.length c2->x 7=.int .i64 i->Q (lK c4_1 366 x h (zAu 0 kk)):=by
 intro m
 induction m with
 | zero=>
  intro i hi h x ps fs a c a2 c2 hp hf hb G FF A A2 Aa Ab Af Ag Ah
  rw[lK_eq]
  obtain rfl:i=n:=by omega
  rw[hp] at A Af
  rw[hf] at A2 Ag
  simp -implicitDefEqProofs (disch:=omega) only[↓c4_1_eq,dcF,Aa,Ah,↓zAc,↓zAb,↓Option.bind_some,↓zAa,sxB,Nat.reduceBEq]
  exact hk h _ ps fs a c a2 c2 hp hf G FF A A2 hb Aa Ab Af Ag
 | succ m ih=>
  intro i hi h x ps fs a c a2 c2 hp hf hb G FF A A2 Aa Ab Af Ag Ah
  rw[lK_eq]
  obtain ⟨h2,e2,y2,l2⟩:=spec_leanNew n (i:Nat) (by omega) hn (by omega) (by omega) h
  have G2:=G.add (E:=fun _=>[]) (S:=fun _=>List.replicate n 0) (num:=fun _=>0) y2.same hb.1 (by rw[hp];exact l2)
  have hb2:h00.blks.length<=h2.blks.length:=Nat.le_trans hb.1 y2.len
  have hlt2:h.blks.length<h2.blks.length:=l2.seen.lt
  have FF1:FNw h n h00.blks.length (ps++[(h.blks.length+1,h.blks.length)]) fs:=FF.more fun b z=>by
   rcases z.snocR with z | rfl
   ·exact .inl z
   ·exact .inr (Nat.le_refl _)
  obtain ⟨q,h3,e3,y3,lq,E3⟩:=spec_ENewR n i hn (by omega) h2
  have hb3:h00.blks.length<=h3.blks.length:=Nat.le_trans hb2 y3.len
  have G3:=G2.same y3.same
  have FF3:=(FF1.same y2.same).add y3.same hb2 lq (EnZ.ofEn (by rw[hf];exact E3) fun b z=>G2.zlt z)
  obtain ⟨a4,c4,h4,q4,A4,k4,t4⟩:=app_ptr hb3 ((A.same y2.same).same y3.same) (h.blks.length+1,h.blks.length) (by omega)
  have hb4:h00.blks.length<=h4.blks.length:=Nat.le_trans hb3 k4.len
  obtain ⟨a5,c5,h5,q5,A5,k5,t5⟩:=app_ptrF hb4 (((A2.same y2.same).same y3.same).kpT t4 (by decide)) q (by omega)
  have wi:IntKind.wrap .i64 ((i:Int)+1)=((i+1:Nat):Int):=by rw[wrap_i64]<;>omega
  simp -implicitDefEqProofs (disch:=omega) only[↓c4_1_eq,dcT,dcF,Aa,Af,Ag,Ah,e2,e3,eqLnR,eqE,mkP1,q4,mkP1F,q5,wi,↓zAc,↓zAb,↓Option.bind_some,↓zAa,sxB,Nat.reduceBEq]
  refine ih (i+1) (by omega) h5 _ (ps++[(h.blks.length+1,h.blks.length)]) (fs++[q]) a4 c4 a5 c5 (by simp;omega) (by simp;omega) ⟨Nat.le_trans hb4 k5.len,fun q hq=>?_⟩ ((G3.kpT t4 (by decide) (by decide) (by decide)).kpT t5 (by decide) (by decide) (by decide)) ((FF3.kpT t4 (by decide) (by decide) (by decide)).kpT t5 (by decide) (by decide) (by decide)) (A4.kpT t5 (by decide)) A5 Aa Ab rfl rfl rfl
  exact (k5.old q hq).trans ((k4.old q hq).trans ((hb.trans (y2.same.trans y3.same)).2 q hq))
end Go.Am
namespace Go.Am
open Go.Proofs
set_option maxRecDepth 100000
set_option linter.all false
attribute [local congr] zAf zAq zAr zAs zAj zAg
theorem etWsR:ElemT Tryz.prog 62 70 1 24 (.slice none 0 0):=⟨by kernel_rfl,by kernel_rfl,by kernel_rfl,by kernel_rfl,by omega,rfl,by simp[zBg,ground0]⟩
theorem mkWsR (m:Nat) (hm:m<=64) (h:Heap):zBd Tryz.prog 62 (.int .i64 m) (.int .i64 m) h=some (.slice (some ⟨h.blks.length,0,none⟩) m m,h.new (.cells ((List.range m).map fun _=>.slice none 0 0)) 70):=by
 unfold zBd
 simp only[etWsR.under,zBq,etWsR.size,etWsR.bytes,etWsR.zero]
 rw[if_pos ⟨Nat.le_refl _,by omega,by omega,by omega,etWsR.zs,etWsR.zg⟩]
 rw[zerosQ _ rfl,show ((List.range m).map fun _=>(Value.slice none 0 0))=List.replicate m (.slice none 0 0) by simp[List.map_const']]
def X0:Tr:=⟨fun _=>0,fun _ _=>0,fun _ _ _=>0⟩
theorem GI.start (n:Nat):GI n X0 0 (fun _ _=>0) (fun _ _=>0) (fun _ _=>0) (fun _=>[]):=by
 refine ⟨fun _ _=>Nat.le_refl _,fun _ _=>rfl,fun _ _=>Nat.le_refl _,fun _ _=>rfl,fun f j a h=>absurd h (Nat.not_lt_zero _),fun f j h=>absurd h (Nat.not_lt_zero _),fun f j h=>absurd h (Nat.not_lt_zero _),fun f j h=>absurd h (Nat.not_lt_zero _),fun f j f' j' h=>absurd h (Nat.not_lt_zero _),fun d f j f' j' h=>absurd h (Nat.not_lt_zero _),fun d f j _ h=>absurd h (Nat.not_lt_zero _),fun i hi=>⟨⟨by decide,fun e he=>(by cases he),fun f h=>absurd h (Nat.not_lt_zero _)⟩,fun f j d h=>absurd h (Nat.not_lt_zero _)⟩⟩
theorem TL.start (n:Nat):TL n X0 0 (fun _ _=>0) (fun _ _=>0) (fun _ _=>0) [] (fun _=>[]) (fun _=>[]):=by
 refine ⟨rfl,fun f j h=>absurd h (Nat.not_lt_zero _),fun m h=>absurd h (Nat.not_lt_zero _),fun f j h=>absurd h (Nat.not_lt_zero _),fun i f j _ h=>absurd h (Nat.not_lt_zero _),fun d f j _ h=>absurd h (Nat.not_lt_zero _),fun _=>rfl,fun m h=>absurd h (Nat.not_lt_zero _),fun _=>Nat.le_refl _⟩
theorem PaV.upR {n0 n1:Nat} {h:Heap} {p kb gb n:Nat} {ms:List SM4} {kn:Nat->List Bool} {gt:Nat->List Nat} (A:PaV n0 h p kb gb n ms kn gt) (hn:n1<=n0):PaV n1 h p kb gb n ms kn gt:=by
 obtain ⟨⟨lv,c1,avs,c2,c3⟩,k,g,lo⟩:=A
 exact ⟨⟨lv,c1,avs,c2.up hn,c3⟩,k,g,by omega⟩
theorem FSt.start {h0 h hp:Heap} {n:Nat} {ps:List (Nat × Nat)} {fs:List Nat} {pv fv:Value} (sm:Same h0 h) (lps:ps.length=n) (lfs:fs.length=n) (G:LGrp h n h0.blks.length ps (fun _=>[]) (fun _=>List.replicate n 0) (fun _=>0)) (FF:FNw h n h0.blks.length ps fs) (pr:Acc h0.blks.length h 24 1 pv n (ps.map ptrW)) (fr:Acc h0.blks.length h 57 1 fv n (fs.map ptrF))
  (xp:HExt h hp) (P:PaV h.blks.length hp (h.blks.length+2) h.blks.length (h.blks.length+1) n [] (fun _=>[]) (fun _=>[])) :
  FSt h0 (hp.new (.cells ((List.range (n*n)).map fun _=>.slice none 0 0)) 70) n hp.blks.length (h.blks.length+2) h.blks.length (h.blks.length+1) 0 ps fs pv fv X0 0 (fun _ _=>0) (fun _ _=>0) (fun _ _=>0) (fun _=>[]) (fun _=>List.replicate n 0) [] (fun _=>[]) (fun _=>[]) (fun _=>.slice none 0 0) (fun _=>[]) (fun _=>[]):=by
 have s1:Same hp (hp.new (.cells ((List.range (n*n)).map fun _=>.slice none 0 0)) 70):=Same.new _ _ _
 have s2:=xp.same.trans s1
 have cw:Cells (hp.new (.cells ((List.range (n*n)).map fun _=>.slice none 0 0)) 70) hp.blks.length 70 ((List.range (n*n)).map fun _=>.slice none 0 0):=Cells.new _ _ _
 have hl:=sm.1
 have hx:=xp.len
 have em:∀i,mxK n X0 ((fun _ _=>0:Nat->Nat->Nat) i)=zerosM n:=fun i=>by
  rw[mx_zero];rfl
 have ev:∀i,vxT n X0 (fun _ _=>0) i=List.replicate n 0:=fun i=>by
  rw[vx_zero];rfl
 refine ⟨sm.trans s2,G.same s2,lps,fun i hi=>?_,lfs,FF.lo,FF.ne,pr.same s2,fr.same s2,⟨cw,fun i _=>WayV.nil _ _,fun i j _ _ _ b hb=>(by cases hb),by omega⟩,(P.upR hl).same s1,GI.start n,TL.start n,fun i hi=>⟨List.length_replicate ..,fun f hf=>?_⟩,fun i hi=>⟨by decide,(by simp),(by simp)⟩,fun a d ha hd=>?_,Nat.le_refl _,fun _=>Nat.le_refl _,fun _=>Nat.le_refl _,fun d x hx=>(by cases hx)⟩
 ·rw[em i,ev i]
  exact (FF.F i hi).same s2
 ·rw[List.getD_eq_getElem?_getD,List.getElem?_replicate]
  split<;>rfl
 ·have:wayJ X0 (fun _ _=>0) a d=[]:=List.eq_nil_iff_forall_not_mem.2 fun j hj=>absurd (wayJ_mem.1 hj).1 (Nat.not_lt_zero _)
  rw[this]
  exact .nil
end Go.Am
namespace Go.Am
open Go.Proofs
set_option maxRecDepth 100000
set_option linter.all false
attribute [local congr] zAf zAq zAr zAs zAj zAg
structure MV where
 op:Int
 p:Int
 k:Int
 to:Nat
def mvC (p:MV):List Value:=[.int .i64 p.op,.int .i64 p.p,.int .i64 p.k,.int .u64 p.to]
def mvO (p:MV):Value:=.agg (mvC p).toArray
def SMvF (h:Heap) (v:Value) (l:List MV):Prop:=Row h 4 v l.length (l.map mvC).flatten
theorem SMvF.same {h h':Heap} {v:Value} {l:List MV} (s:SMvF h v l) (e:Same h h'):SMvF h' v l:=Row.keep s fun b hb _=>e.2 b hb
theorem SMvF.len {h:Heap} {v:Value} {l:List MV} (s:SMvF h v l):lenV Tryz.prog 54 v h=some (.int .i64 l.length):=by
 have hu:Tryz.prog.underlying 54=some (.slice 64):=by kernel_rfl
 exact Row.len_eq s hu
theorem flat4M:∀(l:List MV) (i:Nat) (hi:i<l.length),((l.map mvC).flatten.drop (i*4)).take 4=mvC l[i]
 | p::l,0,_=>rfl
 | p::l,i+1,hi=>by
  rw[show (i+1)*4=i*4+1+1+1+1 by omega]
  simp only[List.map_cons,List.flatten_cons,mvC,List.cons_append,List.nil_append,List.drop_succ_cons]
  exact flat4M l i (by simpa using hi)
theorem ldMv (p o:Nat) (h:Heap):zAw Tryz.prog 64 (.pointer (some ⟨p,o,none⟩)) h=(h.loadN p o 4).map fun cs=>.agg cs.toArray:=by kernel_rfl
theorem stMv (p:Nat) (e:MV) (h:Heap):zBc Tryz.prog 64 (.pointer (some ⟨p,0,none⟩)) (mvO e) h=h.storeN p 0 (mvC e):=by kernel_rfl
theorem alMv (h:Heap):zBp Tryz.prog 64 h=some (.pointer (some ⟨h.blks.length,0,none⟩),h.new (.cells [.int .i64 0,.int .i64 0,.int .i64 0,.int .u64 0]) 64):=by kernel_rfl
theorem SMvF.at {v:Value} {h:Heap} {l:List MV} (s:SMvF h v l) {i:Nat} (hi:i<l.length):∃b o,zAh Tryz.prog 54 v (.int .i64 i)=some (.pointer (some ⟨b,o,none⟩))/\∀h',Same h h'->zAw Tryz.prog 64 (.pointer (some ⟨b,o,none⟩)) h'=some (mvO l[i]):=by
 have hu:Tryz.prog.underlying 54=some (.slice 64):=by kernel_rfl
 have hs:sizeT Tryz.prog 64=some 4:=by kernel_rfl
 unfold SMvF at s
 generalize hn:l.length=n at s
 generalize hcs:(l.map mvC).flatten=cs at s
 cases s with
 | nil=>omega
 | mk hld=>
  rename_i b o c
  rw[<-hn,<-hcs] at hld
  refine ⟨b,o+i*4,?_,fun h' e=>?_⟩
  ·unfold zAh
   simp only[hu,zBq,hs]
   rw[if_pos (by omega)]
  ·have h1:h'.loadN b (o+i*4) 4=some (mvC l[i]):=by
    rw[loadN_of (e.2 b (loadN_lt hld)),loadN_sub hld (by omega),flat4M l i hi]
   rw[ldMv,h1];rfl
theorem var_mv (h:Heap) (e:MV):∃hA h',zBp Tryz.prog 64 h=some (.pointer (some ⟨h.blks.length,0,none⟩),hA)/\Same h hA/\zBc Tryz.prog 64 (.pointer (some ⟨h.blks.length,0,none⟩)) (mvO e) hA=some h' ∧
  Cells h' h.blks.length 64 (mvC e)/\Same h h':=by
 have c:=Cells.new h 64 [.int .i64 0,.int .i64 0,.int .i64 0,.int .u64 0]
 have c':Cells ((h.new (.cells [.int .i64 0,.int .i64 0,.int .i64 0,.int .u64 0]) 64).put h.blks.length (.cells (mvC e))) h.blks.length 64 (mvC e):=c.put _
 refine ⟨_,_,alMv h,Same.new h _ _,?_,c',(Same.new h _ _).put (Nat.le_refl _) _⟩
 rw[stMv,zAp c (by simp[mvC])];rfl
theorem reads_mv {h:Heap} {f:Nat} {cs:List Value} {d:DT} (x:Reads Tryz.prog h f 64 cs d):∃p,cs=mvC p/\p.to<2^64:=by
 obtain ⟨g,l,rfl,hlen,ha⟩:=reads_struct Tryz.underlying64 x
 rw[show Tryz.prog.cellsOf 64=4 by kernel_rfl] at hlen
 obtain ⟨c0,c1,c2,c3,rfl⟩:∃c0 c1 c2 c3,cs=[c0,c1,c2,c3]:=by
  match cs,hlen with
  | [a,b,c,d],_=>exact ⟨a,b,c,d,rfl⟩
 have h0:Tryz.prog.cellsOf 3=1:=by kernel_rfl
 have h1:Tryz.prog.cellsOf 30=1:=by kernel_rfl
 cases ha with
 | cons a0 ha=>cases ha with
  | cons a1 ha=>cases ha with
   | cons a2 ha=>cases ha with
    | cons a3 ha=>
      cases ha
      simp only[h0,h1] at a0 a1 a2 a3
      obtain ⟨z,_,z2,z3⟩:=reads_int (k:=.i64) (by kernel_rfl) a0
      obtain ⟨u,_,u2,u3⟩:=reads_int (k:=.i64) (by kernel_rfl) a1
      obtain ⟨w,_,w2,w3⟩:=reads_int (k:=.i64) (by kernel_rfl) a2
      obtain ⟨y,_,y2,y3⟩:=reads_int (k:=.u64) (by kernel_rfl) a3
      simp only[List.drop_zero,List.drop_succ_cons,List.take_succ_cons,List.take_zero,List.cons.injEq,and_true] at z2 u2 w2 y2
      subst z2 u2 w2 y2
      have hy:=wf_nat rfl y3
      simp only[IntKind.bits] at hy
      refine ⟨⟨z,u,w,y.toNat⟩,?_,by show y.toNat<2^64;omega⟩
      unfold mvC
      simp only
      rw[Int.toNat_of_nonneg hy.1]
theorem reads_mvs {h:Heap} {f:Nat}:∀ {css:List (List Value)} {l:List DT},All2 (fun c d=>c.length=Tryz.prog.cellsOf 64/\Reads Tryz.prog h f 64 c d) css l->∃(ps:List MV),css.flatten=(ps.map mvC).flatten/\ps.length=l.length/\∀p∈ps,p.to<2^64
 | _,_,.nil=>⟨[],rfl,rfl,by simp⟩
 | _,_,.cons x q=>by
  obtain ⟨ps,e,hl,b⟩:=reads_mvs q
  obtain ⟨p,rfl,h1⟩:=reads_mv x.2
  refine ⟨p::ps,by simp[e],by simp[hl],fun y hy=>?_⟩
  rcases List.mem_cons.1 hy with rfl | hy
  ·exact h1
  ·exact b y hy
theorem Rd.mvs {h:Heap} {v:Value} {d:DT} (r:Rd Tryz.prog h 54 v d):∃ps:List MV,SMvF h v ps/\∀p∈ps,p.to<2^64:=by
 obtain ⟨f,l,css,rfl,h1,h2,h3⟩:=r.slice (e:=64) (by kernel_rfl)
 obtain ⟨ps,e,hl,b⟩:=reads_mvs h2
 rw[show Tryz.prog.cellsOf 64=4 by kernel_rfl,e,<-hl] at h1
 exact ⟨ps,h1.row,b⟩
end Go.Am
namespace Go.Am
open Go.Proofs
set_option maxRecDepth 100000
set_option linter.all false
attribute [local congr] zAf zAq zAr zAs zAj zAg
theorem faMv0R (p:Nat):zAe Tryz.prog 64 (.pointer (some ⟨p,0,none⟩)) 0=some (.pointer (some ⟨p,0,none⟩)):=by kernel_rfl
theorem faMv1R (p:Nat):zAe Tryz.prog 64 (.pointer (some ⟨p,0,none⟩)) 1=some (.pointer (some ⟨p,1,none⟩)):=by kernel_rfl
theorem ff_loop {h0 h1:Heap} {n bw p kb gb:Nat} {v pv fv:Value} {l:List MV} {ps:List (Nat × Nat)} {fs:List Nat} (hn1:1<=n) (hn:n<=6) (hl:l.length<=40) (hw:∀q∈l,q.to<2^64) (sl:SMvF h1 v l) :
  ∀(mm i:Nat) (h:Heap) (X:Tr) (N:Nat) (rk V tk:Nat->Nat->Nat) (E:Nat->List E3) (S:Nat->List Nat) (ms:List SM4) (kn:Nat->List Bool) (gt:Nat->List Nat) (wv:Nat->Value) (lv:Nat->List (Value × Value)) (W:Nat->List Wd),l.length=i+mm->FSt h1 h n bw p kb gb i ps fs pv fv X N rk V tk E S ms kn gt wv lv W->(∀j,(W j).length<=64*i)->
  ∀x:Nat->Value,x 0=.int .i64 n->x 1=v->x 5=pv->x 6=fv->x 12=.pointer (some ⟨p,0,none⟩)->x 13=.slice (some ⟨bw,0,none⟩) (n*n) (n*n)->x 14=.int .i64 i->
  ∃h',lK c4_3 366 x h (zAu 2 (sK c4_4 (zBb Tryz.f4 Tryz.prog h0)))=some (.bool true,h'):=by
 intro mm
 induction mm with
 | zero=>
  intro i h X N rk V tk E S ms kn gt wv lv W hi L hW x Aa Ab Af Ag An Ao Ap
  rw[lK_eq]
  obtain rfl:i=l.length:=by omega
  have ln:=(sl.same L.sm).len
  simp -implicitDefEqProofs (disch:=omega) only[↓c4_3_eq,↓c4_4_eq,↓c4_5_eq,dcT,dcF,Ab,Ap,ln,↓ret4,↓zAc,↓zAb,↓Option.bind_some,↓zAa,sxB,Nat.reduceBEq]
  exact ⟨_,rfl⟩
 | succ mm ih=>
  intro i h X N rk V tk E S ms kn gt wv lv W hi L hW x Aa Ab Af Ag An Ao Ap
  rw[lK_eq]
  have hlt:i<l.length:=by omega
  have ln:=(sl.same L.sm).len
  obtain ⟨b,o,hat,hld⟩:=sl.at hlt
  have hp:=hw l[i] (List.getElem_mem hlt)
  have hld1:=hld h L.sm
  generalize l[i]=q at hld1 hp
  obtain ⟨p0,pP,pk,pto⟩:=q
  obtain ⟨hA,hB,e1,sA,e2,cm,sB⟩:=var_mv h ⟨p0,pP,pk,pto⟩
  have LB:=L.same sB
  have l0:hB.load1 h.blks.length 0=some (.int .i64 p0):=cm.load 0
  have l1:hB.load1 h.blks.length 1=some (.int .i64 pP):=cm.load 1
  have hwr:IntKind.wrap .i64 ((i:Int)+1)=((i+1:Nat):Int):=by rw[wrap_i64]<;>omega
  by_cases g1:pP<0
  ·simp -implicitDefEqProofs (disch:=omega) only[↓c4_3_eq,↓c4_5_eq,↓c4_6_eq,↓c4_7_eq,↓c4_9_eq,↓c4_10_eq,↓c4_11_eq,↓c4_12_eq,dcT,dcF,Aa,Ab,Ap,ln,hat,hld1,e1,e2,faMv1R,ldI,l1,↓ret4,↓zAc,↓zAb,↓Option.bind_some,↓zAa,sxB,Nat.reduceBEq]
   exact ⟨_,rfl⟩
  by_cases g2:pP>=(n:Int)
  ·simp -implicitDefEqProofs (disch:=omega) only[↓c4_3_eq,↓c4_5_eq,↓c4_6_eq,↓c4_7_eq,↓c4_9_eq,↓c4_10_eq,↓c4_11_eq,↓c4_12_eq,dcT,dcF,Aa,Ab,Ap,ln,hat,hld1,e1,e2,faMv1R,ldI,l1,↓ret4,↓zAc,↓zAb,↓Option.bind_some,↓zAa,sxB,Nat.reduceBEq]
   exact ⟨_,rfl⟩
  obtain ⟨P,rfl⟩:∃k:Nat,pP=k:=⟨pP.toNat,by omega⟩
  have hP:P<n:=by omega
  have nx8:∀(h3:Heap) (y:Nat->Value) (X:Tr) (N:Nat) (rk V tk:Nat->Nat->Nat) (E:Nat->List E3) (S:Nat->List Nat) (ms:List SM4) (kn:Nat->List Bool) (gt:Nat->List Nat) (wv:Nat->Value) (lv:Nat->List (Value × Value)) (W:Nat->List Wd),FSt h1 h3 n bw p kb gb (i+1) ps fs pv fv X N rk V tk E S ms kn gt wv lv W->(∀j,(W j).length<=64*(i+1))->KF x y->
    ∃h',cK c4_8 366 y h3 (againK Tryz.prog (evC Tryz.prog) c4_3 (zAu 2 (sK c4_4 (zBb Tryz.f4 Tryz.prog h0))))=some (.bool true,h'):=by
   intro h3 y X N rk V tk E S ms kn gt wv lv W L3 hW3 K
   have y14:=K.e14.trans Ap
   simp -implicitDefEqProofs (disch:=omega) only[↓c4_8_eq,y14,hwr,↓zAc,↓zAb,↓Option.bind_some,↓zAa,sxB,Nat.reduceBEq]
   exact ih (i+1) h3 X N rk V tk E S ms kn gt wv lv W (by omega) L3 hW3 _ (K.e0.trans Aa) (K.e1.trans Ab) (K.e5.trans Af) (K.e6.trans Ag) (K.e12.trans An) (K.e13.trans Ao) rfl
  have nx:∀(h3:Heap) (y:Nat->Value) (X:Tr) (N:Nat) (rk V tk:Nat->Nat->Nat) (E:Nat->List E3) (S:Nat->List Nat) (ms:List SM4) (kn:Nat->List Bool) (gt:Nat->List Nat) (wv:Nat->Value) (lv:Nat->List (Value × Value)) (W:Nat->List Wd),FSt h1 h3 n bw p kb gb (i+1) ps fs pv fv X N rk V tk E S ms kn gt wv lv W->(∀j,(W j).length<=64*(i+1))->KF x y->
    ∃h',cK c4_15 366 y h3 (zAu 3 (sK c4_8 (againK Tryz.prog (evC Tryz.prog) c4_3 (zAu 2 (sK c4_4 (zBb Tryz.f4 Tryz.prog h0))))))=some (.bool true,h'):=by
   intro h3 y X N rk V tk E S ms kn gt wv lv W L3 hW3 K
   simp -implicitDefEqProofs (disch:=omega) only[↓c4_15_eq,↓zAc,↓zAb,↓Option.bind_some,↓zAa,sxB,Nat.reduceBEq]
   refine ff_check (Q:=fun r=>∃h':Heap,r=some (Value.bool true,h')) (b:=x) hn1 hn (by omega) Aa Af Ag An Ao (fun h4 z L4 K4=>?_) (n*n) 0 (by omega) _ h3 L3 ⟨K.e0,K.e1,K.e5,K.e6,K.e12,K.e13,K.e14⟩ rfl
   simp -implicitDefEqProofs (disch:=omega) only[↓zAc,↓zAb,↓Option.bind_some,↓zAa,sxB,Nat.reduceBEq]
   exact nx8 h4 z X N rk V tk E S ms kn gt wv lv W L4 hW3 K4
  by_cases g3:p0=0
  ·simp -implicitDefEqProofs (disch:=omega) only[↓c4_3_eq,↓c4_5_eq,↓c4_6_eq,↓c4_7_eq,↓c4_9_eq,↓c4_10_eq,↓c4_11_eq,↓c4_12_eq,↓c4_13_eq,↓c4_14_eq,↓c4_16_eq,↓c4_17_eq,dcT,dcF,Aa,Ab,Ap,ln,hat,hld1,e1,e2,faMv0R,faMv1R,ldI,l0,l1,↓zAc,↓zAb,↓Option.bind_some,↓zAa,sxB,Nat.reduceBEq]
   refine ff_send (Q:=fun r=>∃h':Heap,r=some (Value.bool true,h')) (b:=x) LB hn1 hn (by omega) hP cm rfl rfl hp hW Aa Af Ag An Ao (fun y K=>?_) (fun h' y X' N' rk' V' E' S' ms' kn' wv' lv' W' L' c' w' K _=>?_) _ ⟨rfl,rfl,rfl,rfl,rfl,rfl,rfl⟩ rfl
   ·simp -implicitDefEqProofs (disch:=omega) only[↓zAc,↓zAb,↓Option.bind_some,↓zAa,sxB,Nat.reduceBEq]
    exact nx8 hB y X N rk V tk E S ms kn gt wv lv W (LB.up (by omega)) (fun j=>by have:=hW j;omega) K
   ·simp -implicitDefEqProofs (disch:=omega) only[↓zAc,↓zAb,↓Option.bind_some,↓zAa,sxB,Nat.reduceBEq]
    exact nx h' y X' N' rk' V' tk E' S' ms' kn' gt wv' lv' W' L' w' K
  ·simp -implicitDefEqProofs (disch:=omega) only[↓c4_3_eq,↓c4_5_eq,↓c4_6_eq,↓c4_7_eq,↓c4_9_eq,↓c4_10_eq,↓c4_11_eq,↓c4_12_eq,↓c4_13_eq,↓c4_14_eq,↓c4_16_eq,↓c4_17_eq,dcT,dcF,Aa,Ab,Ap,ln,hat,hld1,e1,e2,faMv0R,faMv1R,ldI,l0,l1,↓zAc,↓zAb,↓Option.bind_some,↓zAa,sxB,Nat.reduceBEq]
   refine ff_take (Q:=fun r=>∃h':Heap,r=some (Value.bool true,h')) (b:=x) LB hn1 hn (by omega) hP cm rfl rfl hW Aa Af Ag An Ao (fun h' y V' tk' E' S' kn' gt' wv' lv' W' L' w' K=>?_) _ ⟨rfl,rfl,rfl,rfl,rfl,rfl,rfl⟩ rfl
   simp -implicitDefEqProofs (disch:=omega) only[↓zAc,↓zAb,↓Option.bind_some,↓zAa,sxB,Nat.reduceBEq]
   exact nx h' y X N rk V' tk' E' S' ms kn' gt' wv' lv' W' L' w' K
theorem mlaw_LeanFull (n:Int) (v:Value) (l:List MV) (hw:∀p∈l,p.to<2^64) (h:Heap) (sl:SMvF h v l):∃h',evC Tryz.prog 4 #[.int .i64 n,v] h=some (.bool true,h'):=by
 rw[call4]
 obtain ⟨h1,e1,Ab⟩:=spec_awake19 (nm h)
 have sl1:SMvF h1 v l:=(sl.same (sameNm h)).same Ab.same
 have ln:=sl1.len
 by_cases g0:n<1
 ·simp -implicitDefEqProofs (disch:=omega) only[↓c4_0_eq,dcT,dcF,e1,↓ret4,↓zAc,↓zAb,↓Option.bind_some,↓zAa,sxB,Nat.reduceBEq]
  exact ⟨_,rfl⟩
 by_cases g1:n>6
 ·simp -implicitDefEqProofs (disch:=omega) only[↓c4_0_eq,dcT,dcF,e1,↓ret4,↓zAc,↓zAb,↓Option.bind_some,↓zAa,sxB,Nat.reduceBEq]
  exact ⟨_,rfl⟩
 by_cases g2:l.length>40
 ·simp -implicitDefEqProofs (disch:=omega) only[↓c4_0_eq,dcT,dcF,e1,ln,↓ret4,↓zAc,↓zAb,↓Option.bind_some,↓zAa,sxB,Nat.reduceBEq]
  exact ⟨_,rfl⟩
 obtain ⟨n,rfl⟩:∃k:Nat,n=k:=⟨n.toNat,by omega⟩
 have hn:n<=6:=by omega
 have hn1:1<=n:=by omega
 have hNN:n*n<=36:=Nat.le_trans (Nat.mul_le_mul hn hn) (by omega)
 simp -implicitDefEqProofs (disch:=omega) only[↓c4_0_eq,dcT,dcF,e1,ln,↓zAc,↓zAb,↓Option.bind_some,↓zAa,sxB,Nat.reduceBEq]
 refine ff_new (Q:=fun r=>∃h':Heap,r=some (Value.bool true,h')) (h00:=h1) (v1:=v) (by omega) (fun h2 y ps fs a c a2 c2 lps lfs G FF A A2 sm y0 y1 y5 y6=>?_) n 0 (by omega) h1 _ [] [] none 0 none 0 rfl rfl (Same.refl _) ⟨fun i hi=>(by simp at hi),fun i hi=>(by simp at hi),.nil⟩ ⟨fun i hi=>(by simp at hi),fun i hi=>(by simp at hi),.nil⟩ .nil .nil rfl rfl rfl rfl rfl
 have w1:IntKind.wrap .i64 ((n:Int)*(n:Int))=((n*n:Nat):Int):=by rw[<-Int.natCast_mul,wrap_i64]<;>omega
 obtain ⟨h3,e3,Ad,P⟩:=spec_NewPast n (by omega) h2
 have mk1:=mkWsR (n*n) (by omega) h3
 have L:=FSt.start sm lps lfs G FF A A2 Ad P
 simp -implicitDefEqProofs (disch:=omega) only[↓c4_2_eq,y0,e3,w1,mk1,↓zAc,↓zAb,↓Option.bind_some,↓zAa,sxB,Nat.reduceBEq]
 exact ff_loop hn1 hn (by omega) hw sl1 l.length 0 _ _ _ _ _ _ _ _ _ _ _ _ _ _ (by omega) L (fun _=>Nat.zero_le _) _ y0 y1 y5 y6 rfl rfl rfl
theorem law_LeanFull (h:Heap) (vs:List Value) (dd:List DT) (r:RdAll Tryz.prog h [3,54] vs dd):∃h',evC Tryz.prog 4 vs.toArray h=some (.bool true,h'):=by
 obtain ⟨v0,d0,vs',ds',rfl,rfl,r0,r1⟩:=r.cons_inv
 obtain ⟨v1,d1,vs',ds',rfl,rfl,ra,r2⟩:=r1.cons_inv
 obtain ⟨rfl,rfl⟩:=r2.nil_inv
 obtain ⟨a,rfl,_⟩:=r0.i64 (by kernel_rfl)
 obtain ⟨l,sl,hw⟩:=ra.mvs
 exact mlaw_LeanFull a v1 l hw h sl
end Go.Am
namespace Go.Am.Z
open Go.Proofs
set_option maxRecDepth 100000
set_option linter.all false
@[reducible] def xt0:Xt Tryz.prog:=⟨fun _=>none⟩
@[reducible] def gl0:Gl Tryz.prog:=⟨none⟩
attribute [local instance] xt0 gl0
theorem xm0:XtM Tryz.prog:=⟨fun _ _ h=>by cases h⟩
theorem xo0:XtOk Tryz.prog:=⟨fun _ _ h=>(by cases h),fun _ _ _ h=>(by cases h)⟩
attribute [local instance] xm0 xo0
section
variable {β:Type}
noncomputable abbrev ev:Ev:=evC Tryz.prog
noncomputable abbrev cK (c:Code) (n:Nat) (x:Nat->Value) (h:Heap) (k:Ex->St->Option β):Option β:=zAy Tryz.prog (evC Tryz.prog) zAx c ⟨ar n x,h⟩ k
noncomputable abbrev lK (c:Code) (n:Nat) (x:Nat->Value) (h:Heap) (k:Ex->St->Option β):Option β:=loopK Tryz.prog (evC Tryz.prog) c ⟨ar n x,h⟩ k
noncomputable abbrev sK (c:Code) (k:Ex->St->Option β):Ex->St->Option β:=seqK Tryz.prog (evC Tryz.prog) c k
noncomputable abbrev rD (ops:Array Oper) (j n:Nat) (x:Nat->Value) (h:Heap) (r m:List Nat) (k:St->Option β):Option β:=regD Tryz.prog (evC Tryz.prog) ops j ⟨ar n x,h⟩ r m k
variable (x:Nat->Value) (h:Heap) (k:Ex->St->Option β) (r m:List Nat) (g:Heap)
noncomputable def c114_0:Code:=zAk Tryz.f114 []
theorem c114_0_eq:cK c114_0 6 x h k =
(bn .neq 3 (x 0) (x 0)).bind fun v0=>
k .ret ⟨ar 6 (up x [(2,v0),(3,(x 0)),(4,(x 0)),(5,v0)]),h⟩:=by kernel_rfl
theorem call114 (a0:Value):evC Tryz.prog 114 #[a0] h=cK c114_0 6 (up un [(0,a0)]) (nm h) (zBb Tryz.f114 Tryz.prog h):=
 (zAo 114 Tryz.f114 c114_0 Tryz.func114 (by kernel_rfl) #[a0] h).trans (by kernel_rfl)
theorem ret114:zBb Tryz.f114 Tryz.prog g .ret ⟨ar 6 x,h⟩=fin g (some (x 2)) h:=by kernel_rfl
noncomputable def c115_0:Code:=zAk Tryz.f115 []
theorem c115_0_eq:cK c115_0 6 x h k =
(bn .neq 30 (x 0) (x 0)).bind fun v0=>
k .ret ⟨ar 6 (up x [(2,v0),(3,(x 0)),(4,(x 0)),(5,v0)]),h⟩:=by kernel_rfl
theorem call115 (a0:Value):evC Tryz.prog 115 #[a0] h=cK c115_0 6 (up un [(0,a0)]) (nm h) (zBb Tryz.f115 Tryz.prog h):=
 (zAo 115 Tryz.f115 c115_0 Tryz.func115 (by kernel_rfl) #[a0] h).trans (by kernel_rfl)
theorem ret115:zBb Tryz.f115 Tryz.prog g .ret ⟨ar 6 x,h⟩=fin g (some (x 2)) h:=by kernel_rfl
noncomputable def c101_0:Code:=zAk Tryz.f101 []
theorem c101_0_eq:cK c101_0 20 x h k =
obH (ev 114 #[x 0] h) fun v0 h1=>
obH (ev 114 #[x 1] h1) fun v2 h3=>
cnd v0 (
cnd v2 (
k .ret ⟨ar 20 (up x [(4,(.int .i64 0)),(5,v0),(6,v2),(7,(x 0)),(8,v0),(9,(x 1)),(10,v2),(11,v0),(12,v2)]),h3⟩) (
k .ret ⟨ar 20 (up x [(4,(.int .i64 (-1))),(5,v0),(6,v2),(7,(x 0)),(8,v0),(9,(x 1)),(10,v2),(11,v0),(12,v2)]),h3⟩)) (
cnd v2 (
k .ret ⟨ar 20 (up x [(4,(.int .i64 1)),(5,v0),(6,v2),(7,(x 0)),(8,v0),(9,(x 1)),(10,v2),(11,v0),(13,v2)]),h3⟩) (
(bn .lss 3 (x 0) (x 1)).bind fun v4=>
cnd v4 (
k .ret ⟨ar 20 (up x [(4,(.int .i64 (-1))),(5,v0),(6,v2),(7,(x 0)),(8,v0),(9,(x 1)),(10,v2),(11,v0),(13,v2),(14,(x 0)),(15,(x 1)),(16,v4)]),h3⟩) (
(bn .gtr 3 (x 0) (x 1)).bind fun v5=>
cnd v5 (
k .ret ⟨ar 20 (up x [(4,(.int .i64 1)),(5,v0),(6,v2),(7,(x 0)),(8,v0),(9,(x 1)),(10,v2),(11,v0),(13,v2),(14,(x 0)),(15,(x 1)),(16,v4),(17,(x 0)),(18,(x 1)),(19,v5)]),h3⟩) (
k .ret ⟨ar 20 (up x [(4,(.int .i64 0)),(5,v0),(6,v2),(7,(x 0)),(8,v0),(9,(x 1)),(10,v2),(11,v0),(13,v2),(14,(x 0)),(15,(x 1)),(16,v4),(17,(x 0)),(18,(x 1)),(19,v5)]),h3⟩)))):=by kernel_rfl
theorem call101 (a0 a1:Value):evC Tryz.prog 101 #[a0,a1] h=cK c101_0 20 (up un [(0,a0),(1,a1)]) (nm h) (zBb Tryz.f101 Tryz.prog h):=
 (zAo 101 Tryz.f101 c101_0 Tryz.func101 (by kernel_rfl) #[a0,a1] h).trans (by kernel_rfl)
theorem ret101:zBb Tryz.f101 Tryz.prog g .ret ⟨ar 20 x,h⟩=fin g (some (x 4)) h:=by kernel_rfl
noncomputable def c102_0:Code:=zAk Tryz.f102 []
theorem c102_0_eq:cK c102_0 20 x h k =
obH (ev 115 #[x 0] h) fun v0 h1=>
obH (ev 115 #[x 1] h1) fun v2 h3=>
cnd v0 (
cnd v2 (
k .ret ⟨ar 20 (up x [(4,(.int .i64 0)),(5,v0),(6,v2),(7,(x 0)),(8,v0),(9,(x 1)),(10,v2),(11,v0),(12,v2)]),h3⟩) (
k .ret ⟨ar 20 (up x [(4,(.int .i64 (-1))),(5,v0),(6,v2),(7,(x 0)),(8,v0),(9,(x 1)),(10,v2),(11,v0),(12,v2)]),h3⟩)) (
cnd v2 (
k .ret ⟨ar 20 (up x [(4,(.int .i64 1)),(5,v0),(6,v2),(7,(x 0)),(8,v0),(9,(x 1)),(10,v2),(11,v0),(13,v2)]),h3⟩) (
(bn .lss 30 (x 0) (x 1)).bind fun v4=>
cnd v4 (
k .ret ⟨ar 20 (up x [(4,(.int .i64 (-1))),(5,v0),(6,v2),(7,(x 0)),(8,v0),(9,(x 1)),(10,v2),(11,v0),(13,v2),(14,(x 0)),(15,(x 1)),(16,v4)]),h3⟩) (
(bn .gtr 30 (x 0) (x 1)).bind fun v5=>
cnd v5 (
k .ret ⟨ar 20 (up x [(4,(.int .i64 1)),(5,v0),(6,v2),(7,(x 0)),(8,v0),(9,(x 1)),(10,v2),(11,v0),(13,v2),(14,(x 0)),(15,(x 1)),(16,v4),(17,(x 0)),(18,(x 1)),(19,v5)]),h3⟩) (
k .ret ⟨ar 20 (up x [(4,(.int .i64 0)),(5,v0),(6,v2),(7,(x 0)),(8,v0),(9,(x 1)),(10,v2),(11,v0),(13,v2),(14,(x 0)),(15,(x 1)),(16,v4),(17,(x 0)),(18,(x 1)),(19,v5)]),h3⟩)))):=by kernel_rfl
theorem call102 (a0 a1:Value):evC Tryz.prog 102 #[a0,a1] h=cK c102_0 20 (up un [(0,a0),(1,a1)]) (nm h) (zBb Tryz.f102 Tryz.prog h):=
 (zAo 102 Tryz.f102 c102_0 Tryz.func102 (by kernel_rfl) #[a0,a1] h).trans (by kernel_rfl)
theorem ret102:zBb Tryz.f102 Tryz.prog g .ret ⟨ar 20 x,h⟩=fin g (some (x 4)) h:=by kernel_rfl
noncomputable def c100_0:Code:=zAk Tryz.f100 []
noncomputable def c100_1:Code:=zAk Tryz.f100 [true,true,false,true,false,false]
noncomputable def c100_2:Code:=zAk Tryz.f100 [true,true,true]
theorem c100_0_eq:cK c100_0 18 x h k =
(ln 68 (x 0) h).bind fun v0=>
lK c100_1 18 (up x [(2,(.int .i64 0)),(3,(.int .i64 0)),(6,(x 0)),(7,v0),(8,(.int .i64 0))]) h (zAu 0 (sK c100_2 k)):=by kernel_rfl
theorem c100_1_eq:cK c100_1 18 x h k =
(bn .lss 3 (x 8) (x 7)).bind fun v1=>
cnd v1 (
(ia 68 (x 6) (x 8)).bind fun v2=>
(ld 3 v2 h).bind fun v3=>
(bn .neq 3 v3 (x 3)).bind fun v4=>
cnd v4 (
k .ret ⟨ar 18 (up x [(2,v3),(5,v3),(9,v1),(10,v2),(11,v3),(12,v3),(13,(x 3)),(14,v4),(15,v3)]),h⟩) (
(bn .add 3 (x 8) (.int .i64 1)).bind fun v5=>
k .normal ⟨ar 18 (up x [(5,v3),(8,v5),(9,v1),(10,v2),(11,v3),(12,v3),(13,(x 3)),(14,v4),(16,v5)]),h⟩)) (
k (.exit 0) ⟨ar 18 (up x [(9,v1)]),h⟩):=by kernel_rfl
theorem c100_2_eq:cK c100_2 18 x h k =
k .ret ⟨ar 18 (up x [(2,(x 3)),(17,(x 3))]),h⟩:=by kernel_rfl
theorem call100 (a0:Value):evC Tryz.prog 100 #[a0] h=cK c100_0 18 (up un [(0,a0)]) (nm h) (zBb Tryz.f100 Tryz.prog h):=
 (zAo 100 Tryz.f100 c100_0 Tryz.func100 (by kernel_rfl) #[a0] h).trans (by kernel_rfl)
theorem ret100:zBb Tryz.f100 Tryz.prog g .ret ⟨ar 18 x,h⟩=fin g (some (x 2)) h:=by kernel_rfl
noncomputable def c78_0:Code:=zAk Tryz.f78 []
theorem c78_0_eq:cK c78_0 17 x h k =
obH (boxV Tryz.prog 99 (x 0) h) fun v0 h1=>
obH (boxV Tryz.prog 99 (x 1) h1) fun v2 h3=>
(fa 99 v0 0).bind fun v4=>
(ld 3 v4 h3).bind fun v5=>
(fa 99 v2 0).bind fun v6=>
(ld 3 v6 h3).bind fun v7=>
obH (ev 101 #[v5,v7] (nm h3)) fun v8 h9=>
(fa 99 v0 1).bind fun v10=>
(ld 30 v10 (am h9 h3)).bind fun v11=>
(fa 99 v2 1).bind fun v12=>
(ld 30 v12 (am h9 h3)).bind fun v13=>
obH (ev 102 #[v11,v13] (am h9 h3)) fun v14 h15=>
obH (zAi Tryz.prog 68 2 #[(0,v8),(1,v14)] h15) fun v16 h17=>
obH (ev 100 #[v16] h17) fun v18 h19=>
chk ((rb v12)++((rb v10)++[])) (h9.mods++[]) (
k .ret ⟨ar 17 (up x [(2,v0),(3,v2),(4,v18),(5,v4),(6,v5),(7,v6),(8,v7),(9,v8),(10,v10),(11,v11),(12,v12),(13,v13),(14,v14),(15,v16),(16,v18)]),h19⟩):=by kernel_rfl
theorem call78 (a0 a1:Value):evC Tryz.prog 78 #[a0,a1] h=cK c78_0 17 (up un [(0,a0),(1,a1)]) (nm h) (zBb Tryz.f78 Tryz.prog h):=
 (zAo 78 Tryz.f78 c78_0 Tryz.func78 (by kernel_rfl) #[a0,a1] h).trans (by kernel_rfl)
theorem ret78:zBb Tryz.f78 Tryz.prog g .ret ⟨ar 17 x,h⟩=fin g (some (x 4)) h:=by kernel_rfl
end
attribute [local congr] zAf zAq zAr zAs zAj zAg
theorem spec_isNaNI (a:Int) (h:Heap):evC Tryz.prog 114 #[.int .i64 a] h=some (.bool false,h):=by
 rw[call114]
 simp -implicitDefEqProofs only[↓c114_0_eq,eq_self,ne_eq,not_true_eq_false,decide_false,↓ret114,↓zAc,↓zAb,↓Option.bind_some,↓zAa,sxB,Nat.reduceBEq]
theorem spec_isNaNW (a:Int) (h:Heap):evC Tryz.prog 115 #[.int .u64 a] h=some (.bool false,h):=by
 rw[call115]
 simp -implicitDefEqProofs only[↓c115_0_eq,eq_self,ne_eq,not_true_eq_false,decide_false,↓ret115,↓zAc,↓zAb,↓Option.bind_some,↓zAa,sxB,Nat.reduceBEq]
def cmpI (a b:Int):Int:=if a<b then -1 else if b<a then 1 else 0
theorem spec_CmpI (a b:Int) (h:Heap):evC Tryz.prog 101 #[.int .i64 a,.int .i64 b] h=some (.int .i64 (cmpI a b),h):=by
 rw[call101]
 have e1:=fun h=>spec_isNaNI a h
 have e2:=fun h=>spec_isNaNI b h
 unfold cmpI
 by_cases h1:a<b
 ·rw[if_pos h1]
  simp -implicitDefEqProofs (disch:=omega) only[↓c101_0_eq,dcT,dcF,e1,e2,↓ret101,↓zAc,↓zAb,↓Option.bind_some,↓zAa,sxB,Nat.reduceBEq]
 ·rw[if_neg h1]
  by_cases h2:b<a
  ·rw[if_pos h2]
   simp -implicitDefEqProofs (disch:=omega) only[↓c101_0_eq,dcT,dcF,e1,e2,↓ret101,↓zAc,↓zAb,↓Option.bind_some,↓zAa,sxB,Nat.reduceBEq]
  ·rw[if_neg h2]
   simp -implicitDefEqProofs (disch:=omega) only[↓c101_0_eq,dcT,dcF,e1,e2,↓ret101,↓zAc,↓zAb,↓Option.bind_some,↓zAa,sxB,Nat.reduceBEq]
theorem spec_CmpW (a b:Int) (h:Heap):evC Tryz.prog 102 #[.int .u64 a,.int .u64 b] h=some (.int .i64 (cmpI a b),h):=by
 rw[call102]
 have e1:=fun h=>spec_isNaNW a h
 have e2:=fun h=>spec_isNaNW b h
 unfold cmpI
 by_cases h1:a<b
 ·rw[if_pos h1]
  simp -implicitDefEqProofs (disch:=omega) only[↓c102_0_eq,dcT,dcF,e1,e2,↓ret102,↓zAc,↓zAb,↓Option.bind_some,↓zAa,sxB,Nat.reduceBEq]
 ·rw[if_neg h1]
  by_cases h2:b<a
  ·rw[if_pos h2]
   simp -implicitDefEqProofs (disch:=omega) only[↓c102_0_eq,dcT,dcF,e1,e2,↓ret102,↓zAc,↓zAb,↓Option.bind_some,↓zAa,sxB,Nat.reduceBEq]
  ·rw[if_neg h2]
   simp -implicitDefEqProofs (disch:=omega) only[↓c102_0_eq,dcT,dcF,e1,e2,↓ret102,↓zAc,↓zAb,↓Option.bind_some,↓zAa,sxB,Nat.reduceBEq]
theorem spec_Or {h:Heap} {p c:Nat} (a b:Int) (hc:Cells h p 3 [.int .i64 a,.int .i64 b]):evC Tryz.prog 100 #[.slice (some ⟨p,0,none⟩) 2 c] h=some (.int .i64 (if a=0 then b else a),h):=by
 rw[call100]
 have l0:(nm h).load1 p 0=some (.int .i64 a):=hc.nm.load 0
 have l1:(nm h).load1 p 1=some (.int .i64 b):=hc.nm.load 1
 have w1:IntKind.i64.wrap (0+1)=1:=rfl
 have w2:IntKind.i64.wrap (1+1)=2:=rfl
 by_cases h1:a=0
 ·rw[if_pos h1]
  by_cases h2:b=0
  ·simp -implicitDefEqProofs (disch:=omega) only[↓c100_0_eq,↓c100_1_eq,↓c100_2_eq,↓zBe evC_m,dcT,dcF,lnI,iaI0,iaI1,ldI,l0,l1,w1,w2,↓ret100,↓zAc,↓zAb,↓Option.bind_some,↓zAa,sxB,Nat.reduceBEq]
   rw[h2]
  ·simp -implicitDefEqProofs (disch:=omega) only[↓c100_0_eq,↓c100_1_eq,↓c100_2_eq,↓zBe evC_m,dcT,dcF,lnI,iaI0,iaI1,ldI,l0,l1,w1,w2,↓ret100,↓zAc,↓zAb,↓Option.bind_some,↓zAa,sxB,Nat.reduceBEq]
 ·rw[if_neg h1]
  simp -implicitDefEqProofs (disch:=omega) only[↓c100_0_eq,↓c100_1_eq,↓c100_2_eq,↓zBe evC_m,dcT,dcF,lnI,iaI0,iaI1,ldI,l0,l1,w1,w2,↓ret100,↓zAc,↓zAb,↓Option.bind_some,↓zAa,sxB,Nat.reduceBEq]
theorem cmpE_or (x y:E3):(if cmpI x.f y.f=0 then cmpI x.n y.n else cmpI x.f y.f)=cmpE x y:=by
 unfold cmpE cmpI
 by_cases h1:x.f<y.f
 ·simp[h1]
 ·by_cases h2:y.f<x.f
  ·simp[h1,h2]
  ·have:(x.n:Int)<y.n ↔ x.n<y.n:=Int.ofNat_lt
   have:(y.n:Int)<x.n ↔ y.n<x.n:=Int.ofNat_lt
   simp[h1,h2]
theorem spec_order (x y:E3) (h:Heap):∃h',evC Tryz.prog 78 #[entV x,entV y] h=some (.int .i64 (cmpE x y),h')/\HExt h h':=by
 rw[call78]
 have c1:Cells (((nm h).new (.cells [.int .i64 x.f,.int .u64 x.n,.int .u64 x.t]) 99).new (.cells [.int .i64 y.f,.int .u64 y.n,.int .u64 y.t]) 99) (nm h).blks.length 99 [.int .i64 x.f,.int .u64 x.n,.int .u64 x.t]:=(Cells.new _ _ _).keepNew _ _
 have c2:=Cells.new ((nm h).new (.cells [.int .i64 x.f,.int .u64 x.n,.int .u64 x.t]) 99) 99 [.int .i64 y.f,.int .u64 y.n,.int .u64 y.t]
 have k2:In h.blks.length No (nm h) (((nm h).new (.cells [.int .i64 x.f,.int .u64 x.n,.int .u64 x.t]) 99).new (.cells [.int .i64 y.f,.int .u64 y.n,.int .u64 y.t]) 99):=
  In.trans (In.new (h:=nm h) (Nat.le_refl h.blks.length) _ _) (In.new (by simp[Heap.new]) _ _)
 generalize hp1:((nm h).new (.cells [.int .i64 x.f,.int .u64 x.n,.int .u64 x.t]) 99).blks.length=p1 at c2
 generalize hp0:(nm h).blks.length=p0 at c1
 generalize hh2:((nm h).new (.cells [.int .i64 x.f,.int .u64 x.n,.int .u64 x.t]) 99).new (.cells [.int .i64 y.f,.int .u64 y.n,.int .u64 y.t]) 99=h2 at c1 c2 k2
 have la:h2.load1 p0 0=some (.int .i64 x.f):=c1.load 0
 have lb:h2.load1 p0 1=some (.int .u64 x.n):=c1.load 1
 have lc:h2.load1 p1 0=some (.int .i64 y.f):=c2.load 0
 have ld:h2.load1 p1 1=some (.int .u64 y.n):=c2.load 1
 have k3:=k2.trans (In.new (Nat.le_trans k2.le k2.len) (.cells [.int .i64 (cmpI x.f y.f),.int .i64 (cmpI x.n y.n)]) 3)
 have e3:=spec_Or (c:=2) _ _ (Cells.new h2 3 [.int .i64 (cmpI x.f y.f),.int .i64 (cmpI x.n y.n)])
 rw[cmpE_or] at e3
 refine ⟨_,?_,zAl k3⟩
 simp -implicitDefEqProofs (disch:=omega) only[↓c78_0_eq,entV,bxE,hp0,hp1,hh2,faE0,faE1,ldI,ldU,la,lb,lc,ld,spec_CmpI,spec_CmpW,am_nm,nm_load1,nm_mods,List.nil_append,List.append_nil,lsI2',e3,↓ret78,↓zAc,↓zAb,↓Option.bind_some,↓zAa,sxB,Nat.reduceBEq]
end Go.Am.Z
set_option linter.unusedVariables false
set_option linter.unusedSimpArgs false
namespace Go.Proofs
open Go.RowKit Go.Lib
theorem run_copy_cellsK {P:Program} (w:World) (dT sT ty elem:TypeId) (K b o dLen dCap:Nat) (a:Addr) (sLen sCap n:Nat) (cs:List Value)
  (hu:P.underlying dT=some (.slice elem)) (hs:∀w,(Go.sizeOf elem).run P w=.ok K w) (hn:n=Nat.min sLen dLen) (hl:cs.length=n*K)
  (hsrc:∀j v,cs[j]?=some v->w.cell? (a.add j)=some v) (hc:∀j,j<cs.length->(w.cell? ⟨b,o+j,none⟩).isSome=true) (hf:∀j,j<cs.length->w.frozen? ⟨b,o+j,none⟩=false) (h1:∀v∈cs,v.oneCell'=true) :
  (Builtin.copy_ #[dT,sT] ty #[.slice (some ⟨b,o,none⟩) dLen dCap,.slice (some a) sLen sCap]).run P w=.ok (goInt n) (w.setCells b o cs):=by
 have hl2:=run_loadCells_list (P:=P) w a cs hsrc
 have hst:=run_storeCells_cells (P:=P) b o cs 0 w (by simpa using hc) (by simpa using hf) h1
 rw[hl] at hl2
 simp[Builtin.copy_,run_underlying hu,Builtin.lenOf,Builtin.firstCells,hs,<-hn,hl2,hst]
theorem szE:∀w,(Go.sizeOf 99).run Tryz.prog w=.ok 3 w:=fun w=>@Go.Am.run_sizeT Tryz.prog ⟨none⟩ 99 3 (by kernel_rfl) w
theorem uEs:Tryz.prog.underlying 49=some (.slice 99):=by kernel_rfl
set_option maxHeartbeats 4000000 in
set_option maxRecDepth 100000 in
theorem ins_shift (b off n c i vb voff vc:Nat) (cs vs:List Value) (w:World) (hi:i<n) (hn60:n<1152921504606846976) (hroom:n+1<=c) (hvb:vb≠b)
  (hcl:cs.length=n*3) (hvl:vs.length=3)
  (hcs:∀j v,cs[j]?=some v->w.cell? ⟨b,off+j,none⟩=some v) (hsp:∀j,j<(n+1)*3->(w.cell? ⟨b,off+j,none⟩).isSome=true) (hfz:∀j,j<(n+1)*3->w.frozen? ⟨b,off+j,none⟩=false)
  (hvs:∀j v,vs[j]?=some v->w.cell? ⟨vb,voff+j,none⟩=some v) (h1c:∀v∈cs,v.oneCell'=true) (h1v:∀v∈vs,v.oneCell'=true)
  (tA tB:TypeId) (kA kB:Nat) (hsa:w.shape? vb=some (tA,kA)) (hsb:w.shape? b=some (tB,kB)) (hkB:kB≠0) (hfa:w.frozen? ⟨vb,voff,none⟩=false) (hfe:w.frozen? ⟨vb,kA,none⟩=false) :
  Calls Tryz.prog 79 #[.slice (some ⟨b,off,none⟩) n c,.int .i64 i,.slice (some ⟨vb,voff,none⟩) (1:Nat) vc] w fun e w'=>
   e=.returned (.slice (some ⟨b,off,none⟩) (n+1) c)/\w'=(w.drew.setCells b (off+(i+1)*3) (cs.drop (i*3))).setCells b (off+i*3) vs:=by
 have hz2:¬((i:Int)=(n:Int)):=by omega
 have hov:∀lb cb,(callFunc 103 #[.slice (some ⟨vb,voff,none⟩) 1 vc,.slice (some ⟨b,off+(i+1)*3,none⟩) lb cb]).run Tryz.prog w=.ok (.value (.bool false)) w:=fun lb cb=>by
  rw[run_callFunc_extern Tryz.func103 (by kernel_rfl) (by kernel_rfl) (by kernel_rfl) (e:=Extern.SlicesOverlaps.overlaps #[49,49] #[4]) (by kernel_rfl),
   Lib.run_overlaps_apart w 49 4 99 uEs 3 szE ⟨vb,voff,none⟩ ⟨b,off+(i+1)*3,none⟩ 1 vc lb cb hvb tA tB kA kB hsa hsb hkB hfa hfe]
  rfl
 have hw1:IntKind.i64.wrap ((i:Int)+1)=(i:Int)+1:=by rw[IntKind.wrap_i64];omega
 have hw2:IntKind.i64.wrap ((n:Int)+1)=(n:Int)+1:=by rw[IntKind.wrap_i64];omega
 have hb1:(0:Int)<=(i:Int)+1:=by omega
 have hin:i<=n:=by omega
 have htn:((i:Int)+1).toNat=i+1:=by omega
 have hb2:¬(c=i+1):=by omega
 have hb3:(i:Int)<=(n:Int)+1:=by omega
 have hb4:¬(c=i):=by omega
 have hdl:(cs.drop (i*3)).length=(n-i)*3:=by rw[List.length_drop,hcl,Nat.sub_mul]
 have hcp1:∀ty dc sc,(Builtin.copy_ #[49,49] ty #[.slice (some ⟨b,off+(i+1)*3,none⟩) (n-i) dc,.slice (some ⟨b,off+i*3,none⟩) (n+1-i) sc]).run Tryz.prog w.drew=.ok (goInt (n-i:Nat)) (w.drew.setCells b (off+(i+1)*3) (cs.drop (i*3))):=fun ty dc sc=>
  run_copy_cellsK w.drew _ _ ty 99 3 b (off+(i+1)*3) (n-i) dc ⟨b,off+i*3,none⟩ (n+1-i) sc (n-i) (cs.drop (i*3)) uEs szE (by simp only[Nat.min_def];split<;>omega) hdl
   (fun j v hj=>by rw[Addr.add_lit,Nat.add_assoc];exact hcs (i*3+j) v (by rwa [List.getElem?_drop] at hj))
   (fun j hj=>by rw[Nat.add_assoc];exact hsp _ (by omega)) (fun j hj=>by rw[Nat.add_assoc];exact hfz _ (by omega)) (fun v hv=>h1c v (List.mem_of_mem_drop hv))
 obtain ⟨W1,hW1⟩:∃W1,W1=w.drew.setCells b (off+(i+1)*3) (cs.drop (i*3)):=⟨_,rfl⟩
 have hsp1:∀k,k<(n+1)*3->(W1.cell? ⟨b,off+k,none⟩).isSome=true:=fun k hk=>by
  rw[hW1]
  exact isSome_setCells b _ _ _ (fun j hj=>by rw[Nat.add_assoc];exact hsp _ (by omega)) _ (hsp k hk)
 have hcp2:∀(W:World),(∀x,W.cell? x=W1.cell? x)->(∀x,W.frozen? x=W1.frozen? x)->∀ty dc,(Builtin.copy_ #[49,49] ty #[.slice (some ⟨b,off+i*3,none⟩) (n+1-i) dc,.slice (some ⟨vb,voff,none⟩) 1 vc]).run Tryz.prog W=.ok (goInt (1:Nat)) (W.setCells b (off+i*3) vs):=fun W hWc hWf ty dc=>
  run_copy_cellsK W _ _ ty 99 3 b (off+i*3) (n+1-i) dc ⟨vb,voff,none⟩ 1 vc 1 vs uEs szE (by simp only[Nat.min_def];split<;>omega) (by omega)
   (fun j v hj=>by
    rw[Addr.add_lit,hWc,hW1,World.cell?_setCells_out b _ _ _ _ (fun h _=>absurd h hvb)]
    exact hvs j v hj)
   (fun j hj=>by rw[hWc,Nat.add_assoc];exact hsp1 _ (by omega)) (fun j hj=>by rw[hWf,hW1,World.frozen?_setCells,Nat.add_assoc];exact hfz _ (by omega)) h1v
 rw[<-hW1] at hcp1
 go_enter Tryz.func79,Tryz.ntmps79
 go_wp2_with (simp only[hov])
 go_region_law (refine step_copy_runI rfl _ _ 49 49 rfl _ _ (by simp[Act.eval,Act.put]) (by simp[Act.eval,Act.put]) (hcp1 _ _ _) ?_)
 go_wp2_with (at_builtin;refine wpList_copy_runI _ rfl _ _ 49 49 rfl _ _ rfl rfl (hcp2 _ (fun _=>rfl) (fun _=>rfl) _ _) ?_)
 go_ret
 first | exact ⟨rfl,rfl⟩ | exact ⟨rfl,by rw[hW1]⟩
def zEv:Value:=.agg #[.int .i64 0,.int .u64 0,.int .u64 0]
theorem iE:(Tryz.prog.info? 99).map (fun i=>(i.zero,i.size,i.bytes))=some (some zEv,3,24):=by kernel_rfl
theorem uInt:Tryz.prog.underlying 3=some (.int .i64):=by kernel_rfl
theorem zc_size (k:Nat):(Builtin.zeroCells zEv.cells k).size=k*3:=by
 simp[Builtin.zeroCells,zEv,Value.cells]
def insRow (w:World) (n c i:Nat) (cs:List Value):Array Value:=(cs.take (i*3)).toArray++Builtin.zeroCells zEv.cells (n+1-i)++Builtin.zeroCells zEv.cells (grownCap w (n+1) c 99-(n+1))
set_option maxHeartbeats 4000000 in
set_option maxRecDepth 100000 in
theorem ins_grow (b off n c i vb voff vc:Nat) (cs vs:List Value) (w:World) (hi:i<n) (hnc:n<=c) (hroom:c<n+1) (hbig:(n+1)*24<=140737488355328)
  (hcl:cs.length=n*3) (hvl:vs.length=3)
  (hcs:∀j v,cs[j]?=some v->w.cell? ⟨b,off+j,none⟩=some v)
  (hvs:∀j v,vs[j]?=some v->w.cell? ⟨vb,voff+j,none⟩=some v) (h1c:∀v∈cs,v.oneCell'=true) (h1v:∀v∈vs,v.oneCell'=true) :
  Calls Tryz.prog 79 #[.slice (some ⟨b,off,none⟩) n c,.int .i64 i,.slice (some ⟨vb,voff,none⟩) (1:Nat) vc] w fun e w'=>
   e=.returned (.slice (some ⟨w.heap.size,0,none⟩) (n+1) (grownCap w (n+1) c 99)) ∧
   w'=(((w.alloc (.cells (insRow w n c i cs) 99)).drew.setCells w.heap.size (i*3) vs).drew).setCells w.heap.size ((i+1)*3) (cs.drop (i*3)):=by
 obtain ⟨i0,hi0,hz0,hzs,hzb⟩:=info_parts iE
 have hz2:¬((i:Int)=(n:Int)):=by omega
 have hz3:(c:Int)<(n:Int)+1:=by omega
 have hbw:b<w.heap.size:=block_lt_of_cell (hcs 0 _ (List.getElem?_eq_getElem (by omega)))
 have hvw:vb<w.heap.size:=block_lt_of_cell (hvs 0 _ (List.getElem?_eq_getElem (by omega)))
 have hkk:(n:Int)+1-(i:Int)=((n+1-i:Nat):Int):=by omega
 have hik:i+(n+1-i)=n+1:=by omega
 have hold:(Builtin.firstCells i0.size i (.slice (some ⟨b,off,none⟩) i c)).run Tryz.prog w.drew=.ok (cs.take (i*3)).toArray w.drew:=by
  rw[hzs]
  exact run_firstCells_some w.drew 3 i ⟨b,off,none⟩ i c (cs.take (i*3)) (by rw[List.length_take];omega) (fun j v hj=>by
   rw[Addr.add_lit]
   rw[List.getElem?_take] at hj
   split at hj
   ·exact hcs j v hj
   ·cases hj)
 have hrz:∀ty,(Builtin.append_ #[49,3] ty #[.slice (some ⟨b,off,none⟩) i c,.int .i64 ((n:Int)+1-(i:Int))]).run Tryz.prog w =
   .ok (.slice (some ⟨w.heap.size,0,none⟩) (n+1) (grownCap w (n+1) c 99)) (w.drew.alloc (.cells (insRow w n c i cs) 99)):=fun ty=>by
  have h:=Lib.run_append_grow_zeros w 49 3 ty 99 i0 _ .i64 .i64 uEs uInt hi0 hz0 (some ⟨b,off,none⟩) i c (cs.take (i*3)) hold (n+1-i) (by omega) (by omega) (by omega) (by omega) (by rw[hzb];omega) (by rw[hzb,hik];exact growslice_fits hroom hbig)
  rw[hik] at h
  rw[hkk]
  exact h
 obtain ⟨G,hG⟩:∃G,G=grownCap w (n+1) c 99:=⟨_,rfl⟩
 obtain ⟨ROW,hROW⟩:∃ROW:Array Value,ROW=insRow w n c i cs:=⟨_,rfl⟩
 have hRl:(n+1)*3<=ROW.size:=by
  rw[hROW]
  unfold insRow
  rw[Array.size_append,Array.size_append,zc_size,zc_size,List.size_toArray,List.length_take]
  omega
 rw[<-hG,<-hROW] at hrz ⊢
 obtain ⟨W1,hW1⟩:∃W1,W1=w.drew.alloc (.cells ROW 99):=⟨_,rfl⟩
 rw[<-hW1] at hrz
 have hN:∀j,j<(n+1)*3->(W1.cell? ⟨w.heap.size,j,none⟩).isSome=true:=fun j hj=>by
  rw[hW1,World.cell?_alloc_at (w:=w.drew) ROW _ w.heap.size j rfl,Array.getElem?_eq_getElem (by omega)];rfl
 have hNf:∀j,W1.frozen? ⟨w.heap.size,j,none⟩=false:=fun j=>by rw[hW1];exact World.frozen?_alloc_at (w:=w.drew) ROW _ w.heap.size j rfl
 have hOb:∀j v,w.cell? ⟨b,j,none⟩=some v->W1.cell? ⟨b,j,none⟩=some v:=fun j v h=>by rw[hW1,World.cell?_alloc_past (w:=w.drew) _ b j hbw];exact h
 have hOv:∀j v,w.cell? ⟨vb,j,none⟩=some v->W1.cell? ⟨vb,j,none⟩=some v:=fun j v h=>by rw[hW1,World.cell?_alloc_past (w:=w.drew) _ vb j hvw];exact h
 have hcpA:∀(W:World),(∀x,W.cell? x=W1.cell? x)->(∀x,W.frozen? x=W1.frozen? x)->∀ty dc,(Builtin.copy_ #[49,49] ty #[.slice (some ⟨w.heap.size,i*3,none⟩) (n+1-i) dc,.slice (some ⟨vb,voff,none⟩) 1 vc]).run Tryz.prog W=.ok (goInt (1:Nat)) (W.setCells w.heap.size (i*3) vs):=fun W hWc hWf ty dc=>
  run_copy_cellsK W _ _ ty 99 3 w.heap.size (i*3) (n+1-i) dc ⟨vb,voff,none⟩ 1 vc 1 vs uEs szE (by simp only[Nat.min_def];split<;>omega) (by omega)
   (fun j v hj=>by rw[Addr.add_lit,hWc];exact hOv _ v (hvs j v hj))
   (fun j hj=>by rw[hWc];exact hN _ (by omega)) (fun j hj=>by rw[hWf];exact hNf _) h1v
 have hGn:n+1<=G:=by rw[hG];exact grownCap_ge w _ _ _
 have hG63:G<=9223372036854775807:=by
  have:=grownCap_le_maxLen w (n+1) c 99 (by unfold maxLen;omega)
  rw[<-hG] at this
  unfold maxLen at this
  omega
 have hGi:¬(G=i):=by omega
 have hGim:¬(G=i+1):=by omega
 have hci:¬(c=i):=by omega
 have hbN:b≠w.heap.size:=by omega
 have hdl:(cs.drop (i*3)).length=(n-i)*3:=by rw[List.length_drop,hcl,Nat.sub_mul]
 have hcpB:∀(W:World),(∀x,W.cell? x=(W1.setCells w.heap.size (i*3) vs).cell? x)->(∀x,W.frozen? x=(W1.setCells w.heap.size (i*3) vs).frozen? x)->∀ty dc sc,(Builtin.copy_ #[49,49] ty #[.slice (some ⟨w.heap.size,(i+1)*3,none⟩) (n-i) dc,.slice (some ⟨b,off+i*3,none⟩) (n-i) sc]).run Tryz.prog W=.ok (goInt (n-i:Nat)) (W.setCells w.heap.size ((i+1)*3) (cs.drop (i*3))):=fun W hWc hWf ty dc sc=>
  run_copy_cellsK W _ _ ty 99 3 w.heap.size ((i+1)*3) (n-i) dc ⟨b,off+i*3,none⟩ (n-i) sc (n-i) (cs.drop (i*3)) uEs szE (by simp) hdl
   (fun j v hj=>by
    rw[Addr.add_lit,hWc,World.cell?_setCells_out _ _ _ _ _ (fun h _=>absurd h hbN),Nat.add_assoc]
    exact hOb _ v (hcs (i*3+j) v (by rwa [List.getElem?_drop] at hj)))
   (fun j hj=>by rw[hWc];exact isSome_setCells _ _ _ _ (fun t ht=>hN _ (by omega)) _ (hN _ (by omega)))
   (fun j hj=>by rw[hWf,World.frozen?_setCells];exact hNf _) (fun v hv=>h1c v (List.mem_of_mem_drop hv))
 subst hW1
 have hE1:∀x,((w.alloc (.cells ROW 99)).drew).cell? x=(w.drew.alloc (.cells ROW 99)).cell? x:=fun x=>rfl
 have hE2:∀x,((w.alloc (.cells ROW 99)).drew).frozen? x=(w.drew.alloc (.cells ROW 99)).frozen? x:=fun x=>rfl
 have hF1:∀x,(((w.alloc (.cells ROW 99)).drew.setCells w.heap.size (i*3) vs).drew).cell? x=((w.drew.alloc (.cells ROW 99)).setCells w.heap.size (i*3) vs).cell? x:=fun x=>rfl
 have hF2:∀x,(((w.alloc (.cells ROW 99)).drew.setCells w.heap.size (i*3) vs).drew).frozen? x=((w.drew.alloc (.cells ROW 99)).setCells w.heap.size (i*3) vs).frozen? x:=fun x=>rfl
 have hw1:IntKind.i64.wrap ((i:Int)+1)=(i:Int)+1:=by rw[IntKind.wrap_i64];omega
 have hw2:IntKind.i64.wrap ((n:Int)+1)=(n:Int)+1:=by rw[IntKind.wrap_i64];omega
 have hw3:IntKind.i64.wrap ((n:Int)+1-(i:Int))=(n:Int)+1-(i:Int):=by rw[IntKind.wrap_i64];omega
 have hb1:(0:Int)<=(i:Int)+1:=by omega
 have hin:i<=n:=by omega
 have htn:((i:Int)+1).toNat=i+1:=by omega
 have hb3:(i:Int)<=(n:Int):=by omega
 clear hkk hik hold hROW hG hRl
 go_enter Tryz.func79,Tryz.ntmps79
 go_wp2_with (first
  | (at_builtin;refine Lib.wpList_append_run _ rfl _ _ _ _ rfl _ _ rfl rfl _ _ (hrz _) ?_)
  | (at_builtin;refine wpList_copy_runI _ rfl _ _ 49 49 rfl _ _ rfl rfl (hcpA _ hE1 hE2 _ _) ?_)
  | (at_builtin;refine wpList_copy_runI _ rfl _ _ 49 49 rfl _ _ rfl rfl (hcpB _ (fun _=>rfl) (fun _=>rfl) _ _ _) ?_))
 go_region_law (refine step_copy_runI rfl _ _ 49 49 rfl (.slice (some ⟨w.heap.size,(i+1)*3,none⟩) (n-i) (G-(i+1))) (.slice (some ⟨b,off+i*3,none⟩) (n-i) (c-i)) (by simp[Act.eval,Act.put]) (by simp[Act.eval,Act.put]) (hcpB _ hF1 hF2 3 (G-(i+1)) (c-i)) ?_)
 go_wp2
 go_ret
 exact ⟨rfl,rfl⟩
set_option maxHeartbeats 4000000 in
set_option maxRecDepth 100000 in
theorem ins_end (ad:Addr) (n c:Nat) (x:Value) (vb voff vc:Nat) (w w':World) (v':Value) (hnc:n<=c) (hn:n<1152921504606846976) (hx:x=.slice (some ⟨vb,voff,none⟩) (1:Nat) vc)
  (hrun:(Builtin.append_ #[49,49] 49 #[.slice (some ad) n c,x]).run Tryz.prog w=.ok v' w') :
  Calls Tryz.prog 79 #[.slice (some ad) n c,.int .i64 n,x] w fun e w2=>e=.returned v'/\w2=w':=by
 subst hx
 have hin:n<=n:=Nat.le_refl n
 go_enter Tryz.func79,Tryz.ntmps79
 go_wp2_with (at_builtin;refine Lib.wpList_append_run _ rfl _ _ _ _ rfl _ _ rfl rfl _ _ hrun ?_)
 all_goals (go_ret;exact ⟨rfl,rfl⟩)
set_option maxHeartbeats 4000000 in
set_option maxRecDepth 100000 in
theorem ins_endN (x:Value) (vb voff vc:Nat) (w w':World) (v':Value) (hx:x=.slice (some ⟨vb,voff,none⟩) (1:Nat) vc)
  (hrun:(Builtin.append_ #[49,49] 49 #[.slice none 0 0,x]).run Tryz.prog w=.ok v' w') :
  Calls Tryz.prog 79 #[.slice none 0 0,.int .i64 0,x] w fun e w2=>e=.returned v'/\w2=w':=by
 subst hx
 go_enter Tryz.func79,Tryz.ntmps79
 go_wp2_with (at_builtin;refine Lib.wpList_append_run _ rfl _ _ _ _ rfl _ _ rfl rfl _ _ hrun ?_)
 go_ret
 exact ⟨rfl,rfl⟩
end Go.Proofs
namespace Go.Am
open Go.Proofs
set_option maxRecDepth 100000
set_option linter.all false
theorem own_frz {P:Program} {k:Blk} {l:Loc} {w:World} (h:Own P k l w) (he:l.es=3) (j:Nat):w.frozen? ⟨l.cb,j,none⟩=false:=by
 obtain ⟨cs,e,lo,hi,hh,hs,_,hf⟩:=h
 have:lo=hi:=by omega
 subst this
 simp only[World.frozen?,hh]
 simp
theorem own_shape {P:Program} {k:Blk} {l:Loc} {w:World} (h:Own P k l w):∃e,w.shape? l.cb=some (e,l.sz):=by
 obtain ⟨cs,e,lo,hi,hh,hs,_,hf⟩:=h
 exact ⟨e,by simp only[World.shape?,hh,hs]⟩
theorem own_cell {P:Program} {k:Blk} {l:Loc} {w:World} (h:Own P k l w) {j:Nat} (hj:j<l.sz):(w.cell? ⟨l.cb,j,none⟩).isSome=true:=by
 obtain ⟨cs,e,lo,hi,hh,hs,_,hf⟩:=h
 simp only[World.cell?,hh]
 simp
 omega
theorem Wrote.tr {c:Nat} {a b d:World} (h:Wrote c a b) (k:Wrote c b d):Wrote c a d:=
 ⟨k.os.trans h.os,k.tape.trans h.tape,k.output.trans h.output,k.size.trans h.size,fun x hx=>(k.blk x hx).trans (h.blk x hx),Nat.le_trans h.drawn k.drawn⟩
theorem drew_wrote (c:Nat) (w:World):Wrote c w w.drew:=⟨rfl,rfl,rfl,rfl,fun _ _=>rfl,Nat.le_succ _⟩
theorem ins_blk {E:Env} {row xs row' xs':List Value} (hr:LRel E row row') (hx:LRel E xs xs') {w2:World} {cb s i:Nat} (hi:i*3<=row.length) (hxl:xs.length=3)
  (c1:∀j v,j<i*3->row'[j]?=some v->w2.cell? ⟨cb,s+j,none⟩=some v) (c2:∀j v,xs'[j]?=some v->w2.cell? ⟨cb,s+i*3+j,none⟩=some v)
  (c3:∀j v,(row'.drop (i*3))[j]?=some v->w2.cell? ⟨cb,s+(i+1)*3+j,none⟩=some v) :
  ∀(k:Nat) v,(row.take (i*3)++(xs++row.drop (i*3)))[k]?=some v->∃v',w2.cell? ⟨cb,s+k,none⟩=some v'/\VR E v v':=by
 intro k v hk
 have hlt:(row.take (i*3)).length=i*3:=by rw[List.length_take];omega
 rcases Nat.lt_or_ge k (i*3) with h1 | h1
 ·rw[List.getElem?_append_left (by omega),List.getElem?_take,if_pos h1] at hk
  obtain ⟨v',h2,h3⟩:=hr.2 k v hk
  exact ⟨v',c1 k v' h1 h2,h3⟩
 ·rw[List.getElem?_append_right (by omega),hlt] at hk
  rcases Nat.lt_or_ge (k-i*3) 3 with h2 | h2
  ·rw[List.getElem?_append_left (by omega)] at hk
   obtain ⟨v',h3,h4⟩:=hx.2 _ v hk
   refine ⟨v',?_,h4⟩
   have:=c2 _ v' h3
   rwa [show s+i*3+(k-i*3)=s+k by omega] at this
  ·rw[List.getElem?_append_right (by omega),hxl,List.getElem?_drop] at hk
   obtain ⟨v',h3,h4⟩:=hr.2 _ v hk
   refine ⟨v',?_,h4⟩
   have:=c3 (k-i*3-3) v' (by rw[List.getElem?_drop];exact h3)
   rwa [show s+(i+1)*3+(k-i*3-3)=s+k by omega] at this
theorem set_in {w:World} {b o:Nat} {vs:List Value} (h:∀j,j<vs.length->(w.cell? ⟨b,o+j,none⟩).isSome=true) {j:Nat} {v:Value} (hv:vs[j]?=some v):(w.setCells b o vs).cell? ⟨b,o+j,none⟩=some v:=by
 obtain ⟨hj,e⟩:=List.getElem?_eq_some_iff.1 hv
 rw[World.cell?_setCells_in b vs o w h j hj,e]
theorem set_out {w:World} {b o k:Nat} {vs:List Value} (h:k<o\/o+vs.length<=k):(w.setCells b o vs).cell? ⟨b,k,none⟩=w.cell? ⟨b,k,none⟩:=
 World.cell?_setCells_out b vs o w _ (fun _ _=>h)
theorem alloc_pushed (w:World) (o:Obj):Pushed w (w.alloc o):=
 ⟨rfl,rfl,rfl,by show (w.heap.push o).size=_;rw[Array.size_push],fun c hc=>by show (w.heap.push o)[c]?=_;rw[Array.getElem?_push,if_neg (by omega)],Nat.le_refl _⟩
theorem Pushed.wr {w a d:World} (h:Pushed w a) (k:Wrote w.heap.size a d):Pushed w d:=
 ⟨k.os.trans h.os,k.tape.trans h.tape,k.output.trans h.output,k.size.trans h.size,fun c hc=>(k.blk c (by omega)).trans (h.blk c hc),Nat.le_trans h.drawn k.drawn⟩
theorem insRow_size (w:World) (n c i:Nat) (cs:List Value) (hi:i<n) (hl:cs.length=n*3):(insRow w n c i cs).size=grownCap w (n+1) c 99*3:=by
 have hg:n+1<=grownCap w (n+1) c 99:=grownCap_ge w _ _ _
 unfold insRow
 rw[Array.size_append,Array.size_append,zc_size,zc_size,List.size_toArray,List.length_take,hl]
 omega
theorem insRow_at (w:World) (n c i:Nat) (cs:List Value) {j:Nat} (hj:j<i*3) (hl:i*3<=cs.length):(insRow w n c i cs)[j]?=cs[j]?:=by
 unfold insRow
 have h1:j<((cs.take (i*3)).toArray).size:=by rw[List.size_toArray,List.length_take];omega
 rw[Array.append_assoc,Array.getElem?_append_left h1,List.getElem?_toArray,List.getElem?_take,if_pos hj]
theorem ins_sound (base:Nat) (args:Array Value) (h:Heap) (v:Value) (h':Heap) (E:Env) (w:World) (args':Array Value) (hv:insX args h=some (v,h')) (hR:Rel Tryz.prog base E h w) (ha:ARel E args args') (hfree:Free E h h') :
  Calls Tryz.prog 79 args' w fun e w'=>∃v' E',e=.returned v'/\Post Tryz.prog base E h w E' h' w'/\VR E' v v':=by
 have three:∀x y z,args.toList=[x,y,z]->∃x' y' z',args'=#[x',y',z']/\VR E x x'/\VR E y y'/\VR E z z':=fun x y z he=>by
  have hl:=ha.list
  rw[he] at hl
  obtain ⟨x',h1,r1⟩:=hl.2 0 x rfl
  obtain ⟨y',h2,r2⟩:=hl.2 1 y rfl
  obtain ⟨z',h3,r3⟩:=hl.2 2 z rfl
  have h4:=hl.1
  refine ⟨x',y',z',?_,r1,r2,r3⟩
  obtain ⟨l⟩:=args'
  match l,h4,h1,h2,h3 with
  | [a,b,c],_,h1,h2,h3=>cases h1;cases h2;cases h3;rfl
 unfold insX at hv
 split at hv
 ·rename_i a n c i vb he
  obtain ⟨x',y',z',rfl,r1,r2,r3⟩:=three _ _ _ he
  have hy:y'=.int .i64 i:=by cases r2;rfl
  subst hy
  have r30:=r3
  rcases r3.slice_inv with ⟨lz,cz,ez,_,_,_,rfl⟩ | ⟨h0,_⟩
  rotate_left
  ·omega
  split at hv
  ·rename_i hin
   subst hin
   split at hv
   ·rename_i hn
    obtain ⟨E',w',v',g1,g2,g3⟩:=appendV_run (t2:=49) (ts:=#[49,49]) hR rfl hfree hv r1 r30
    have fin:∀e w2,e=Ending.returned v'/\w2=w'->∃v' E',e=.returned v'/\Post Tryz.prog base E h w E' h' w2/\VR E' v v':=fun e w2 ⟨q1,q2⟩=>⟨v',E',q1,by rw[q2];exact g2,g3⟩
    cases r1 with
    | sliceNil=>exact (ins_endN _ lz.cb (lz.s+0) cz w w' v' rfl g1).mono fin
    | slice q1 q2 q3 q4=>exact (ins_end _ n _ _ lz.cb (lz.s+0) cz w w' v' q3 (by omega) rfl g1).mono fin
    | sliceEmpty q=>exact (ins_end _ 0 0 _ lz.cb (lz.s+0) cz w w' v' (Nat.le_refl _) (by omega) rfl g1).mono fin
   ·cases hv
  ·split at hv
   ·rename_i hne hc
    obtain ⟨i0,i1,n40,hcap⟩:=hc
    obtain ⟨i,rfl⟩:∃k:Nat,i=k:=⟨i.toNat,by omega⟩
    rw[Int.toNat_natCast] at hv
    split at hv
    ·rename_i b o
     split at hv
     ·rename_i cs ty xs ty2 hk hkv
      split at hv
      ·rename_i hc2
       obtain ⟨rfl,rfl,hbv,hle,hxl,hx1,hc1⟩:=hc2
       simp only[Option.some.injEq,Prod.mk.injEq] at hv
       obtain ⟨rfl,rfl⟩:=hv
       rcases r1.slice_inv with ⟨l,c',e1,e2,e3,e4,rfl⟩ | ⟨h0,_⟩
       rotate_left
       ·omega
       have hin:i<n:=by omega
       have hfr:E h.blks.length=none:=hfree _ (Nat.le_refl _) (by rw[Heap.new_len,Heap.put_len];omega)
       have hsz3:sizeT Tryz.prog 99=some 3:=by kernel_rfl
       have hblk:=hR.blk b _ l hk e1
       have hblz:=hR.blk vb _ lz hkv ez
       have hes:l.es=3:=by have:=hblk.1;simp only at this;rw[hsz3] at this;simpa using this.symm
       have hez:lz.es=3:=by have:=hblz.1;simp only at this;rw[hsz3] at this;simpa using this.symm
       have own:=hblk.2.2 rfl
       have ownz:=hblz.2.2 rfl
       have hcb:lz.cb≠l.cb:=fun e=>hbv (hR.inj b vb _ _ l lz hk hkv e1 ez rfl rfl trivial trivial e.symm)
       have hload:h.loadN b o (n*3)=some ((cs.drop o).take (n*3)):=by
        unfold Heap.loadN Heap.cells?
        simp only[hk]
        rw[if_pos hle]
       have hloadv:h.loadN vb 0 3=some xs:=by
        unfold Heap.loadN Heap.cells?
        simp only[hkv]
        rw[if_pos (by omega),List.drop_zero,List.take_of_length_le (by omega)]
       obtain ⟨row',hr,hcell⟩:=loadN_read hR hload e1
       obtain ⟨xs',hx,hcellx⟩:=loadN_read hR hloadv ez
       have hrl:((cs.drop o).take (n*3)).length=n*3:=by rw[List.length_take,List.length_drop];omega
       have hr'l:row'.length=n*3:=by rw[<-hr.1];exact hrl
       have hx'l:xs'.length=3:=by rw[<-hx.1];exact hxl
       have h1c:∀v∈row',v.oneCell'=true:=hr.all_one hc1
       have h1v:∀v∈xs',v.oneCell'=true:=hx.all_one hx1
       have hcs:∀j v,row'[j]?=some v->w.cell? ⟨l.cb,l.s+o+j,none⟩=some v:=fun j v hj=>by rw[Nat.add_assoc];exact hcell j v hj
       have hvs:∀j v,xs'[j]?=some v->w.cell? ⟨lz.cb,lz.s+0+j,none⟩=some v:=fun j v hj=>by rw[Nat.add_assoc];exact hcellx j v hj
       have htk:(cs.drop o).take (i*3)=((cs.drop o).take (n*3)).take (i*3):=by rw[List.take_take,Nat.min_eq_left (by omega)]
       rw[htk] at hfree ⊢
       clear htk
       generalize hrow:(cs.drop o).take (n*3)=row at *
       rcases Nat.lt_or_ge c' (n+1) with hgrow | hshift
       ·have hG:=grownCap_ge w (n+1) c' 99
        have hsz:=insRow_size w n c' i row' hin hr'l
        have hat:∀j,j<i*3->(insRow w n c' i row')[j]?=row'[j]?:=fun j hj=>insRow_at w n c' i row' hj (by omega)
        refine (ins_grow l.cb (l.s+o) n c' i lz.cb (lz.s+0) cz row' xs' w hin e3 hgrow (by omega) hr'l hx'l hcs hvs h1c h1v).mono ?_
        rintro e w' ⟨rfl,rfl⟩
        generalize hROW:insRow w n c' i row'=ROW at *
        generalize grownCap w (n+1) c' 99=G at *
        have pk:=Post.kill hR hk e1 rfl trivial hblk.1
        have hpl:(h.put b .dead).blks.length=h.blks.length:=Heap.put_len _ _ _
        have hA:∀j,(w.alloc (.cells ROW 99)).drew.cell? ⟨w.heap.size,j,none⟩=ROW[j]?:=fun j=>World.cell?_alloc_at (w:=w) ROW _ w.heap.size j rfl
        have hAs:∀j,j<G*3->((w.alloc (.cells ROW 99)).drew.cell? ⟨w.heap.size,j,none⟩).isSome=true:=fun j hj=>by
         rw[hA,Array.getElem?_eq_getElem (by omega)];rfl
        have hd:(row'.drop (i*3)).length=(n-i)*3:=by rw[List.length_drop,hr'l,Nat.sub_mul]
        have hs2:∀j,j<xs'.length->((w.alloc (.cells ROW 99)).drew.cell? ⟨w.heap.size,i*3+j,none⟩).isSome=true:=fun j hj=>hAs _ (by omega)
        have hs1:∀j,j<(row'.drop (i*3)).length->(((w.alloc (.cells ROW 99)).drew.setCells w.heap.size (i*3) xs').drew.cell? ⟨w.heap.size,(i+1)*3+j,none⟩).isSome=true:=fun j hj=>by
         show (((w.alloc (.cells ROW 99)).drew.setCells w.heap.size (i*3) xs').cell? ⟨w.heap.size,(i+1)*3+j,none⟩).isSome=true
         rw[set_out (.inr (by omega))]
         exact hAs _ (by omega)
        have pw:Pushed w ((((w.alloc (.cells ROW 99)).drew.setCells w.heap.size (i*3) xs').drew).setCells w.heap.size ((i+1)*3) (row'.drop (i*3))):=
         (alloc_pushed w _).wr ((((drew_wrote _ _).tr (setCells_far _ _ _ _)).tr (drew_wrote _ _)).tr (setCells_far _ _ _ _))
        have hh:(w.alloc (.cells ROW 99)).drew.heap[w.heap.size]?=some (.cells ROW 99 (0,0)):=by
         show (w.heap.push (.cells ROW 99))[w.heap.size]?=_
         simp
        obtain ⟨c2,q2,s2⟩:=setCells_block w.heap.size xs' (i*3) _ hh
        obtain ⟨c3,q3,s3⟩:=setCells_block w.heap.size (row'.drop (i*3)) ((i+1)*3) (((w.alloc (.cells ROW 99)).drew.setCells w.heap.size (i*3) xs').drew) q2
        have p2:=Post.new pk.rel (by rw[hpl];exact hfr) (.cells (row.take (i*3)++(xs++row.drop (i*3)))) 99 ⟨w.heap.size,0,G*3,3⟩ rfl pw ⟨hsz3,by
         refine ins_blk hr hx (by omega) hxl (fun j v hj hv=>?_) (fun j v hv=>?_) (fun j v hv=>?_)
         ·rw[Nat.zero_add,set_out (.inl (by omega))]
          show ((w.alloc (.cells ROW 99)).drew.setCells w.heap.size (i*3) xs').cell? _=_
          rw[set_out (.inl hj),hA,hat j hj]
          exact hv
         ·have hj:=(List.getElem?_eq_some_iff.1 hv).1
          rw[Nat.zero_add,set_out (.inl (by omega))]
          exact set_in hs2 hv
         ·rw[Nat.zero_add]
          exact set_in hs1 hv,fun _=>⟨c3,_,0,0,q3,by rw[s3,s2,hsz],hsz3,.inl rfl⟩⟩
        have p3:=pk.trans p2 (Grow.put hk trivial _ rfl) (Grow.new _ _ _ (by simp[Body.kind])) (by intro x hx hx';exact hfree x hx hx')
        refine ⟨_,_,rfl,p3,?_⟩
        rw[hpl]
        have:=VR.slice (E:=E.upd h.blks.length ⟨w.heap.size,0,G*3,3⟩) (b:=h.blks.length) (o:=0) (n:=n+1) (c:=UNK) (c':=G) (Env.upd_same _ _ _) (.inl rfl) hG (fun _=>by simp)
        simpa using this
       ·
        have hU:c=UNK:=by
         rcases e2 with e | ⟨e,_⟩
         ·exact e
         ·rcases hcap with e' | e'
          ·exact e'
          ·omega
        have hb4:=e4 hU
        rw[hes] at hb4
        have hroom:l.s+o+(n+1)*3<=l.sz:=by
         have:(n+1)*3<=c'*3:=Nat.mul_le_mul_right _ hshift
         omega
        obtain ⟨tA,hsa⟩:=own_shape ownz
        obtain ⟨tB,hsb⟩:=own_shape own
        have hsp:∀j,j<(n+1)*3->(w.cell? ⟨l.cb,l.s+o+j,none⟩).isSome=true:=fun j hj=>own_cell own (by omega)
        refine (ins_shift l.cb (l.s+o) n c' i lz.cb (lz.s+0) cz row' xs' w hin (by omega) hshift hcb hr'l hx'l hcs hsp (fun j _=>own_frz own hes _) hvs h1c h1v tA tB lz.sz l.sz hsa hsb (by omega) (own_frz ownz hez _) (own_frz ownz hez _)).mono ?_
        rintro e w' ⟨rfl,rfl⟩
        have hd:(row'.drop (i*3)).length=(n-i)*3:=by rw[List.length_drop,hr'l,Nat.sub_mul]
        have hs1:∀j,j<(row'.drop (i*3)).length->(w.drew.cell? ⟨l.cb,l.s+o+(i+1)*3+j,none⟩).isSome=true:=fun j hj=>by
         rw[Nat.add_assoc (l.s+o)];exact hsp _ (by omega)
        have hs2:∀j,j<xs'.length->((w.drew.setCells l.cb (l.s+o+(i+1)*3) (row'.drop (i*3))).cell? ⟨l.cb,l.s+o+i*3+j,none⟩).isSome=true:=fun j hj=>by
         rw[set_out (.inl (by omega)),Nat.add_assoc (l.s+o)];exact hsp _ (by omega)
        refine ⟨_,_,rfl,Post.alias hR hfr hk e1 rfl trivial hblk.1 _ _ ⟨l.cb,l.s+o,l.sz,3⟩ rfl (((drew_wrote _ _).tr (setCells_far _ _ _ _)).tr (setCells_far _ _ _ _)) ⟨hsz3,?_,fun _=>?_⟩,?_⟩
        ·refine ins_blk hr hx (by omega) hxl (fun j v hj hv=>?_) (fun j v hv=>set_in hs2 hv) (fun j v hv=>?_)
         ·show ((w.drew.setCells l.cb (l.s+o+(i+1)*3) (row'.drop (i*3))).setCells l.cb (l.s+o+i*3) xs').cell? ⟨l.cb,l.s+o+j,none⟩=some v
          rw[set_out (.inl (by omega)),set_out (.inl (by omega))]
          exact hcs j v hv
         ·show ((w.drew.setCells l.cb (l.s+o+(i+1)*3) (row'.drop (i*3))).setCells l.cb (l.s+o+i*3) xs').cell? ⟨l.cb,l.s+o+(i+1)*3+j,none⟩=some v
          rw[set_out (.inr (by rw[hx'l];omega))]
          exact set_in hs1 hv
        ·obtain ⟨c1,ee,lo,hi,hh,hsz,_,hfz⟩:=own
         obtain ⟨c2,q2,s2⟩:=setCells_block l.cb (row'.drop (i*3)) (l.s+o+(i+1)*3) w.drew hh
         obtain ⟨c3,q3,s3⟩:=setCells_block l.cb xs' (l.s+o+i*3) _ q2
         exact ⟨c3,ee,lo,hi,q3,by rw[s3,s2,hsz],hsz3,by show lo=hi\/l.sz<=lo/\3=1;rw[<-hes];exact hfz⟩
        ·have:=VR.slice (E:=E.upd h.blks.length ⟨l.cb,l.s+o,l.sz,3⟩) (b:=h.blks.length) (o:=0) (n:=n+1) (c:=UNK) (c':=c') (Env.upd_same _ _ _) (.inl rfl) hshift (fun _=>by simpa using hb4)
         simpa using this
      ·cases hv
     ·cases hv
    ·cases hv
   ·cases hv
 ·cases hv
end Go.Am
