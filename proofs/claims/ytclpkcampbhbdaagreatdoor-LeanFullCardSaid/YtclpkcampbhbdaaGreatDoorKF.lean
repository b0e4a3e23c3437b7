/- What the functions answer, in the machine. -/
import Derived.Test.YtclpkcampbhbdaaGreatDoorKE
set_option linter.all false
namespace Go.Am
open Go.Proofs
set_option maxRecDepth 100000
set_option linter.all false
attribute [local congr] zAf zAq zAr zAs zAj zAg
def KpB (h h':Heap):Prop:=h.blks.length<=h'.blks.length/\∀p ty cs,Cells h p ty cs->ty≠35->Cells h' p ty cs
theorem KpB.acc {h h':Heap} {n0:Nat} {elem:TypeId} {es n:Nat} {v:Value} {cs:List Value} (k:KpB h h') (a:Acc n0 h elem es v n cs) (ht:elem≠35):Acc n0 h' elem es v n cs:=a.keep fun b _ hb=>by
 obtain ⟨all,h1⟩:=a.blk hb
 exact (k.2 b elem all h1 ht).trans h1.symm
theorem Same.kp {h h':Heap} (s:Same h h'):KpB h h':=⟨s.1,fun _ _ _ c _=>c.same s⟩
theorem KpB.trans {a b c:Heap} (h:KpB a b) (k:KpB b c):KpB a c:=⟨Nat.le_trans h.1 k.1,fun p ty cs x ht=>k.2 p ty cs (h.2 p ty cs x ht) ht⟩
theorem LEn.kp {h h':Heap} {p s:Nat} {n me:Int} {num:Nat} {es:List E3} {ns:List Nat} (l:LEn h p s n me num es ns) (k:KpB h h'):LEn h' p s n me num es ns:=
 let ⟨la,lc,a,b⟩:=l.eng
 ⟨⟨la,lc,k.2 _ _ _ a (by decide),k.acc b (by decide)⟩,k.2 _ _ _ l.seen (by decide),l.len⟩
theorem HMod.lEn {S:Nat->Prop} {h h':Heap} {p s:Nat} {n me:Int} {num:Nat} {es:List E3} {ns:List Nat} (l:LEn h p s n me num es ns) (m:HMod S h h') (hp:¬S p) (hs:¬S s) (ht:∀b all,h.blks[b]?=some ⟨.cells all,99,true⟩->¬S b):LEn h' p s n me num es ns:=
 let ⟨la,lc,a,b⟩:=l.eng
 ⟨⟨la,lc,(m.old p a.lt hp).trans a,b.keep fun q hq hb=>by obtain ⟨all,h1⟩:=b.blk hb;exact m.old q hq (ht q all h1)⟩,(m.old s l.seen.lt hs).trans l.seen,l.len⟩
def rowF (es:List E3) (t:Nat) (d:Nat):List UInt8:=putE (purgeE (lessE es (outB t (ofN (d:Int)))))
theorem purgeL_sub':∀l:List E3,(zBr l).Sublist l
 | []=>.slnil
 | [e]=>List.Sublist.refl _
 | e::e'::l=>by
  rw[purgeL_two]
  split
  ·exact (purgeL_sub' (e'::l)).cons_cons e
  ·exact (purgeL_sub' (e'::l)).cons e
theorem purgeE_sub (l:List E3):(purgeE l).Sublist l:=by
 unfold purgeE
 split
 ·exact purgeL_sub' l
 ·exact List.Sublist.refl _
theorem wide_purge {l:List E3} (w:wide l):wide (purgeE l):=fun e he=>w e ((purgeE_sub l).subset he)
theorem logN {h:Heap} {p:Nat} {ty:TypeId} {a b c d e:Value} (g:Cells h p ty [a,b,c,d,e]):(h.loadN p 2 1).map (fun cs=>Value.agg cs.toArray)=some (.agg #[c]):=by
 rw[loadN_own g (by simp)];rfl
theorem si_at {h:Heap} {v:Value} {ns:List Nat} (s:SI h v ns) {i:Nat} (hi:i<ns.length) :
  ∃a,zAh Tryz.prog 68 v (.int .i64 i)=some (.pointer (some a))/\zAw Tryz.prog 3 (.pointer (some a)) h=some (.int .i64 (ns[i]:Nat)):=by
 obtain ⟨a,e1,e2,_⟩:=s.row.at1 etI.under etI.size (by kernel_rfl) hi .i64
 rw[List.getElem?_map,List.getElem?_eq_getElem hi] at e2
 exact ⟨a,e1,e2⟩
theorem send_loopL {h0:Heap} {p s:Nat} {n me:Int} {num:Nat} {es:List E3} {ns:List Nat} {ds:List Nat} {dv:Value} {t:Nat} (hw:wide es) (hl:es.length<2^30) (ht:t<2^64) (hd:ds.length<=64) {S:Nat->Prop} {Q:Option (Value × Heap)->Prop}
  (hk:∀(x':Nat->Value) (h':Heap) (ov':Value),In h0.blks.length S (nm h0) h'->LEn h' p s n me num es ns->ABs h0.blks.length h' ov' (ds.map (rowF es t))->x' 0=.pointer (some ⟨p,0,none⟩)->x' 1=.int .u64 t->x' 5=ov'->Q (cK c7_2 71 x' h' (zBb Tryz.f7 Tryz.prog h0))) :
  ∀(m i:Nat),ds.length-i=m->i<=ds.length->∀(x:Nat->Value) (h:Heap) (ov:Value),In h0.blks.length S (nm h0) h->LEn h p s n me num es ns->AI h0.blks.length h dv ds->ABs h0.blks.length h ov ((ds.take i).map (rowF es t))->
  x 0=.pointer (some ⟨p,0,none⟩)->x 1=.int .u64 t->x 5=ov->x 30=dv->x 31=.int .i64 ds.length->x 32=.int .i64 i->
  Q (lK c7_1 71 x h (zAu 0 (sK c7_2 (zBb Tryz.f7 Tryz.prog h0)))):=by
 intro m
 induction m with
 | zero=>
  intro i e1 e2 x h ov hin l ad ab Aa Ab Af Bg Bh Bi
  obtain rfl:i=ds.length:=by omega
  rw[List.take_length] at ab
  rw[lK_eq]
  have dl:decide (((ds.length:Nat):Int)<ds.length)=false:=decide_eq_false (by omega)
  simp -implicitDefEqProofs (disch:=omega) only[↓c7_1_eq,Bh,Bi,dl,↓zAc,↓zAb,↓Option.bind_some,↓zAa,sxB,Nat.reduceBEq]
  exact hk _ h ov hin l ab Aa Ab Af
 | succ m ih=>
  intro i hm hi x h ov hin l ad ab Aa Ab Af Bg Bh Bi
  have hil:i<ds.length:=by omega
  have dl:decide (((i:Nat):Int)<ds.length)=true:=decide_eq_true (by omega)
  obtain ⟨da,f1,f2⟩:=si_at (ad.sl etI.size) hil
  obtain ⟨la,lc,ce,ae⟩:=l.eng
  have lA:=logN ce
  obtain ⟨a2,c2,h2,q2,y2,r2⟩:=spec_But ae.se hw (by omega) t ht (ds[i]:Int)
  have ll:(lessE es (outB t (ofN (ds[i]:Int)))).length=es.length:=lessE_len _ _
  have q2':evC Tryz.prog 35 #[.agg #[.slice la es.length lc],.int .u64 t,.int .i64 (ds[i]:Int)] h=some (.agg #[.slice a2 (lessE es (outB t (ofN (ds[i]:Int)))).length c2],h2):=by rw[ll];exact q2
  have r2':AE h.blks.length h2 (.slice a2 (lessE es (outB t (ofN (ds[i]:Int)))).length c2) (lessE es (outB t (ofN (ds[i]:Int)))):=by
   rw[show (Value.slice a2 (lessE es (outB t (ofN (ds[i]:Int)))).length c2)=.slice a2 es.length c2 by rw[ll]];exact r2
  obtain ⟨a3,c3,h3,q3,y3,r3⟩:=spec_Purge r2'.se (wide_lessE hw) (by omega)
  have pl:(purgeE (lessE es (outB t (ofN (ds[i]:Int))))).length<=es.length:=by
   have:=(purgeE_sub (lessE es (outB t (ofN (ds[i]:Int))))).length_le
   omega
  obtain ⟨a4,c4,h4,q4,y4,r4⟩:=spec_Put18 (AE.se r3) (wide_purge (wide_lessE hw)) (by omega)
  have z4:=(y2.same.trans y3.same).trans y4.same
  have hlen4:=z4.1
  have ab4:=ab.same z4
  have hn:h0.blks.length<=h.blks.length:=Nat.le_trans hin.le hin.len
  have r4':AB h0.blks.length h4 (.slice a4 (rowF es t ds[i]).length c4) (rowF es t ds[i]):=Acc.up r4 (by have:=y2.len;have:=y3.len;omega)
  obtain ⟨vs,abv⟩:=ab4
  have bs:=mkBs1 a4 (rowF es t ds[i]).length c4 h4
  obtain ⟨a5,c5,h5,q5,ab5,k5,o5⟩:=abv.app (by omega) r4' (by rw[List.length_map,List.length_take];omega)
  have kb:KpB h4 h5:=⟨k5.len,o5⟩
  have hin5:=(((hin.trans (y2.inn hn)).trans (y3.inn (by have:=y2.len;omega))).trans (y4.inn (by have:=y2.len;have:=y3.len;omega))).trans (Keeps.inn (S:=S) k5)
  have hmap:(ds.take i).map (rowF es t)++[rowF es t ds[i]]=(ds.take (i+1)).map (rowF es t):=by
   rw[List.take_succ,List.getElem?_eq_getElem hil,List.map_append];rfl
  rw[hmap] at q5 ab5
  have wi:IntKind.i64.wrap ((i:Int)+1)=((i+1:Nat):Int):=by rw[wrap_i64]<;>omega
  rw[lK_eq]
  have q4':evC Tryz.prog 33 #[.agg #[.slice a3 (purgeE (lessE es (outB t (ofN (ds[i]:Int))))).length c3]] h3=some (.slice a4 (rowF es t ds[i]).length c4,h4):=q4
  simp -implicitDefEqProofs (disch:=omega) only[↓c7_1_eq,Aa,Ab,Af,Bg,Bh,Bi,dl,f1,f2,zAt,faLn2,ldLo,lA,q2',q3,q4',bs,q5,wi,↓zAc,↓zAb,↓Option.bind_some,↓zAa,sxB,Nat.reduceBEq]
  refine ih (i+1) (by omega) (by omega) _ h5 _ hin5 ((l.same z4).kp kb) (kb.acc (ad.same z4) (by decide)) ab5 ?_ ?_ ?_ ?_ ?_ ?_
  ·exact Aa
  ·exact Ab
  ·rfl
  ·exact Bg
  ·exact Bh
  ·rfl
def sendT (n:Nat) (me:Int) (to:Nat):Nat:=to &&& outB (allN n) (ofN me)
def sendLog (es:List E3) (me:Int) (num t:Nat):List E3:=purgeE (addE (lessE es t) ⟨me,num+1,t⟩)
theorem allN_lt (n:Nat) (hn:n<64):allN n<2^64:=by
 unfold allN
 have:2^n<2^64:=Nat.pow_lt_pow_right (by omega) hn
 omega
theorem mem_addE {es:List E3} {x e:E3} (h:e∈addE es x):e∈es\/e=x:=by
 unfold addE at h
 split at h
 ·split at h
  ·exact (List.mem_or_eq_of_mem_set h)
  ·unfold insE at h
   rcases List.mem_append.1 h with h | h
   ·exact .inl (List.mem_of_mem_take h)
   ·rcases List.mem_cons.1 h with h | h
    ·exact .inr h
    ·exact .inl (List.mem_of_mem_drop h)
 ·exact .inl h
theorem addE_len (es:List E3) (x:E3):(addE es x).length<=es.length+1:=by
 unfold addE
 split
 ·split
  ·rw[List.length_set];omega
  ·unfold insE
   rw[List.length_append,List.length_cons,List.length_take,List.length_drop];omega
 ·omega
theorem spec_Send {h:Heap} {p s:Nat} {n:Nat} {me:Int} {num:Nat} {es:List E3} {ns:List Nat} (l:LEn h p s n me num es ns) (hn:n<=16) (hw:wide es) (hl:es.length<2^29) (hnum:num+1<2^64) (to:Nat) (hto:to<2^64) (hps:p≠s)
  (hins:InsOk (lessE es (sendT n me to)) ⟨me,num+1,sendT n me to⟩) :
  ∃v h',evC Tryz.prog 7 #[.pointer (some ⟨p,0,none⟩),.int .u64 to] h=some (v,h')/\HMod (Just p) h h'/\LEn h' p s n me (num+1) (sendLog es me num (sendT n me to)) ns/\ABs h.blks.length h' v ((listW (sendT n me to)).map (rowF es (sendT n me to))):=by
 rw[call7]
 have l0:=l.same (sameNm h)
 obtain ⟨la,lc,ce,ae⟩:=l0.eng
 have hph:p<h.blks.length:=ce.lt
 have m0:(nm h).load1 p 0=some (.int .i64 n):=ce.load 0
 have m1:(nm h).load1 p 1=some (.int .i64 me):=ce.load 1
 have w1:=fun h=>spec_All n (by omega) h
 have c9:=Cells.new (nm h) 3 [.int .i64 me]
 have q9:=spec_Of1 (c:=1) c9
 have e9:=ce.keepNew (.cells [.int .i64 me]) 3
 have k9:In h.blks.length (Just p) (nm h) ((nm h).new (.cells [.int .i64 me]) 3):=In.new (h:=nm h) (Nat.le_refl h.blks.length) _ _
 have l9:=l0.same (Same.new (nm h) (.cells [.int .i64 me]) 3)
 have b9:=mkI1 me (nm h)
 generalize hh9:(nm h).new (.cells [.int .i64 me]) 3=h9 at c9 q9 e9 k9 l9 b9
 have m3:h9.load1 p 3=some (.int .u64 num):=e9.load 3
 have st:=zAp e9 (o:=3) (vs:=[.int .u64 ((num+1:Nat):Int)]) (by simp)
 simp only[List.take_succ_cons,List.take_zero,List.nil_append,List.append_nil,List.length_cons,List.length_nil,List.drop_succ_cons,List.drop_zero,Nat.zero_add,Nat.reduceAdd,List.drop_nil,List.cons_append,List.singleton_append] at st
 have k10:=k9.trans (In.put (S:=Just p) (Nat.le_trans k9.le k9.len) (p:=p) (.inr rfl) (.cells [.int .i64 n,.int .i64 me,.slice la es.length lc,.int .u64 ((num+1:Nat):Int),.slice (some ⟨s,0,none⟩) ns.length ns.length]))
 have d10:=e9.put [.int .i64 n,.int .i64 me,.slice la es.length lc,.int .u64 ((num+1:Nat):Int),.slice (some ⟨s,0,none⟩) ns.length ns.length]
 have ae9:AE 0 h9 (.slice la es.length lc) es:=by rw[<-hh9];exact ae.keep fun b hb _=>Heap.new_old hb
 have hb:zAn (.slice la es.length lc)≠some p:=fun e=>by
  obtain ⟨all,h1⟩:=Acc.blk ae9 e
  unfold Cells at e9
  rw[e9] at h1
  simp only[Option.some.injEq,Blk.mk.injEq] at h1
  exact absurd h1.2.1 (by decide)
 have l10:LEn (h9.put p (.cells [.int .i64 n,.int .i64 me,.slice la es.length lc,.int .u64 ((num+1:Nat):Int),.slice (some ⟨s,0,none⟩) ns.length ns.length])) p s n me (num+1) es ns:=
  ⟨⟨la,lc,d10,ae9.keepPut hb _⟩,l9.seen.keepPut (by omega) _,l.len⟩
 generalize hh10:h9.put p (.cells [.int .i64 n,.int .i64 me,.slice la es.length lc,.int .u64 ((num+1:Nat):Int),.slice (some ⟨s,0,none⟩) ns.length ns.length])=h10 at st k10 l10
 have ht:sendT n me to<2^64:=Nat.lt_of_le_of_lt Nat.and_le_left hto
 obtain ⟨a11,c11,h11,q11,Al,r11⟩:=spec_List (sendT n me to) ht h10
 have n10:h.blks.length<=h10.blks.length:=Nat.le_trans k10.le k10.len
 have k11:=k10.trans (Al.inn (S:=Just p) n10)
 have an:=fun t xo yo=>anS t xo yo (allN n) (ofN me) (allN_lt n (by omega)) (ofN_lt me)
 have aa:=fun t xo yo=>anU t xo yo to (outB (allN n) (ofN me)) hto (outB_lt (allN_lt n (by omega)))
 have wn:IntKind.u64.wrap ((num:Int)+1)=((num+1:Nat):Int):=by rw[wrap_u64]<;>omega
 have lnI:∀h,lenV Tryz.prog 68 (.slice a11 (listW (sendT n me to)).length c11) h=some (.int .i64 (listW (sendT n me to)).length):=fun h=>by kernel_rfl
 have e0:(nm h).blks.length=h.blks.length:=rfl
 rw[e0] at b9 q9
 have aa':∀t xo yo,zBk Tryz.prog .and t xo yo (.int .u64 to) (.int .u64 ((outB (allN n) (ofN me):Nat):Int))=some (.int .u64 ((sendT n me to:Nat):Int)):=aa
 simp -implicitDefEqProofs (disch:=omega) only[↓c7_0_eq,zAt,faLn0,faLn1,faLn3,ldI,m0,w1,am_nm,nm_mods,List.nil_append,List.append_nil,m1,b9,q9,an,aa',chk_nil_r,ldU,m3,wn,vst64,st,q11,lnI,↓zAc,↓zAb,↓Option.bind_some,↓zAa,sxB,Nat.reduceBEq]
 refine send_loopL (h0:=h) (S:=Just p) (Q:=fun r=>∃v h',r=some (v,h')/\HMod (Just p) h h'/\LEn h' p s n me (num+1) (sendLog es me num (sendT n me to)) ns/\ABs h.blks.length h' v ((listW (sendT n me to)).map (rowF es (sendT n me to)))) (t:=sendT n me to) hw (by omega) ht (listW_len _ ht) ?_ (listW (sendT n me to)).length 0 (by omega) (by omega) _ h11 _ k11 (l10.same Al.same) (Acc.up r11 n10) ⟨[],.nil,.nil⟩ ?_ ?_ ?_ ?_ ?_ ?_
 ·intro x h12 ov k12 l12 ab12 y0 y1 y5
  have h12n:h.blks.length<=h12.blks.length:=Nat.le_trans k12.le k12.len
  obtain ⟨la',lc',ce',ae'⟩:=l12.eng
  have lA:=logN ce'
  obtain ⟨a13,c13,h13,q13,Ao,r13⟩:=spec_Less (h:=nm h12) (to:=sendT n me to) (Sl.nm ae'.se) hw (by omega) ht
  obtain ⟨Ao',m13⟩:=Ao.amx
  have k13:=k12.trans (Ao'.inn (S:=Just p) h12n)
  have n13:=Ao'.len
  have ce13:=ce'.ext Ao'
  have m1':(am h13 h12).load1 p 1=some (.int .i64 me):=ce13.load 1
  have m3':(am h13 h12).load1 p 3=some (.int .u64 ((num+1:Nat):Int)):=ce13.load 3
  have s13:SE (am h13 h12) (.slice a13 es.length c13) (lessE es (sendT n me to)):=Sl.keep (h':=am h13 h12) (AE.se r13) fun _ _ _=>rfl
  have wl:=wide_lessE (to:=sendT n me to) hw
  have ll:(lessE es (sendT n me to)).length=es.length:=lessE_len _ _
  obtain ⟨a14,c14,h14,q14,Ap,r14⟩:=spec_Add s13 wl (by omega) ⟨me,num+1,sendT n me to⟩ ht hins
  have wa:wide (addE (lessE es (sendT n me to)) ⟨me,num+1,sendT n me to⟩):=fun e he=>by
   rcases mem_addE he with he | rfl
   ·exact wl e he
   ·exact ⟨hnum,ht⟩
  have al:=addE_len (lessE es (sendT n me to)) ⟨me,num+1,sendT n me to⟩
  obtain ⟨a15,c15,h15,q15,Aq,r15⟩:=spec_Purge r14.se wa (by omega)
  have n14:=Ap.len
  have n15:=Aq.len
  have k15:=(k13.trans (Ap.inn (S:=Just p) (by omega))).trans (Aq.inn (S:=Just p) (by omega))
  have ce15:=(ce13.ext Ap).ext Aq
  have st16:=zAp ce15 (o:=2) (vs:=[.slice a15 (sendLog es me num (sendT n me to)).length c15]) (by simp)
  simp only[List.take_succ_cons,List.take_zero,List.nil_append,List.append_nil,List.length_cons,List.length_nil,List.drop_succ_cons,List.drop_zero,Nat.zero_add,Nat.reduceAdd,List.drop_nil,List.cons_append,List.singleton_append] at st16
  have d16:=ce15.put [.int .i64 n,.int .i64 me,.slice a15 (sendLog es me num (sendT n me to)).length c15,.int .u64 ((num+1:Nat):Int),.slice (some ⟨s,0,none⟩) ns.length ns.length]
  have k16:=k15.trans (In.put (S:=Just p) (Nat.le_trans k15.le k15.len) (p:=p) (.inr rfl) (.cells [.int .i64 n,.int .i64 me,.slice a15 (sendLog es me num (sendT n me to)).length c15,.int .u64 ((num+1:Nat):Int),.slice (some ⟨s,0,none⟩) ns.length ns.length]))
  have sm:=(Ao'.same.trans Ap.same).trans Aq.same
  have rl:AE 0 (h15.put p (.cells [.int .i64 n,.int .i64 me,.slice a15 (sendLog es me num (sendT n me to)).length c15,.int .u64 ((num+1:Nat):Int),.slice (some ⟨s,0,none⟩) ns.length ns.length])) (.slice a15 (sendLog es me num (sendT n me to)).length c15) (sendLog es me num (sendT n me to)):=
   Acc.keepPut (Acc.up r15 (Nat.zero_le _)) (fun e=>by have:=Acc.ge r15 e;omega) _
  have q14':evC Tryz.prog 36 #[.agg #[.slice a13 es.length c13],.agg #[.int .i64 me,.int .u64 ((num+1:Nat):Int),.int .u64 ((sendT n me to:Nat):Int)]] (am h13 h12)=some (.agg #[.slice a14 (addE (lessE es (sendT n me to)) ⟨me,num+1,sendT n me to⟩).length c14],h14):=q14
  have q15':evC Tryz.prog 34 #[.agg #[.slice a14 (addE (lessE es (sendT n me to)) ⟨me,num+1,sendT n me to⟩).length c14]] h14=some (.agg #[.slice a15 (sendLog es me num (sendT n me to)).length c15],h15):=q15
  refine ⟨ov,_,?_,done_mod k16,⟨⟨a15,c15,d16.done,rl.done⟩,((l12.seen.same sm).keepPut (by omega) _).done,l.len⟩,((ab12.same sm).put ce15 (by decide) (by decide) _).same ⟨Nat.le_refl _,fun _ _=>rfl⟩⟩
  simp -implicitDefEqProofs (disch:=omega) only[↓c7_2_eq,y0,y1,y5,zAt,faLn1,faLn2,faLn3,ldLo,lA,q13,m13,ldI,ldU,m1',m3',bdE3,q14',q15',stLo,st16,List.nil_append,List.append_nil,chk_nil_r,↓ret7,↓zAc,↓zAb,↓Option.bind_some,↓zAa,sxB,Nat.reduceBEq]
 all_goals rfl
end Go.Am
namespace Go.Am
open Go.Proofs
set_option maxRecDepth 100000
set_option linter.all false
attribute [local congr] zAf zAq zAr zAs zAj zAg
theorem iaV (s n c j:Nat) (hj:j<n):zAh Tryz.prog 45 (.slice (some ⟨s,0,none⟩) n c) (.int .i64 j)=some (.pointer (some ⟨s,j,none⟩)):=by
 unfold zAh
 simp only[etV.under,zBq,etV.size,if_pos hj,Nat.zero_add,Nat.mul_one]
theorem map_set (ns:List Nat) (j:Nat) (hj:j<ns.length) (k:Nat):(ns.map u64V).take j++[.int .u64 (k:Int)]++(ns.map u64V).drop (j+1)=(ns.set j k).map u64V:=by
 apply List.ext_getElem?
 intro i
 simp only[List.getElem?_append,List.length_append,List.length_take,List.length_map,List.length_singleton,List.getElem?_take,List.getElem?_map,List.getElem?_drop,List.getElem?_set]
 rw[Nat.min_eq_left (by omega)]
 by_cases h1:i<j
 ·rw[if_pos (by omega),if_pos h1,if_pos h1,if_neg (by omega)]
 ·by_cases h2:i=j
  ·subst h2
   rw[if_pos (by omega),if_neg (by omega),if_pos rfl,if_pos hj,Nat.sub_self]
   rfl
  ·rw[if_neg (by omega),if_neg (by omega),show j+1+(i-(j+1))=i by omega]
theorem joinE_len (es fs:List E3):(joinE es fs).length<=es.length+fs.length+es.length:=by
 unfold joinE
 split
 ·rw[srtE_len,List.length_append,List.length_append]
  have a:=List.length_filter_le (fun x=>!bsF fs x && decide ((getM (lastM fs) x.f).getD 0<x.n)) es
  have b:=List.length_filter_le (fun x=>!bsF es x && decide ((getM (lastM es) x.f).getD 0<x.n)) fs
  have c:=List.length_filterMap_le (bothF fs) es
  unfold newsE bothE
  omega
 ·omega
def takeLog (es:List E3) (me fr:Int) (k to:Nat) (g:List E3):List E3:=purgeE (lessE (joinE es (lessE (addE g ⟨fr,k,to⟩) (ofN me))) (ofN me))
theorem newLogT {h:Heap} {a:Option Addr} {c n:Nat} {es:List E3} (s:SE h (.slice a n c) es):∃hB,(h.new (.cells [.slice none 0 0]) 51).storeN h.blks.length 0 [.slice a n c]=some hB/\Same h hB/\(∀ {h':Heap},Same hB h'->(h'.loadN h.blks.length 0 1).map (fun cs=>Value.agg cs.toArray)=some (.agg #[.slice a n c]))/\SE hB (.slice a n c) es/\(∀S n0,n0<=h.blks.length->In n0 S h hB)/\hB.load1 h.blks.length 0=some (.slice a n c):=by
 have d:=Cells.new h 51 [.slice none 0 0]
 have st:=zAp d (o:=0) (vs:=[.slice a n c]) (by simp)
 simp only[List.take_zero,List.nil_append,List.append_nil,List.length_cons,List.length_nil,List.drop_succ_cons,List.drop_zero,Nat.zero_add] at st
 have g:=d.put [.slice a n c]
 exact ⟨_,st,same_np _ _ _ _,fun hs=>by rw[(g.same hs).loadN (n:=1) rfl];rfl,(Sl.keepNew s _ _).keepPut (fun e=>by have:=Sl.lo s _ e;omega) _,fun S n0 hn=>(In.new hn _ _).trans (In.put (by simp[Heap.new];omega) (.inl hn) _),g.load 0⟩
theorem spec_Take {h:Heap} {p s:Nat} {n:Nat} {me:Int} {num:Nat} {es:List E3} {ns:List Nat} (l:LEn h p s n me num es ns) (hn:n<=16) (hnl:ns.length=n) (hw:wide es) (hl:es.length<2^28) (hps:p≠s) (fr:Int) (k to:Nat) (hk:k<2^64) (hto:to<2^64) {v:Value} {bs:List UInt8} (sb:SB h v bs) (hbs:bs.length<2^26)
  (hbp:zAn v≠some p) (hbs':zAn v≠some s) {g:List E3} (hg:getP bs=some g) (hc:canE n me ns fr k bs=true) (hins:InsOk g ⟨fr,k,to⟩) :
  ∃h',evC Tryz.prog 9 #[.pointer (some ⟨p,0,none⟩),.int .i64 fr,.int .u64 k,.int .u64 to,v] h=some (.bool true,h')/\HMod (fun b=>b=p\/b=s) h h'/\LEn h' p s n me num (takeLog es me fr k to g) (ns.set fr.toNat k):=by
 rw[call9]
 have hfr:0<=fr/\fr<n:=by
  unfold canE at hc
  rw[hg] at hc
  simp only at hc
  split at hc
  ·cases hc
  ·omega
 obtain ⟨j,rfl⟩:∃j:Nat,fr=j:=⟨fr.toNat,by omega⟩
 rw[Int.toNat_natCast]
 have l0:=l.same (sameNm h)
 obtain ⟨h1,q1,Ab⟩:=spec_Can l0 (j:Int) k sb.nm (by omega)
 rw[hc] at q1
 have l1:=l0.same Ab.same
 have sb1:=sb.nm.ext Ab
 have kk1:In h.blks.length (fun b=>b=p\/b=s) (nm h) h1:=Ab.inn (Nat.le_refl h.blks.length)
 obtain ⟨la,lc,ce,ae⟩:=l1.eng
 have m4:h1.load1 p 4=some (.slice (some ⟨s,0,none⟩) ns.length ns.length):=ce.load 4
 have st2:=zAp l1.seen (o:=j) (vs:=[.int .u64 (k:Int)]) (by simp;omega)
 rw[List.length_singleton,map_set ns j (by omega) k] at st2
 have d2:=l1.seen.put ((ns.set j k).map u64V)
 have ce2:=ce.keepPut (q:=s) hps.symm (.cells ((ns.set j k).map u64V))
 have hbl:zAn (.slice la es.length lc)≠some s:=fun e=>by
  obtain ⟨all,h1'⟩:=Acc.blk ae e
  have:=l1.seen
  unfold Cells at this
  rw[this] at h1'
  simp only[Option.some.injEq,Blk.mk.injEq] at h1'
  exact absurd h1'.2.1 (by decide)
 have ae2:=ae.keepPut hbl (.cells ((ns.set j k).map u64V))
 have sb2:=Sl.keepPut sb1 hbs' (.cells ((ns.set j k).map u64V))
 have kk2:=kk1.trans (In.put (S:=fun b=>b=p\/b=s) (Nat.le_trans kk1.le kk1.len) (p:=s) (.inr (.inr rfl)) (.cells ((ns.set j k).map u64V)))
 generalize hh2:h1.put s (.cells ((ns.set j k).map u64V))=h2 at st2 d2 ce2 ae2 sb2 kk2
 have n2:h.blks.length<=h2.blks.length:=Nat.le_trans kk2.le kk2.len
 have m1:h2.load1 p 1=some (.int .i64 me):=ce2.load 1
 have q3:=spec_Of1 (c:=1) (Cells.new h2 3 [.int .i64 me])
 have b3:=mkI1 me h2
 have y3:=Same.new h2 (.cells [.int .i64 me]) 3
 have kk3:=kk2.trans (In.new (S:=fun b=>b=p\/b=s) n2 (.cells [.int .i64 me]) 3)
 generalize hh3:h2.new (.cells [.int .i64 me]) 3=h3 at q3 b3 y3 kk3
 obtain ⟨a4,c4,h4,q4,Ae,r4⟩:=spec_Get18 (Sl.same sb2 y3) (by omega)
 have gl:=getP_len bs
 rw[hg] at q4 r4 gl
 simp only[Option.getD_some,Option.isSome_some] at q4 r4 gl
 obtain ⟨h5,t5,y5,g5,s5,i5,_⟩:=newLogT (AE.se r4)
 have n3:=y3.1
 have n4:=Ae.len
 have n5:=y5.1
 have kk5:=(kk3.trans (Ae.inn (S:=fun b=>b=p\/b=s) (by omega))).trans (i5 (fun b=>b=p\/b=s) h.blks.length (by omega))
 obtain ⟨a6,c6,h6,q6,Ag,r6⟩:=spec_Add s5 (getP_wide hg) (by omega) ⟨(j:Int),k,to⟩ hto hins
 have q6':evC Tryz.prog 36 #[.agg #[.slice a4 g.length c4],.agg #[.int .i64 (j:Int),.int .u64 (k:Int),.int .u64 (to:Int)]] h5=some (.agg #[.slice a6 (addE g ⟨(j:Int),k,to⟩).length c6],h6):=q6
 have al:=addE_len g ⟨(j:Int),k,to⟩
 have wa:wide (addE g ⟨(j:Int),k,to⟩):=fun e he=>by
  rcases mem_addE he with he | rfl
  ·exact getP_wide hg e he
  ·exact ⟨hk,hto⟩
 obtain ⟨a7,c7,h7,q7,Ah,r7⟩:=spec_Less (to:=ofN me) r6.se wa (by omega) (ofN_lt me)
 have ll7:(lessE (addE g ⟨(j:Int),k,to⟩) (ofN me)).length=(addE g ⟨(j:Int),k,to⟩).length:=lessE_len _ _
 obtain ⟨h8,t8,y8,g8,s8,i8,_⟩:=newLogT (AE.se r7)
 have n6:=Ag.len
 have n7:=Ah.len
 have n8:=y8.1
 have kk8:=((kk5.trans (Ag.inn (S:=fun b=>b=p\/b=s) (by omega))).trans (Ah.inn (S:=fun b=>b=p\/b=s) (by omega))).trans (i8 (fun b=>b=p\/b=s) h.blks.length (by omega))
 have sm8:Same h2 h8:=((((y3.trans Ae.same).trans y5).trans Ag.same).trans Ah.same).trans y8
 have ce8:=ce2.same sm8
 have lA:=logN ce8
 have ae8:AE 0 h8 (.slice la es.length lc) es:=ae2.same sm8
 have wl7:=wide_lessE (to:=ofN me) wa
 obtain ⟨a9,c9,h9,q9,Aj,r9⟩:=spec_Join ae8.se s8 hw wl7 (by omega) (by omega)
 have jl:=joinE_len es (lessE (addE g ⟨(j:Int),k,to⟩) (ofN me))
 obtain ⟨a10,c10,h10,q10,Ak,r10⟩:=spec_Less (to:=ofN me) r9.se (wide_join hw wl7) (by omega) (ofN_lt me)
 have ll10:(lessE (joinE es (lessE (addE g ⟨(j:Int),k,to⟩) (ofN me))) (ofN me)).length=(joinE es (lessE (addE g ⟨(j:Int),k,to⟩) (ofN me))).length:=lessE_len _ _
 obtain ⟨a11,c11,h11,q11,Al,r11⟩:=spec_Purge r10.se (wide_lessE (wide_join hw wl7)) (by omega)
 have q11':evC Tryz.prog 34 #[.agg #[.slice a10 (joinE es (lessE (addE g ⟨(j:Int),k,to⟩) (ofN me))).length c10]] h10=some (.agg #[.slice a11 (takeLog es me (j:Int) k to g).length c11],h11):=q11
 have n9:=Aj.len
 have n10:=Ak.len
 have n11:=Al.len
 have kk11:=((kk8.trans (Aj.inn (S:=fun b=>b=p\/b=s) (by omega))).trans (Ak.inn (S:=fun b=>b=p\/b=s) (by omega))).trans (Al.inn (S:=fun b=>b=p\/b=s) (by omega))
 have sm11:=((sm8.trans Aj.same).trans Ak.same).trans Al.same
 have ce11:=ce2.same sm11
 have hpl:p<h2.blks.length:=ce2.lt
 have st12:=zAp ce11 (o:=2) (vs:=[.slice a11 (takeLog es me (j:Int) k to g).length c11]) (by simp)
 simp only[List.take_succ_cons,List.take_zero,List.nil_append,List.append_nil,List.length_cons,List.length_nil,List.drop_succ_cons,List.drop_zero,Nat.zero_add,Nat.reduceAdd,List.drop_nil,List.cons_append,List.singleton_append] at st12
 have d12:=ce11.put [.int .i64 n,.int .i64 me,.slice a11 (takeLog es me (j:Int) k to g).length c11,.int .u64 (num:Int),.slice (some ⟨s,0,none⟩) ns.length ns.length]
 have kk12:=kk11.trans (In.put (S:=fun b=>b=p\/b=s) (Nat.le_trans kk11.le kk11.len) (p:=p) (.inr (.inl rfl)) (.cells [.int .i64 n,.int .i64 me,.slice a11 (takeLog es me (j:Int) k to g).length c11,.int .u64 (num:Int),.slice (some ⟨s,0,none⟩) ns.length ns.length]))
 have rl:AE 0 (h11.put p (.cells [.int .i64 n,.int .i64 me,.slice a11 (takeLog es me (j:Int) k to g).length c11,.int .u64 (num:Int),.slice (some ⟨s,0,none⟩) ns.length ns.length])) (.slice a11 (takeLog es me (j:Int) k to g).length c11) (takeLog es me (j:Int) k to g):=
  Acc.keepPut (Acc.up r11 (Nat.zero_le _)) (fun e=>by have:=Acc.ge r11 e;omega) _
 have seenL:(ns.set j k).length=ns.length:=List.length_set ..
 refine ⟨_,?_,done_mod kk12,⟨⟨a11,c11,?_,rl.done⟩,((d2.same sm11).keepPut (by omega) _).done,by rw[seenL];exact l.len⟩⟩
 ·simp -implicitDefEqProofs (disch:=omega) only[↓c9_0_eq,q1,zAt,faLn1,faLn2,faLn4,ldVec,m4,iaV s ns.length ns.length j (by omega),vst64,st2,ldI,m1,b3,q3,q4,extractV_tuple,alL,stL,t5,ldL,g5 (Same.refl _),bdE3,q6',q7,t8,ldLo,lA,g8 (Same.refl _),q9,q10,q11',stLo,st12,↓ret9,↓zAc,↓zAb,↓Option.bind_some,↓zAa,sxB,Nat.reduceBEq]
 ·rw[seenL];exact d12.done
end Go.Am
namespace Go.Am
open Go.Proofs
set_option maxRecDepth 100000
set_option linter.all false
attribute [local congr] zAf zAq zAr zAs zAj zAg
theorem pnn (p:Nat) (xo yo:Operand):zBk Tryz.prog .eql 24 xo yo (.pointer (some ⟨p,0,none⟩)) (.pointer none)=some (.bool false):=by kernel_rfl
theorem lit_ents (el:TypeId) (hs:sizeT Tryz.prog el=some 3) (es:List E3) (hl:es.length<2^38) (h:Heap):SE (h.new (.cells (entL es)) el) (.slice (some ⟨h.blks.length,0,none⟩) es.length es.length) es:=by
 refine .mk ?_ (.inr ⟨Nat.le_refl _,?_⟩)
 ·simp only[Heap.loadN,Heap.cells?,zBn]
  simp[entL_len]
  rw[List.take_of_length_le (by rw[entL_len];omega)]
 ·unfold UNK;omega
theorem cmp_litN {h:Heap} {v:Value} {es:List E3} (s:SE h v es) (hl:es.length<2^38):∃a c h1,evC Tryz.prog 16 #[v] h=some (.slice a es.length c,h1)/\HExt h h1 ∧
  evC Tryz.prog 15 #[.slice a es.length c,.slice (some ⟨h1.blks.length,0,none⟩) es.length es.length] (h1.new (.cells (entL es)) 87)=some (.bool true,h1.new (.cells (entL es)) 87):=by
 obtain ⟨a,c,h1,e1,Ab,r1⟩:=spec_log1 s hl
 refine ⟨a,c,h1,e1,Ab,?_⟩
 have s1:SE (h1.new (.cells (entL es)) 87) (.slice a es.length c) es:=Sl.keepNew (AR.se r1) _ _
 rw[spec_logs s1 (lit_ents 87 etR.size es hl _) hl hl,decide_eq_true rfl]
def ak1:List E3:=[⟨0,1,2⟩]
def ak2:List E3:=[⟨0,2,2⟩]
theorem ak_t:sendT 2 0 2=2:=by decide
theorem ak_l1:sendLog [] 0 0 2=ak1:=by decide
theorem ak_l2:sendLog ak1 0 1 2=ak2:=by decide
theorem ak_w:listW 2=[1]:=by rw[listW_bits 2 (by omega)];decide
theorem ak_r:rowF ak1 2 1=logB ak1:=by
 unfold rowF
 rw[show purgeE (lessE ak1 (outB 2 (ofN ((1:Nat):Int))))=ak1 by decide]
 rfl
theorem bdR3':buildV Tryz.prog 87 #[(0,.int .i64 0),(1,.int .u64 1),(2,.int .u64 2)]=some (entV ⟨0,1,2⟩):=by kernel_rfl
theorem bdR4':buildV Tryz.prog 87 #[(0,.int .i64 0),(1,.int .u64 2),(2,.int .u64 2)]=some (entV ⟨0,2,2⟩):=by kernel_rfl
theorem bsA1 (h:Heap):zAi Tryz.prog 31 1 #[(0,entV ⟨0,1,2⟩)] h=some (.slice (some ⟨h.blks.length,0,none⟩) ak1.length ak1.length,h.new (.cells (entL ak1)) 87):=by kernel_rfl
theorem bsA2 (h:Heap):zAi Tryz.prog 31 1 #[(0,entV ⟨0,2,2⟩)] h=some (.slice (some ⟨h.blks.length,0,none⟩) ak2.length ak2.length,h.new (.cells (entL ak2)) 87):=by kernel_rfl
theorem lnBs2 {n0:Nat} {h:Heap} {v:Value} {l:List (List UInt8)} (a:ABs n0 h v l):lenV Tryz.prog 34 v h=some (.int .i64 l.length):=a.len
theorem spec_awake19 (h:Heap):∃h',evC Tryz.prog 5 #[] h=some (.bool true,h')/\HExt h h':=by
 rw[show evC Tryz.prog 5 #[] h=_ from call5 h]
 obtain ⟨h1,q1,Ab,l1⟩:=spec_leanNew 2 0 (by omega) (by omega) (by omega) (by omega) (nm h)
 have e0:(nm h).blks.length=h.blks.length:=rfl
 rw[e0] at q1 l1
 have n1:h.blks.length<=h1.blks.length:=Ab.len
 have k1:In h.blks.length No (nm h) h1:=Ab.inn (Nat.le_refl h.blks.length)
 have b2:=mkI1 1 h1
 have o2:=spec_Of1 (c:=1) (Cells.new h1 3 [.int .i64 1])
 have k2:=k1.trans (In.new (S:=No) n1 (.cells [.int .i64 1]) 3)
 have l2:=l1.same (Same.new h1 (.cells [.int .i64 1]) 3)
 have n2:=(Same.new h1 (.cells [.int .i64 1]) 3).1
 generalize hh2:h1.new (.cells [.int .i64 1]) 3=h2 at b2 o2 k2 l2 n2
 rw[show ((ofN 1:Nat):Int)=2 by decide] at o2
 obtain ⟨v3,h3,q3,y3,l3,r3⟩:=spec_Send l2 (by omega) (by intro e he;cases he) (by simp) (by omega) 2 (by omega) (by omega) (insOk_end (by decide) (by decide))
 have nb:∀b,b<h.blks.length->Just (h.blks.length+1) b->No b:=fun b hb e=>by have:b=h.blks.length+1:=e;omega
 have k3:=k2.trans (y3.inn (by omega) nb)
 rw[show sendT 2 0 2=2 from ak_t,show sendLog [] 0 0 2=ak1 from ak_l1] at l3
 have n3:=y3.len
 have b4:=mkI1 1 h3
 have o4:=spec_Of1 (c:=1) (Cells.new h3 3 [.int .i64 1])
 have k4:=k3.trans (In.new (S:=No) (by omega) (.cells [.int .i64 1]) 3)
 have l4:=l3.same (Same.new h3 (.cells [.int .i64 1]) 3)
 have n4:=(Same.new h3 (.cells [.int .i64 1]) 3).1
 generalize hh4:h3.new (.cells [.int .i64 1]) 3=h4 at b4 o4 k4 l4 n4
 rw[show ((ofN 1:Nat):Int)=2 by decide] at o4
 obtain ⟨v5,h5,q5,y5,l5,r5⟩:=spec_Send l4 (by omega) (by decide) (by decide) (by omega) 2 (by omega) (by omega) (insOk_end (by decide) (by decide))
 have k5:=k4.trans (y5.inn (by omega) nb)
 rw[show sendT 2 0 2=2 from ak_t] at l5 r5
 rw[show sendLog ak1 0 (0+1) 2=ak2 from ak_l2] at l5
 rw[ak_w,show [1].map (rowF ak1 2)=[logB ak1] by rw[List.map_cons,List.map_nil,ak_r]] at r5
 have n5:=y5.len
 have len5:=lnBs2 r5
 obtain ⟨ad,xv,f1,f2,f3⟩:=r5.at (i:=0) (by simp)
 rw[show ((0:Nat):Int)=0 from rfl] at f1
 rw[show ([logB ak1]:List (List UInt8)).getD 0 []=logB ak1 from rfl] at f3
 have lb:(logB ak1).length<2^26:=by
  have h1:=encL_le ak1 (by decide) (by decide)
  have h2:=putL_le ak1.length (by decide)
  have h3:ak1.length=1:=rfl
  unfold logB;rw[List.length_append];omega
 obtain ⟨a6,c6,h6,q6,Ag,r6⟩:=spec_Get18 f3 (by omega)
 rw[get_put (by decide) (by decide) (by decide)] at q6 r6
 simp only[Option.getD_some,Option.isSome_some] at q6 r6
 have n6:=Ag.len
 obtain ⟨h7,t7,y7,g7,s7,i7,g7'⟩:=newLogT (AE.se r6)
 have k7:=(k5.trans (Ag.inn (S:=No) (by omega))).trans (i7 No h.blks.length (by omega))
 have n7:=y7.1
 obtain ⟨a8,c8,h8,q8,Ai,w8⟩:=cmp_litN s7 (by decide)
 have n8:=Ai.len
 have y9:=Same.new h8 (.cells (entL ak1)) 87
 have k9:=(k7.trans (Ai.inn (S:=No) (by omega))).trans (In.new (S:=No) (by omega) (.cells (entL ak1)) 87)
 have l9:=(((l5.same Ag.same).same y7).same Ai.same).same y9
 generalize hh9:h8.new (.cells (entL ak1)) 87=h9 at y9 k9 l9 w8
 have n9:=y9.1
 obtain ⟨a10,c10,h10,q10,Ak,s10⟩:=spec_Log l9 (by decide)
 have n10:=Ak.len
 obtain ⟨a11,c11,h11,q11,Al,w11⟩:=cmp_litN s10 (by decide)
 have n11:=Al.len
 have k12:=((k9.trans (Ak.inn (S:=No) (by omega))).trans (Al.inn (S:=No) (by omega))).trans (In.new (S:=No) (by omega) (.cells (entL ak2)) 87)
 have z1:decide ((([logB ak1]:List (List UInt8)).length:Int)≠1)=false:=by decide
 rw[show ((2:Nat):Int)=2 from rfl] at q1 q3 q5
 refine ⟨_,?_,zAl k12⟩
 have b9:=bsA1 h8
 rw[hh9] at b9
 simp -implicitDefEqProofs (disch:=omega) only[↓c5_0_eq,q1,extractV_tuple,pnn,b2,o2,q3,b4,o4,q5,len5,z1,ne_eq,not_true_eq_false,decide_false,f1,f2,q6,alL,stL,t7,faL,ldEs,g7',q8,bdR3',b9,w8,q10,fvL,q11,bdR4',bsA2,w11,↓ret5,↓zAc,↓zAb,↓Option.bind_some,↓zAa,sxB,Nat.reduceBEq]
end Go.Am
namespace Go.Am
open Go.Proofs
set_option maxRecDepth 100000
set_option linter.all false
attribute [local congr] zAf zAq zAr zAs zAj zAg
end Go.Am
namespace Go.Am
open Go.Proofs
set_option maxRecDepth 100000
set_option linter.all false
attribute [local congr] zAf zAq zAr zAs zAj zAg
end Go.Am
namespace Go.Am
open Go.Proofs
set_option maxRecDepth 100000
set_option linter.all false
attribute [local congr] zAf zAq zAr zAs zAj zAg
theorem Cells.ty {h:Heap} {p:Nat} {t1 t2:TypeId} {cs all:List Value} (c:Cells h p t1 cs) (e:h.blks[p]?=some ⟨.cells all,t2,true⟩):t1=t2:=by
 unfold Cells at c
 rw[c] at e
 simp only[Option.some.injEq,Blk.mk.injEq] at e
 exact e.2.1
theorem LEn.rows {S:Nat->Prop} {h h':Heap} {p s:Nat} {n me:Int} {num:Nat} {es:List E3} {ns:List Nat} (l:LEn h p s n me num es ns) (m:HMod S h h') (hS:∀b,S b->b=p\/b=s) {n0:Nat} {v:Value} {r:List (List UInt8)} (a:ABs n0 h v r):ABs n0 h' v r:=by
 obtain ⟨vs,x⟩:=a
 obtain ⟨la,lc,ce,_⟩:=l.eng
 refine ⟨vs,x.kp fun b all ty hb ht _=>m.old b (List.getElem?_eq_some_iff.1 hb).1 fun hs=>?_⟩
 rcases hS b hs with rfl | rfl
 ·have:=ce.ty hb
  rcases ht with ht | ht
  ·exact absurd (this.trans ht) (by decide)
  ·exact absurd (this.trans ht) (by decide)
 ·have:=l.seen.ty hb
  rcases ht with ht | ht
  ·exact absurd (this.trans ht) (by decide)
  ·exact absurd (this.trans ht) (by decide)
theorem LEn.others {S:Nat->Prop} {h h':Heap} {p s:Nat} {n me:Int} {num:Nat} {es:List E3} {ns:List Nat} (l:LEn h p s n me num es ns) (m:HMod S h h') (hS:∀b,S b->b=p\/b=s) {p' s':Nat} {n' me':Int} {num':Nat} {es':List E3} {ns':List Nat} (l':LEn h p' s' n' me' num' es' ns')
  (h1:p'≠p) (h2:s'≠s):LEn h' p' s' n' me' num' es' ns':=by
 obtain ⟨la,lc,ce,_⟩:=l.eng
 obtain ⟨la',lc',ce',_⟩:=l'.eng
 have c1:p'≠s:=fun e=>by subst e;exact absurd (ce'.ty l.seen) (by decide)
 have c2:s'≠p:=fun e=>by subst e;exact absurd (l'.seen.ty ce) (by decide)
 refine HMod.lEn l' m (fun h=>?_) (fun h=>?_) (fun b all hb h=>?_)
 ·rcases hS _ h with e | e
  ·exact h1 e
  ·exact c1 e
 ·rcases hS _ h with e | e
  ·exact c2 e
  ·exact h2 e
 ·rcases hS _ h with rfl | rfl
  ·exact absurd (ce.ty hb) (by decide)
  ·exact absurd (l.seen.ty hb) (by decide)
end Go.Am
namespace Go.Am
open Go.Proofs
set_option maxRecDepth 100000
set_option linter.all false
attribute [local congr] zAf zAq zAr zAs zAj zAg
theorem bsK_leM (es:List E3) (t:E3):bsK es t<=es.length:=List.Sublist.length_le (List.takeWhile_sublist _)
theorem entL_takeM:∀(es:List E3) (i:Nat),(entL es).take (i*3)=entL (es.take i)
 | [],i=>by simp[entL]
 | e::es,0=>rfl
 | e::es,i+1=>by
  rw[show (i+1)*3=(i*3)+1+1+1 by omega]
  simp only[entL,List.take_succ_cons]
  rw[entL_takeM es i]
theorem entL_dropM:∀(es:List E3) (i:Nat),(entL es).drop (i*3)=entL (es.drop i)
 | [],i=>by simp[entL]
 | e::es,0=>rfl
 | e::es,i+1=>by
  rw[show (i+1)*3=(i*3)+1+1+1 by omega]
  simp only[entL,List.drop_succ_cons]
  exact entL_dropM es i
theorem AE.blkM {n0:Nat} {h:Heap} {a:Option Addr} {c:Nat} {es:List E3} (ha:AE n0 h (.slice a es.length c) es) (h0:0<es.length) :
  ∃b o all,a=some ⟨b,o,none⟩/\n0<=b/\h.blks[b]?=some ⟨.cells all,99,true⟩/\o+es.length*3<=all.length/\(all.drop o).take (es.length*3)=entL es/\(c=UNK\/c=es.length):=by
 have key:∀ {v:Value} {n:Nat} {cs:List Value},Acc n0 h 99 3 v n cs->0<n->v=.slice a n c->∃b o all,a=some ⟨b,o,none⟩/\n0<=b/\h.blks[b]?=some ⟨.cells all,99,true⟩/\o+n*3<=all.length/\(all.drop o).take (n*3)=cs/\(c=UNK\/c=n):=by
  intro v n cs x hn hv
  cases x with
  | nil=>omega
  | full h1 h2 h3 h4 h5=>injection hv with e1 e2 e3;subst e1;exact ⟨_,_,_,rfl,h1,h3,h4,h5,.inr e3.symm⟩
  | unk h1 h2 h3 h4=>injection hv with e1 e2 e3;subst e1;exact ⟨_,_,_,rfl,h1,h2,h3,h4,.inl e3.symm⟩
 exact key ha h0 rfl
theorem insOk_all {es:List E3} {x:E3} (hl:es.length<2^38):InsOk es x:=by
 by_cases hk:bsK es x=es.length
 ·exact insOk_end hk hl
 intro hg hm hb n0 h a c hn ha
 have hlt:bsK es x<es.length:=by have:=bsK_leM es x;omega
 obtain ⟨b,o,all,rfl,hb0,hbk,hle,he,hc⟩:=AE.blkM ha (by omega)
 have hbl:b<h.blks.length:=(List.getElem?_eq_some_iff.1 hbk).1
 have hk1:(h.new (.cells (entC x)) 99).blks[b]?=some ⟨.cells all,99,true⟩:=(Heap.new_old hbl).trans hbk
 have hk2:(h.new (.cells (entC x)) 99).blks[h.blks.length]?=some ⟨.cells (entC x),99,true⟩:=zBn _ _ _
 have hone:((all.drop o).take (es.length*3)).all Value.oneCell'=true:=by rw[he];exact entL_one es
 have hL:((all.drop o).take (bsK es x*3)++(entC x++((all.drop o).take (es.length*3)).drop (bsK es x*3)))=entL (insE es x):=by
  have h1:(all.drop o).take (bsK es x*3)=entL (es.take (bsK es x)):=by
   rw[<-entL_takeM,<-he,List.take_take,Nat.min_eq_left (by omega)]
  rw[h1,he,entL_dropM]
  unfold insE
  rw[entL_app]
  rfl
 have hlen:(insE es x).length=es.length+1:=by unfold insE;rw[List.length_append,List.length_cons,List.length_take,List.length_drop];omega
 have hpl:((h.new (.cells (entC x)) 99).put b .dead).blks.length=h.blks.length+1:=by rw[Heap.put_len];simp[Heap.new]
 refine ⟨some ⟨h.blks.length+1,0,none⟩,UNK,((h.new (.cells (entC x)) 99).put b .dead).new (.cells (entL (insE es x))) 99,?_,?_,⟨hn,?_,fun q hq=>?_,fun m hm'=>?_⟩,fun q hq hne=>?_⟩
 ·rw[evC_ext xt_ins]
  unfold insX
  simp only[]
  rw[if_neg (by omega),if_pos ⟨by omega,by omega,by omega,hc⟩]
  simp only[hk1,hk2]
  rw[if_pos ⟨trivial,trivial,by omega,hle,rfl,rfl,hone⟩,Int.toNat_natCast,hL,hlen]
  rw[show (h.new (.cells (entC x)) 99).blks.length=h.blks.length+1 by simp[Heap.new]]
 ·have:=zBn ((h.new (.cells (entC x)) 99).put b .dead) (.cells (entL (insE es x))) 99
  rw[hpl] at this
  exact .unk (by omega) this (by rw[entL_len];omega) (by rw[List.drop_zero,<-entL_len,List.take_length])
 ·rw[Heap.new_len,hpl];omega
 ·rw[Heap.new_old (by rw[hpl];omega),Heap.put_other (by omega),Heap.new_old (by omega)]
 ·have:(((h.new (.cells (entC x)) 99).put b .dead).new (.cells (entL (insE es x))) 99).mods=b::h.mods:=by rw[Heap.put_eq hk1];rfl
  rw[this] at hm'
  rcases List.mem_cons.1 hm' with rfl | hm'
  ·exact .inr hb0
  ·exact .inl hm'
 ·rw[Heap.new_old (by rw[hpl];omega),Heap.put_other (fun e=>hne (by rw[e];rfl)),Heap.new_old hq]
theorem spec_TakeNo {h:Heap} {p s:Nat} {n:Nat} {me:Int} {num:Nat} {es:List E3} {ns:List Nat} (l:LEn h p s n me num es ns) (fr:Int) (k to:Nat) {v:Value} {bs:List UInt8} (sb:SB h v bs) (hbs:bs.length<2^26) (hc:canE n me ns fr k bs=false) :
  ∃h',evC Tryz.prog 9 #[.pointer (some ⟨p,0,none⟩),.int .i64 fr,.int .u64 k,.int .u64 to,v] h=some (.bool false,h')/\HExt h h':=by
 rw[call9]
 obtain ⟨h1,q1,Ab⟩:=spec_Can (l.same (sameNm h)) fr k sb.nm (by omega)
 rw[hc] at q1
 refine ⟨done h h1,?_,zAl (Ab.inn (Nat.le_refl _))⟩
 simp -implicitDefEqProofs (disch:=omega) only[↓c9_0_eq,q1,↓ret9,↓zAc,↓zAb,↓Option.bind_some,↓zAa,sxB,Nat.reduceBEq]
end Go.Am
namespace Go.Am
open Go.Proofs
set_option maxRecDepth 100000
attribute [local congr] zAf zAq zAr zAs zAj zAg
theorem vmaxU (a b:Int) (h:Heap):builtinV Tryz.prog .max #[30,30] #[.int .u64 a,.int .u64 b] h=some (.int .u64 (max a b),h):=by
 have e:builtinV Tryz.prog .max #[30,30] #[.int .u64 a,.int .u64 b] h=some (.int .u64 (if b>a then b else a),h):=by kernel_rfl
 rw[e]
 have:(if b>a then b else a)=max a b:=by split<;>omega
 rw[this]
theorem news_zero (n:Nat) (hn:n<2^40) (h:Heap):newsV Tryz.prog 1 8 (.int .u64 0) (some 3) (.int .i64 n) h=some (n,(List.replicate n 0).map u64V):=by
 have hu:Tryz.prog.underlying 3=some (.int .i64):=by kernel_rfl
 unfold newsV
 simp only[Option.bind_some,hu,zBq]
 rw[if_pos (by omega)]
 have:=zeros_list (.int .u64 0) n
 rw[show (Builtin.zeroCells (Value.int .u64 0).cells n).toList=List.replicate n (.int .u64 0) from this,List.map_replicate]
 rfl
theorem app_zeros {n0:Nat} {h:Heap} (hn0:n0<=h.blks.length) {v:Value} {bs:List Nat} (ha:AU n0 h v bs) (m:Nat) (hl:bs.length+m<2^40) :
  ∃a c h',zBh Tryz.prog 45 (some 3) v (.int .i64 m) h=some (.slice a (bs++List.replicate m 0).length c,h')/\AU n0 h' (.slice a (bs++List.replicate m 0).length c) (bs++List.replicate m 0)/\Keeps n0 h h':=by
 obtain ⟨v',h',e1,e2,e3,e4,e5⟩:=append_acc etV (t1:=some 3) hn0 ha (news_zero m (by omega) h) (by simp) (by omega) (by omega) (nums_one _)
 obtain ⟨a,c,rfl⟩:=e2.shape
 have el:bs.length+m=(bs++List.replicate m 0).length:=by simp
 rw[el] at e1 e2
 rw[<-List.map_append] at e2
 exact ⟨a,c,h',e1,e2,e3⟩
theorem spec_New (n:Int) (h:Heap):∃a c h',evC Tryz.prog 30 #[.int .i64 n] h=some (.slice a (List.replicate (min (max n 0) 64).toNat 0).length c,h')/\HExt h h'/\AU h.blks.length h' (.slice a (List.replicate (min (max n 0) 64).toNat 0).length c) (List.replicate (min (max n 0) 64).toNat 0):=by
 rw[call30]
 obtain ⟨m,hm⟩:∃m:Nat,min (max n 0) 64=(m:Int):=⟨(min (max n 0) 64).toNat,by omega⟩
 have hmk:∀h,zBd Tryz.prog 45 (.int .i64 m) (.int .i64 m) h=some (.slice (some ⟨h.blks.length,0,none⟩) m m,h.new (.cells ((List.replicate m 0).map u64V)) 30):=fun h=>by
  unfold zBd
  simp only[etV.under,zBq,etV.size,etV.bytes,etV.zero]
  rw[if_pos ⟨Nat.le_refl _,by omega,by omega,by omega,etV.zs,etV.zg⟩]
  have:=zeros_list (.int .u64 0) m
  rw[show ((Array.range (m*1)).map fun x=>(Value.int .u64 0).cells[x % (Value.int .u64 0).cells.size]!).toList=List.replicate m (.int .u64 0) from this,List.map_replicate]
  rfl
 simp -implicitDefEqProofs only[↓c30_0_eq,vmaxI,vminI,hm,hmk,↓ret30,↓zAc,↓zAb,↓Option.bind_some,↓zAa,sxB,Nat.reduceBEq]
 have hl:=AU.lit (h:=nm h) (n0:=h.blks.length) (by simp) (List.replicate m 0) (by simp;omega)
 have e:(m:Int).toNat=m:=Int.toNat_natCast m
 rw[e]
 simp only[List.length_replicate] at hl ⊢
 exact ⟨_,_,_,rfl,zAl (In.new (by simp) _ _),hl.done⟩
def atI (ns:List Nat) (i:Int):Nat:=if i<0 then 0 else ns.getD i.toNat 0
theorem atI_nat (ns:List Nat) (i:Nat):atI ns (i:Int)=ns.getD i 0:=by unfold atI;rw[if_neg (by omega),Int.toNat_natCast]
theorem spec_At {h:Heap} {v:Value} {ns:List Nat} (s:SU h v ns) (i:Int) (hl:ns.length<2^62):evC Tryz.prog 49 #[v,.int .i64 i] h=some (.int .u64 (atI ns i:Nat),h):=by
 rw[call49]
 by_cases h0:i<0
 ·simp -implicitDefEqProofs (disch:=omega) only[↓c49_0_eq,dcT,dcF,↓ret49,↓zAc,↓zAb,↓Option.bind_some,↓zAa,sxB,Nat.reduceBEq]
  rw[show atI ns i=0 by unfold atI;rw[if_pos h0]];rfl
 ·obtain ⟨m,rfl⟩:∃m:Nat,i=m:=⟨i.toNat,by omega⟩
  rw[atI_nat]
  by_cases h1:ns.length<=m
  ·simp -implicitDefEqProofs (disch:=omega) only[↓c49_0_eq,dcT,dcF,s.nm.row.len_eq etV.under,↓ret49,↓zAc,↓zAb,↓Option.bind_some,↓zAa,sxB,Nat.reduceBEq]
   rw[List.getD_eq_getElem?_getD,List.getElem?_eq_none h1];rfl
  ·obtain ⟨a,e1,e2⟩:=su_at s.nm etV.under (i:=m) (by omega)
   simp -implicitDefEqProofs (disch:=omega) only[↓c49_0_eq,dcT,dcF,s.nm.row.len_eq etV.under,e1,e2,↓ret49,↓zAc,↓zAb,↓Option.bind_some,↓zAa,sxB,Nat.reduceBEq]
theorem spec_CloneV (h:Heap) (x:Value) (bs:List Nat) (hx:SU h x bs) (hl:bs.length<2^39) :
  ∃a c h',evC Tryz.prog 52 #[x] h=some (.slice a bs.length c,h')/\HExt h h'/\AU h.blks.length h' (.slice a bs.length c) bs:=by
 rw[call52]
 rcases hx.inv with ⟨rfl,_,h3⟩ | ⟨b,o,c,rfl,_,_⟩
 ·have:bs=[]:=by simpa using h3
  subst this
  simp -implicitDefEqProofs only[↓c52_0_eq,nilV,↓ret52,↓zAc,↓zAb,↓Option.bind_some,↓zAa,sxB,Nat.reduceBEq]
  exact ⟨none,0,h,by simp,HExt.refl h,.nil⟩
 ·have hlit:=AU.lit (h:=nm h) (n0:=h.blks.length) (by simp) [] (by simp)
  obtain ⟨a,c',h',e1,e2,e3,e4⟩:=app_nums etV etV.under (n0:=h.blks.length) (by simp[Heap.new]) hlit (hx.nm.keepNew _ _) (by simp;omega)
  rw[List.nil_append] at e1 e2
  simp only[List.map_nil,List.length_nil,nm_blks] at e1
  simp -implicitDefEqProofs only[↓c52_0_eq,bin_nil_some (P:=Tryz.prog) (t:=45) etV.under,mkV0,nm_blks,e1,↓ret52,↓zAc,↓zAb,↓Option.bind_some,↓zAa,sxB,Nat.reduceBEq]
  exact ⟨a,c',_,rfl,zAl ((In.new (S:=No) (by simp) _ _).trans e3.inn),e2.done⟩
def longV (ns:List Nat) (n:Nat):List Nat:=ns++List.replicate (n-ns.length) 0
theorem spec_long (h:Heap) (x:Value) (bs:List Nat) (hx:SU h x bs) (hl:bs.length<2^39) (n:Nat) (hn:n<2^39) :
  ∃a c h',evC Tryz.prog 93 #[x,.int .i64 n] h=some (.slice a (longV bs n).length c,h')/\HExt h h'/\AU h.blks.length h' (.slice a (longV bs n).length c) (longV bs n):=by
 rw[call93,c93_0_eq]
 obtain ⟨a,c,h1,e1,Ab,s1⟩:=spec_CloneV (nm h) x bs hx.nm hl
 by_cases hb:bs.length<n
 ·obtain ⟨a2,c2,h2,e2,s2,k2⟩:=app_zeros (n0:=h.blks.length) Ab.len s1 (n-bs.length) (by omega)
  have hw:IntKind.wrap .i64 ((n:Int)-bs.length)=((n-bs.length:Nat):Int):=by rw[wrap_i64]<;>omega
  simp -implicitDefEqProofs (disch:=omega) only[dcT,dcF,e1,s1.su.row.len_eq etV.under,hw,e2,↓ret93,↓zAc,↓zAb,↓Option.bind_some,↓zAa,sxA]
  exact ⟨a2,c2,_,rfl,zAl ((Ab.inn (by simp)).trans k2.inn),s2.done⟩
 ·have e:longV bs n=bs:=by unfold longV;rw[show n-bs.length=0 by omega];simp
  rw[e]
  simp -implicitDefEqProofs (disch:=omega) only[dcT,dcF,e1,s1.su.row.len_eq etV.under,↓ret93,↓zAc,↓zAb,↓Option.bind_some,↓zAa,sxA]
  exact ⟨a,c,_,rfl,zAl (Ab.inn (by simp)),s1.done⟩
def upV (ns:List Nat) (i:Int):List Nat × Bool:=
 if i<0\/64<=i\/atI ns i=2^64-1 then (ns,false) else ((longV ns (i.toNat+1)).set i.toNat (atI ns i+1),true)
theorem longV_get (ns:List Nat) (n i:Nat):(longV ns n).getD i 0=ns.getD i 0:=by
 unfold longV
 simp only[List.getD_eq_getElem?_getD,List.getElem?_append]
 split
 ·rfl
 ·rename_i h
  rw[List.getElem?_eq_none (by omega:ns.length<=i)]
  rw[List.getElem?_replicate]
  split<;>rfl
theorem longV_len (ns:List Nat) (n:Nat):(longV ns n).length=max ns.length n:=by unfold longV;simp;omega
theorem set_u64 (ns:List Nat) (i m:Nat):(ns.map u64V).set i (.int .u64 (m:Nat))=(ns.set i m).map u64V:=by rw[List.map_set];rfl
theorem spec_Up (h:Heap) (x:Value) (bs:List Nat) (hx:SU h x bs) (hl:bs.length<2^39) (hb:∀n∈bs,n<2^64) (i:Int) :
  ∃a c h',evC Tryz.prog 63 #[x,.int .i64 i] h=some (.tuple #[.slice a (upV bs i).1.length c,.bool (upV bs i).2],h')/\HExt h h'/\AU h.blks.length h' (.slice a (upV bs i).1.length c) (upV bs i).1:=by
 rw[call63,c63_0_eq]
 by_cases hc:i<0\/64<=i\/atI bs i=2^64-1
 ·have e:upV bs i=(bs,false):=if_pos hc
  rw[e]
  obtain ⟨a,c,h1,e1,Ab,s1⟩:=spec_CloneV (nm h) x bs hx.nm hl
  by_cases h0:i<0
  ·simp -implicitDefEqProofs (disch:=omega) only[dcT,dcF,e1,↓ret63,↓zAc,↓zAb,↓Option.bind_some,↓zAa,sxA]
   exact ⟨a,c,_,rfl,zAl (Ab.inn (by simp)),s1.done⟩
  ·by_cases h64:64<=i
   ·simp -implicitDefEqProofs (disch:=omega) only[dcT,dcF,e1,↓ret63,↓zAc,↓zAb,↓Option.bind_some,↓zAa,sxA]
    exact ⟨a,c,_,rfl,zAl (Ab.inn (by simp)),s1.done⟩
   ·have hat:atI bs i=2^64-1:=by omega
    simp -implicitDefEqProofs (disch:=omega) only[dcT,dcF,spec_At hx.nm i (by omega),hat,e1,↓ret63,↓zAc,↓zAb,↓Option.bind_some,↓zAa,sxA]
    exact ⟨a,c,_,rfl,zAl (Ab.inn (by simp)),s1.done⟩
 ·have e:upV bs i=((longV bs (i.toNat+1)).set i.toNat (atI bs i+1),true):=if_neg hc
  rw[e]
  obtain ⟨m,rfl⟩:∃m:Nat,i=m:=⟨i.toNat,by omega⟩
  have hat:=spec_At hx.nm (m:Int) (by omega)
  rw[atI_nat] at hc hat ⊢
  rw[Int.toNat_natCast]
  have hlt:=getD_lt bs hb m
  obtain ⟨a,c,h1,e1,Ab,s1⟩:=spec_long (nm h) x bs hx.nm hl (m+1) (by omega)
  have hw:IntKind.wrap .i64 ((m:Int)+1)=((m+1:Nat):Int):=by rw[wrap_i64]<;>omega
  have hm:m<(longV bs (m+1)).length:=by rw[longV_len];omega
  obtain ⟨b,o,h2,e2,l2,st2,s2,k2,_,_,_⟩:=s1.set1 etV.under etV.size hm (.int .u64 ((bs.getD m 0+1:Nat):Int)) .i64
  rw[map_get _ hm,longV_get] at l2
  rw[set_u64] at s2
  have hw2:IntKind.wrap .u64 ((bs.getD m 0:Nat)+1:Int)=((bs.getD m 0+1:Nat):Int):=by rw[wrap_u64]<;>omega
  simp -implicitDefEqProofs (disch:=omega) only[dcT,dcF,hat,hw,e1,e2,vld64,l2,hw2,vst64,st2,↓ret63,↓zAc,↓zAb,↓Option.bind_some,↓zAa,sxA]
  have el:((longV bs (m+1)).set m (bs.getD m 0+1)).length=(longV bs (m+1)).length:=List.length_set ..
  unfold AU
  rw[el]
  exact ⟨a,c,_,rfl,zAl ((Ab.inn (by simp)).trans k2.inn),s2.done⟩
end Go.Am
namespace Go.Am
open Go.Proofs
set_option maxRecDepth 100000
attribute [local congr] zAf zAq zAr zAs zAj zAg
theorem etM:ElemT Tryz.prog 117 45 1 24 (.slice none 0 0):=⟨by kernel_rfl,by kernel_rfl,by kernel_rfl,by kernel_rfl,by omega,rfl,rfl⟩
theorem faM0 (p:Nat):zAe Tryz.prog 119 (.pointer (some ⟨p,0,none⟩)) 0=some (.pointer (some ⟨p,0,none⟩)):=by kernel_rfl
theorem faM1 (p:Nat):zAe Tryz.prog 119 (.pointer (some ⟨p,0,none⟩)) 1=some (.pointer (some ⟨p,1,none⟩)):=by kernel_rfl
theorem bxM (a b:Value) (h:Heap):boxV Tryz.prog 119 (.agg #[a,b]) h=some (.pointer (some ⟨h.blks.length,0,none⟩),h.new (.cells [a,b]) 119):=by kernel_rfl
theorem alM (h:Heap):zBp Tryz.prog 119 h=some (.pointer (some ⟨h.blks.length,0,none⟩),h.new (.cells [.int .i64 0,.slice none 0 0]) 119):=by kernel_rfl
theorem bdM0:buildV Tryz.prog 119 #[]=some (.agg #[.int .i64 0,.slice none 0 0]):=by kernel_rfl
theorem bdM1 (n:Int):buildV Tryz.prog 119 #[(0,.int .i64 n)]=some (.agg #[.int .i64 n,.slice none 0 0]):=by kernel_rfl
theorem ldM (p:Nat) (h:Heap):zAw Tryz.prog 119 (.pointer (some ⟨p,0,none⟩)) h=(h.loadN p 0 2).map fun cs=>.agg cs.toArray:=by kernel_rfl
theorem stM (p:Nat) (k:IntKind) (n:Int) (ad:Option Addr) (l c:Nat) (h:Heap):zBc Tryz.prog 119 (.pointer (some ⟨p,0,none⟩)) (.agg #[.int k n,.slice ad l c]) h=h.storeN p 0 [.int k n,.slice ad l c]:=by kernel_rfl
theorem ldRs (p o:Nat) (h:Heap):zAw Tryz.prog 117 (.pointer (some ⟨p,o,none⟩)) h=h.load1 p o:=by kernel_rfl
theorem stRs (p o:Nat) (a:Option Addr) (n c:Nat) (h:Heap):zBc Tryz.prog 117 (.pointer (some ⟨p,o,none⟩)) (.slice a n c) h=h.storeN p o [.slice a n c]:=by kernel_rfl
theorem mldInt (p o:Nat) (h:Heap):zAw Tryz.prog 3 (.pointer (some ⟨p,o,none⟩)) h=h.load1 p o:=by kernel_rfl
theorem mkR1 (a:Option Addr) (n c:Nat) (h:Heap):zAi Tryz.prog 117 1 #[(0,.slice a n c)] h=some (.slice (some ⟨h.blks.length,0,none⟩) 1 1,h.new (.cells [.slice a n c]) 45):=by kernel_rfl
theorem two1 (a b:Value):[a,b][0]?=some a:=(id rfl)
theorem two2 (a b:Value):[a,b][1]?=some b:=(id rfl)
theorem w2_put (a b c d:Value):List.take 0 [a,b]++[c,d]++List.drop (0+[c,d].length) [a,b]=[c,d]:=(id rfl)
theorem w2_put1 (a b d:Value):List.take 1 [a,b]++[d]++List.drop (1+[d].length) [a,b]=[a,d]:=(id rfl)
abbrev matV (n:Int) (v:Value):Value:=.agg #[.int .i64 n,v]
def SMv (h:Heap) (v:Value) (vs:List Value) (m:List (List Nat)):Prop:=Sl Tryz.prog h 1 v m.length vs/\All2 (SU h) vs m
def SM (h:Heap) (v:Value) (m:List (List Nat)):Prop:=∃vs,SMv h v vs m
theorem SMv.kp {h h':Heap} {v:Value} {vs:List Value} {m:List (List Nat)} (s:SMv h v vs m) (k:∀b,b<h.blks.length->h'.blks[b]?=h.blks[b]?):SMv h' v vs m:=⟨s.1.keep fun b hb _=>k b hb,s.2.mono fun _ _ x=>x.keep fun b hb _=>k b hb⟩
theorem SM.kp {h h':Heap} {v:Value} {m:List (List Nat)} (s:SM h v m) (k:∀b,b<h.blks.length->h'.blks[b]?=h.blks[b]?):SM h' v m:=let ⟨vs,x⟩:=s;⟨vs,x.kp k⟩
theorem SM.ext {h h':Heap} {v:Value} {m:List (List Nat)} (s:SM h v m) (e:HExt h h'):SM h' v m:=s.kp e.old
theorem SM.same {h h':Heap} {v:Value} {m:List (List Nat)} (s:SM h v m) (e:Same h h'):SM h' v m:=s.kp e.2
theorem SM.nm {h:Heap} {v:Value} {m:List (List Nat)} (s:SM h v m):SM (Am.nm h) v m:=s.kp fun _ _=>rfl
theorem SM.done {h0 h:Heap} {v:Value} {m:List (List Nat)} (s:SM h v m):SM (Am.done h0 h) v m:=s.kp fun _ _=>rfl
theorem SM.new {h:Heap} {v:Value} {m:List (List Nat)} (s:SM h v m) (body:Body) (t:TypeId):SM (h.new body t) v m:=s.kp fun _ hb=>Heap.new_old hb
theorem SM.put {h0 h:Heap} {v:Value} {m:List (List Nat)} (s:SM h0 v m) (sm:Same h0 h) {p:Nat} (hp:h0.blks.length<=p) (body:Body):SM (h.put p body) v m:=s.same (sm.put hp body)
theorem SM.shape {h:Heap} {v:Value} {m:List (List Nat)} (s:SM h v m):∃a c,v=.slice a m.length c:=let ⟨_,x,_⟩:=s;x.shape
theorem SM.nil (h:Heap):SM h (.slice none 0 0) []:=⟨[],.nil,.nil⟩
theorem SMv.at {h:Heap} {v:Value} {vs:List Value} {m:List (List Nat)} (s:SMv h v vs m) {t e:TypeId} (ht:Tryz.prog.underlying t=some (.slice e)) (hs:sizeT Tryz.prog e=some 1) (ha:isAggT Tryz.prog e=some false) {i:Nat} (hi:i<m.length) :
  ∃a x,vs[i]?=some x/\zAh Tryz.prog t v (.int .i64 i)=some (.pointer (some a))/\zAw Tryz.prog e (.pointer (some a)) h=some x/\SU h x (m.getD i []):=by
 obtain ⟨a,e1,e2,_⟩:=s.1.row.at1 ht hs ha hi .i64
 obtain ⟨x,h1,h2⟩:=s.2.get' (i:=i) (b:=m[i]) (List.getElem?_eq_getElem hi)
 rw[h1] at e2
 refine ⟨a,x,h1,e1,e2,?_⟩
 rw[List.getD_eq_getElem?_getD,List.getElem?_eq_getElem hi]
 exact h2
theorem SM.at {h:Heap} {v:Value} {m:List (List Nat)} (s:SM h v m) {t e:TypeId} (ht:Tryz.prog.underlying t=some (.slice e)) (hs:sizeT Tryz.prog e=some 1) (ha:isAggT Tryz.prog e=some false) {i:Nat} (hi:i<m.length) :
  ∃a x,zAh Tryz.prog t v (.int .i64 i)=some (.pointer (some a))/\zAw Tryz.prog e (.pointer (some a)) h=some x/\SU h x (m.getD i []):=by
 obtain ⟨vs,x⟩:=s
 obtain ⟨a,y,_,h1,h2,h3⟩:=x.at ht hs ha hi
 exact ⟨a,y,h1,h2,h3⟩
theorem SM.atV {h:Heap} {v:Value} {m:List (List Nat)} (s:SM h v m) {i:Nat} (hi:i<m.length) :
  ∃a x,zAh Tryz.prog 117 v (.int .i64 i)=some (.pointer (some a))/\zAw Tryz.prog 45 (.pointer (some a)) h=some x/\SU h x (m.getD i []):=s.at etM.under etM.size (by kernel_rfl) hi
theorem SM.lenRV {h:Heap} {v:Value} {m:List (List Nat)} (s:SM h v m):lenV Tryz.prog 117 v h=some (.int .i64 m.length):=let ⟨_,x,_⟩:=s;x.row.len_eq etM.under
structure AMv (eo:TypeId) (n0:Nat) (h:Heap) (v:Value) (vs:List Value) (m:List (List Nat)):Prop where
 out:Acc n0 h eo 1 v m.length vs
 rows:All2 (AU n0 h) vs m
 apart:vs.Pairwise fun x y=>∀b,zAn x=some b->zAn y≠some b
def AM (eo:TypeId) (n0:Nat) (h:Heap) (v:Value) (m:List (List Nat)):Prop:=∃vs,AMv eo n0 h v vs m
theorem AMv.kp {eo:TypeId} {n0:Nat} {h h':Heap} {v:Value} {vs:List Value} {m:List (List Nat)} (a:AMv eo n0 h v vs m) (k:∀b all ty,h.blks[b]?=some ⟨.cells all,ty,true⟩->ty=eo\/ty=30->n0<=b->h'.blks[b]?=h.blks[b]?):AMv eo n0 h' v vs m:=
 ⟨a.out.keep fun b _ hv=>by obtain ⟨all,h1⟩:=a.out.blk hv;exact k b all _ h1 (.inl rfl) (a.out.ge hv),a.rows.mono fun _ _ x=>x.keep fun b _ hv=>by obtain ⟨all,h1⟩:=x.blk hv;exact k b all _ h1 (.inr rfl) (x.ge hv),a.apart⟩
theorem AMv.smv {eo:TypeId} (hs:sizeT Tryz.prog eo=some 1) {n0:Nat} {h:Heap} {v:Value} {vs:List Value} {m:List (List Nat)} (a:AMv eo n0 h v vs m):SMv h v vs m:=⟨a.out.sl hs,a.rows.mono fun _ _ x=>x.su⟩
theorem AM.smV {n0:Nat} {h:Heap} {v:Value} {m:List (List Nat)} (a:AM 45 n0 h v m):SM h v m:=let ⟨vs,x⟩:=a;⟨vs,x.smv etM.size⟩
theorem AM.kp {eo:TypeId} {n0:Nat} {h h':Heap} {v:Value} {m:List (List Nat)} (a:AM eo n0 h v m) (k:∀b all ty,h.blks[b]?=some ⟨.cells all,ty,true⟩->ty=eo\/ty=30->n0<=b->h'.blks[b]?=h.blks[b]?):AM eo n0 h' v m:=let ⟨vs,x⟩:=a;⟨vs,x.kp k⟩
theorem AM.same {eo:TypeId} {n0:Nat} {h h':Heap} {v:Value} {m:List (List Nat)} (a:AM eo n0 h v m) (e:Same h h'):AM eo n0 h' v m:=a.kp fun b _ _ hb _ _=>e.2 b (List.getElem?_eq_some_iff.1 hb).1
theorem AM.done {eo:TypeId} {n0:Nat} {h0 h:Heap} {v:Value} {m:List (List Nat)} (a:AM eo n0 h v m):AM eo n0 (Am.done h0 h) v m:=a.kp fun _ _ _ _ _ _=>rfl
theorem AM.nm {eo:TypeId} {n0:Nat} {h:Heap} {v:Value} {m:List (List Nat)} (a:AM eo n0 h v m):AM eo n0 (Am.nm h) v m:=a.kp fun _ _ _ _ _ _=>rfl
theorem AM.up {eo:TypeId} {n0 n1:Nat} {h:Heap} {v:Value} {m:List (List Nat)} (a:AM eo n0 h v m) (hn:n1<=n0):AM eo n1 h v m:=let ⟨vs,x⟩:=a;⟨vs,x.out.up hn,x.rows.mono fun _ _ y=>y.up hn,x.apart⟩
theorem AMv.put {eo:TypeId} {n0:Nat} {h:Heap} {v:Value} {vs:List Value} {m:List (List Nat)} (a:AMv eo n0 h v vs m) {p:Nat} {ty:TypeId} {cs:List Value} (c:Cells h p ty cs) (h1:ty≠eo) (h2:ty≠30) (body:Body):AMv eo n0 (h.put p body) v vs m:=
 a.kp fun b all t hb ht _=>Heap.put_other (fun e=>by
  subst e
  unfold Cells at c
  rw[hb] at c
  simp only[Option.some.injEq,Blk.mk.injEq] at c
  rcases ht with ht | ht
  ·exact h1 (c.2.1.symm.trans ht)
  ·exact h2 (c.2.1.symm.trans ht)) _
theorem AM.put {eo:TypeId} {n0:Nat} {h:Heap} {v:Value} {m:List (List Nat)} (a:AM eo n0 h v m) {p:Nat} {ty:TypeId} {cs:List Value} (c:Cells h p ty cs) (h1:ty≠eo) (h2:ty≠30) (body:Body):AM eo n0 (h.put p body) v m:=let ⟨vs,x⟩:=a;⟨vs,x.put c h1 h2 body⟩
theorem AM.shape {eo:TypeId} {n0:Nat} {h:Heap} {v:Value} {m:List (List Nat)} (a:AM eo n0 h v m):∃a c,v=.slice a m.length c:=let ⟨_,x⟩:=a;x.out.shape
theorem AM.nil (eo:TypeId) (n0:Nat) (h:Heap):AM eo n0 h (.slice none 0 0) []:=⟨[],.nil,.nil,.nil⟩
theorem Acc.blk_ne {n0 n1:Nat} {h:Heap} {e1 e2:TypeId} {es es' n n':Nat} {v w:Value} {cs ds:List Value} (a:Acc n0 h e1 es v n cs) (a':Acc n1 h e2 es' w n' ds) (hne:e1≠e2) {b:Nat} (hv:zAn v=some b):zAn w≠some b:=fun hw=>by
 obtain ⟨_,x⟩:=a.blk hv
 obtain ⟨_,y⟩:=a'.blk hw
 rw[x] at y
 simp only[Option.some.injEq,Blk.mk.injEq] at y
 exact hne y.2.1
theorem AM.app {t eo:TypeId} (et:ElemT Tryz.prog t eo 1 24 (.slice none 0 0)) (hne:eo≠30) {n0:Nat} {h1 h:Heap} (hn:n0<=h1.blks.length) {v:Value} {m:List (List Nat)} (am:AM eo n0 h1 v m) (sm:Same h1 h) {a:Option Addr} {c:Nat} {r:List Nat} (ax:AU h1.blks.length h (.slice a r.length c) r) (hl:m.length<2^38) :
  ∃a' c' h',zBh Tryz.prog t (some t) v (.slice (some ⟨h.blks.length,0,none⟩) 1 1) (h.new (.cells [.slice a r.length c]) eo)=some (.slice a' (m++[r]).length c',h')/\AM eo n0 h' (.slice a' (m++[r]).length c') (m++[r])/\Keeps n0 h h'/\(∀p ty cs,Cells h p ty cs->ty≠eo->Cells h' p ty cs):=by
 obtain ⟨vs,A⟩:=am
 have A1:=A.kp (h':=h) fun b _ _ hb _ _=>sm.2 b (List.getElem?_eq_some_iff.1 hb).1
 have A2:=A1.kp (h':=h.new (.cells [.slice a r.length c]) eo) fun b _ _ hb _ _=>Heap.new_old (List.getElem?_eq_some_iff.1 hb).1
 have hh:n0<=h.blks.length:=Nat.le_trans hn sm.1
 have ax2:AU h1.blks.length (h.new (.cells [.slice a r.length c]) eo) (.slice a r.length c) r:=ax.keep fun b hb _=>Heap.new_old hb
 have hrow:Row (h.new (.cells [.slice a r.length c]) eo) 1 (.slice (some ⟨h.blks.length,0,none⟩) 1 1) 1 [.slice a r.length c]:=.mk (loadN_blk (zBn _ _ _) rfl)
 obtain ⟨v',h',e1,e2,e3,e4,e5⟩:=append_acc et (t1:=some t) (n0:=n0) (by simp[Heap.new];omega) A2.out (newsV_row et.under hrow) (by simp) (by omega) (by omega) (by simp[Value.oneCell'])
 obtain ⟨a',c',rfl⟩:=e2.shape
 have el:m.length+1=(m++[r]).length:=by simp
 rw[el] at e1 e2
 have kr:∀b,b<(h.new (.cells [.slice a r.length c]) eo).blks.length->zAn v≠some b->h'.blks[b]?=(h.new (.cells [.slice a r.length c]) eo).blks[b]?:=e4
 refine ⟨a',c',h',e1,⟨vs++[.slice a r.length c],e2,(A2.rows.mono fun x y s=>?_).append (.cons ?_ .nil),?_⟩,(Keeps.new hh _ _).trans e3,fun p ty cs hp ht=>?_⟩
 ·exact s.keep fun b hb hv=>kr b hb fun e=>(s.blk_ne A2.out (Ne.symm hne) hv) e
 ·exact (ax2.keep fun b hb hv=>kr b hb fun e=>(ax2.blk_ne A2.out (Ne.symm hne) hv) e).up hn
 ·rw[List.pairwise_append]
  refine ⟨A.apart,List.pairwise_singleton _ _,fun x hx y hy b hb hb'=>?_⟩
  rw[List.mem_singleton] at hy
  subst hy
  obtain ⟨i,hi,rfl⟩:=List.getElem_of_mem hx
  obtain ⟨r',_,hr'⟩:=A.rows.get (i:=i) (a:=vs[i]) (List.getElem?_eq_getElem hi)
  have l1:=hr'.su.lt hb
  have l2:=ax.ge hb'
  omega
 ·have hp':Cells (h.new (.cells [.slice a r.length c]) eo) p ty cs:=hp.keepNew _ _
  refine (kr p hp'.lt fun e=>?_).trans hp'
  obtain ⟨all,x⟩:=A2.out.blk e
  unfold Cells at hp'
  rw[hp'] at x
  simp only[Option.some.injEq,Blk.mk.injEq] at x
  exact ht x.2.1
theorem AMv.set1q {eo:TypeId} (hne:eo≠30) {n0:Nat} {h:Heap} {v:Value} {vs:List Value} {m:List (List Nat)} (A:AMv eo n0 h v vs m) {t:TypeId} (ht:Tryz.prog.underlying t=some (.slice 30)) {i j:Nat} (hi:i<m.length) (hj:j<(m.getD i []).length) {x:Value} (hx:vs[i]?=some x) (k:Nat) :
  ∃b o h',zAh Tryz.prog t x (.int .i64 j)=some (.pointer (some ⟨b,o,none⟩))/\h.load1 b o=some (.int .u64 ((m.getD i []).getD j 0:Nat))/\h.storeN b o [.int .u64 k]=some h'/\AMv eo n0 h' v vs (m.set i ((m.getD i []).set j k))/\Keeps n0 h h'/\h'.blks.length=h.blks.length ∧
   (∀p ty cs,Cells h p ty cs->ty≠30->Cells h' p ty cs)/\(∀q,zAn x≠some q->h'.blks[q]?=h.blks[q]?):=by
 obtain ⟨y,hy,ay⟩:=A.rows.get' (i:=i) (b:=m[i]) (List.getElem?_eq_getElem hi)
 obtain rfl:x=y:=Option.some.inj (hx.symm.trans hy)
 have em:m.getD i []=m[i]:=by rw[List.getD_eq_getElem?_getD,List.getElem?_eq_getElem hi];rfl
 rw[em] at hj ⊢
 obtain ⟨b,o,h',e1,l1,st,a',k',hl,hb,hq⟩:=ay.set1 ht etU.size hj (.int .u64 (k:Nat)) .i64
 rw[map_get _ hj] at l1
 rw[set_u64] at a'
 obtain ⟨all,hall⟩:=ay.blk hb
 refine ⟨b,o,h',e1,l1,st,⟨?_,?_,A.apart⟩,k',hl,fun p ty cs hp hty=>(hq p fun e=>?_).trans hp,fun q hne=>hq q fun e=>hne (by rw[hb,e])⟩
 ·rw[List.length_set]
  exact A.out.keep fun c _ hc=>hq c fun e=>by
   subst e
   exact ay.blk_ne A.out (Ne.symm hne) hb hc
 ·have key:∀(l:List Value) (l2:List (List Nat)),All2 (AU n0 h) l l2->l.Pairwise (fun x y=>∀b,zAn x=some b->zAn y≠some b)->∀(i:Nat) (r:List Nat),l[i]?=some x->AU n0 h' x r->All2 (AU n0 h') l (l2.set i r):=by
   intro l l2 hR
   induction hR with
   | nil=>intro _ i r hi;simp at hi
   | cons p q ih=>
    rename_i aa bb la lb
    intro hp i r hi hr
    rw[List.pairwise_cons] at hp
    cases i with
    | zero=>
     simp only[List.getElem?_cons_zero,Option.some.injEq] at hi
     subst hi
     refine .cons hr ?_
     have:∀(l:List Value) (l2:List (List Nat)),All2 (AU n0 h) l l2->(∀z∈l,zAn z≠some b)->All2 (AU n0 h') l l2:=by
      intro l l2 hR
      induction hR with
      | nil=>intro _;exact .nil
      | cons p q ih=>intro hz;exact .cons (p.keep fun c _ hc=>hq c fun e=>hz _ List.mem_cons_self (by rw[hc,e])) (ih fun z hz'=>hz z (by simp[hz']))
     exact this _ _ q fun z hz=>hp.1 z hz b hb
    | succ i=>
     simp only[List.getElem?_cons_succ] at hi
     refine .cons (p.keep fun c _ hc=>hq c fun e=>?_) (ih hp.2 i r hi hr)
     exact hp.1 x (List.mem_of_getElem? hi) c hc (by rw[e];exact hb)
  refine key vs m A.rows A.apart i _ hx ?_
  unfold AU
  rw[List.length_set]
  exact a'
 ·subst e
  unfold Cells at hp
  rw[hp] at hall
  simp only[Option.some.injEq,Blk.mk.injEq] at hall
  exact hty hall.2.1
theorem AMv.set1 {eo:TypeId} (hne:eo≠30) {n0:Nat} {h:Heap} {v:Value} {vs:List Value} {m:List (List Nat)} (A:AMv eo n0 h v vs m) {t:TypeId} (ht:Tryz.prog.underlying t=some (.slice 30)) {i j:Nat} (hi:i<m.length) (hj:j<(m.getD i []).length) {x:Value} (hx:vs[i]?=some x) (k:Nat) :
  ∃b o h',zAh Tryz.prog t x (.int .i64 j)=some (.pointer (some ⟨b,o,none⟩))/\h.load1 b o=some (.int .u64 ((m.getD i []).getD j 0:Nat))/\h.storeN b o [.int .u64 k]=some h'/\AMv eo n0 h' v vs (m.set i ((m.getD i []).set j k))/\Keeps n0 h h'/\h'.blks.length=h.blks.length ∧
   (∀p ty cs,Cells h p ty cs->ty≠30->Cells h' p ty cs):=by
 obtain ⟨b,o,h',a1,a2,a3,a4,a5,a6,a7,_⟩:=A.set1q hne ht hi hj hx k
 exact ⟨b,o,h',a1,a2,a3,a4,a5,a6,a7⟩
def zerosM (n:Nat):List (List Nat):=List.replicate n (List.replicate n 0)
theorem mnew_loop {h0:Heap} {p q n:Nat} (hn:n<=16) (hq:h0.blks.length<=q) (hpq:p≠q) (hp:h0.blks.length<=p):∀(mm i:Nat) (h:Heap) (v:Value),n=i+mm->Cells h q 119 [.int .i64 0,.slice none 0 0]->Cells h p 119 [.int .i64 n,v]->AM 45 h0.blks.length h v (List.replicate i (List.replicate n 0))->In h0.blks.length No (nm h0) h->
  ∀(Ab Ad Af Ag Ah Ai Aj Ak Al An Ao Ar As Au Av Aw Ax Ay Az Ba Bb:Value),
  ∃v' h',loopK Tryz.prog (evC Tryz.prog) c54_1 ⟨#[.int .i64 n,Ab,.pointer (some ⟨q,0,none⟩),Ad,.pointer (some ⟨p,0,none⟩),Af,Ag,Ah,Ai,Aj,Ak,Al,An,Ao,.int .i64 n,.int .i64 i,Ar,As,Au,Av,Aw,Ax,Ay,Az,Ba,Bb],h⟩ (zAu 0 (seqK Tryz.prog (evC Tryz.prog) c54_2 (zBb Tryz.f54 Tryz.prog h0))) =
   some (.tuple #[matV n v',.int .i64 0],h')/\HExt h0 h'/\AM 45 h0.blks.length h' v' (zerosM n):=by
 intro mm
 induction mm with
 | zero=>
  intro i h v hi cq cp hA hin Ab Ad Af Ag Ah Ai Aj Ak Al An Ao Ar As Au Av Aw Ax Ay Az Ba Bb
  rw[zBe evC_m,c54_1_eq]
  obtain rfl:n=i:=by omega
  obtain ⟨a,c,rfl⟩:=hA.shape
  have cq2:=cq.put [.int .i64 n,.slice a (List.replicate n (List.replicate n 0)).length c]
  simp -implicitDefEqProofs (disch:=omega) only[dcT,dcF,↓c54_2_eq,ldM,cp.loadN (n:=2) rfl,stM,zAp cq (o:=0) (vs:=[.int .i64 n,.slice a (List.replicate n (List.replicate n 0)).length c]) (by simp),w2_put,↓ret54,↓zAc,↓zAb,↓Option.bind_some,↓zAa,sxA]
  simp -implicitDefEqProofs only[ldM,cq2.loadN (n:=2) rfl,Option.map_some,Option.bind_some,rvals_two,zBj]
  exact ⟨_,_,rfl,zAl (hin.trans (In.put hin.len (.inl hq) _)),(hA.put cq (by decide) (by decide) _).done⟩
 | succ mm ih=>
  intro i h v hi cq cp hA hin Ab Ad Af Ag Ah Ai Aj Ak Al An Ao Ar As Au Av Aw Ax Ay Az Ba Bb
  rw[zBe evC_m,c54_1_eq]
  obtain ⟨a,c,h1,e1,Ab,s1⟩:=spec_New (n:Int) (nm h)
  have en:(min (max (n:Int) 0) 64).toNat=n:=by omega
  rw[en] at e1 s1
  obtain ⟨Ab',m1⟩:=Ab.amx
  have s1':AU h.blks.length (am h1 h) (.slice a (List.replicate n 0).length c) (List.replicate n 0):=s1.keep fun _ _ _=>rfl
  have hlen:h0.blks.length<=h.blks.length:=hin.len
  obtain ⟨a2,c2,h2,e2,s2,k2,o2⟩:=hA.app etM (by decide) hlen Ab'.same s1' (by simp;omega)
  have cp2:=o2 _ _ _ (cp.ext Ab') (by decide)
  have cq2:=o2 _ _ _ (cq.ext Ab') (by decide)
  have er:List.replicate i (List.replicate n 0)++[List.replicate n 0]=List.replicate (i+1) (List.replicate n 0):=List.replicate_succ'.symm
  have hw:IntKind.wrap .i64 ((i:Int)+1)=((i+1:Nat):Int):=by rw[wrap_i64]<;>omega
  rw[er] at e2 s2
  have cp3:=cp2.put [.int .i64 n,.slice a2 (List.replicate (i+1) (List.replicate n 0)).length c2]
  simp -implicitDefEqProofs (disch:=omega) only[dcT,dcF,faM1,ldRs,cp.load,two2,e1,mkR1,e2,stRs,zAp cp2 (o:=1) (vs:=[.slice a2 (List.replicate (i+1) (List.replicate n 0)).length c2]) (by simp),w2_put1,m1,List.append_nil,hw,↓zAc,↓zAb,↓Option.bind_some,↓zAa,sxA]
  exact ih (i+1) _ _ (by omega) (cq2.keepPut hpq _) cp3 (s2.put cp2 (by decide) (by decide) _) (((hin.trans (Ab'.inn hlen)).trans k2.inn).trans (In.put (by have:=Ab'.len;have:=k2.len;omega) (.inl hp) _)) _ _ _ _ _ _ _ _ _ _ _ _ _ _ _ _ _ _ _ _ _
theorem spec_MNew (n:Int) (h:Heap):∃v h',evC Tryz.prog 54 #[.int .i64 n] h=some (.tuple #[matV (if 1<=n/\n<=16 then n else 0) v,.int .i64 (if 1<=n/\n<=16 then 0 else 1)],h')/\HExt h h'/\AM 45 h.blks.length h' v (if 1<=n/\n<=16 then zerosM n.toNat else []):=by
 rw[call54,c54_0_eq]
 have c1:=Cells.new (nm h) 119 [.int .i64 0,.slice none 0 0]
 by_cases hc:1<=n/\n<=16
 ·obtain ⟨n,rfl⟩:∃m:Nat,n=m:=⟨n.toNat,by omega⟩
  simp only[if_pos hc,Int.toNat_natCast]
  have i1:In h.blks.length No (nm h) _:=In.new (by simp) (.cells [.int .i64 0,.slice none 0 0]) 119
  have l1:((nm h).new (.cells [.int .i64 0,.slice none 0 0]) 119).blks.length=h.blks.length+1:=by simp[Heap.new]
  have al1:=alM (nm h)
  have bl:(nm h).blks.length=h.blks.length:=rfl
  rw[bl] at al1 c1
  generalize (nm h).new (.cells [.int .i64 0,.slice none 0 0]) 119=h1 at *
  have c2:=Cells.new h1 119 [.int .i64 0,.slice none 0 0]
  have c1':=c1.keepNew (.cells [.int .i64 0,.slice none 0 0]) 119
  have c3:=c2.put [.int .i64 n,.slice none 0 0]
  have i2:In h.blks.length No h1 _:=In.new (by omega) (.cells [.int .i64 0,.slice none 0 0]) 119
  have i3:In h.blks.length No _ _:=In.put (h:=h1.new (.cells [.int .i64 0,.slice none 0 0]) 119) (p:=h1.blks.length) (S:=No) (Nat.le_trans (by omega) i2.len) (.inl (by omega)) (.cells [.int .i64 n,.slice none 0 0])
  simp -implicitDefEqProofs (disch:=omega) only[dcT,dcF,al1,alM,bdM1,stM,zAp c2 (o:=0) (vs:=[.int .i64 n,.slice none 0 0]) (by simp),w2_put,↓zAc,↓zAb,↓Option.bind_some,↓zAa,sxA]
  exact mnew_loop (h0:=h) (n:=n) (by omega) (by omega) (by omega) (by omega) n 0 _ _ (by omega) (c1'.keepPut (by omega) _) c3 (AM.nil _ _ _) ((i1.trans i2).trans i3) _ _ _ _ _ _ _ _ _ _ _ _ _ _ _ _ _ _ _ _ _
 ·simp only[if_neg hc]
  have c2:=c1.put [.int .i64 0,.slice none 0 0]
  rcases (by omega:n<1\/16<n) with h1 | h1 <;>
  ·simp -implicitDefEqProofs (disch:=omega) only[dcT,dcF,alM,bdM0,stM,zAp c1 (o:=0) (vs:=[.int .i64 0,.slice none 0 0]) (by simp),w2_put,↓ret54,↓zAc,↓zAb,↓Option.bind_some,↓zAa,sxA]
   simp -implicitDefEqProofs only[ldM,c2.loadN (n:=2) rfl,Option.map_some,Option.bind_some,rvals_two,zBj]
   exact ⟨_,_,rfl,zAl ((In.new (h:=nm h) (n0:=h.blks.length) (Nat.le_refl _) _ _).trans (In.put (by simp[Heap.new]) (.inl (Nat.le_refl _)) _)),AM.nil _ _ _⟩
def goodM (n:Int) (m:List (List Nat)):Bool:=decide (1<=n/\n<=16/\(m.length:Int)=n) && m.all fun r=>decide ((r.length:Int)=n)
theorem goodM_iff (n:Int) (m:List (List Nat)):goodM n m=true ↔ (1<=n/\n<=16/\(m.length:Int)=n)/\∀r∈m,(r.length:Int)=n:=by
 simp[goodM]
abbrev cloV (p:Nat):Value:=.func (.func 112) #[] #[.pointer (some ⟨p,0,none⟩)]
theorem clo116 (p:Nat) (x:Value) (h:Heap):callV Tryz.prog (evC Tryz.prog) (cloV p) #[x] h=evC Tryz.prog 112 #[x,.pointer (some ⟨p,0,none⟩)] h:=by kernel_rfl
theorem call116' (x y:Value) (h:Heap):evC Tryz.prog 112 #[x,y] h=zAy Tryz.prog (evC Tryz.prog) zAx c112_0 ⟨#[x,y,undef,undef,undef,undef,undef,undef,undef],nm h⟩ (zBb Tryz.f112 Tryz.prog h):=
 (zAo 112 Tryz.f112 c112_0 Tryz.func112 (by kernel_rfl) #[x,y] h).trans (by kernel_rfl)
theorem spec_clo {h:Heap} {p:Nat} {n:Int} {v x:Value} {r:List Nat} (c:Cells h p 119 [.int .i64 n,v]) (s:SU h x r):evC Tryz.prog 112 #[x,.pointer (some ⟨p,0,none⟩)] h=some (.bool (!decide ((r.length:Int)=n)),h):=by
 rw[call116',c112_0_eq]
 have e:decide ((r.length:Int)≠n) = !decide ((r.length:Int)=n):=by by_cases g:(r.length:Int)=n<;>simp[g]
 simp -implicitDefEqProofs only[s.nm.row.len_eq etV.under,faM0,mldInt,c.nm.load,two1,e,↓ret112,↓zAc,↓zAb,↓Option.bind_some,↓zAa,sxA]
def idxL (n:Int):Int->List (List Nat)->Int
 | _,[]=>-1
 | i,r::l=>if (r.length:Int)=n then idxL n (i+1) l else i
theorem idxL_ge (n:Int):∀(l:List (List Nat)) (i:Int),0<=i->(decide (idxL n i l>=0) = !l.all fun r=>decide ((r.length:Int)=n))
 | [],i,h=>by simp[idxL]
 | r::l,i,h=>by
  unfold idxL
  by_cases g:(r.length:Int)=n
  ·rw[if_pos g,idxL_ge n l (i+1) (by omega)];simp[g]
  ·rw[if_neg g];simp[g];omega
theorem ifunc_loop {h0 h:Heap} {p:Nat} {n:Int} {v w:Value} {m:List (List Nat)} (c:Cells h p 119 [.int .i64 n,w]) (s:SM h v m) (hm:m.length<2^40):∀(mm i:Nat),m.length=i+mm->∀(Ac Ad Ae Af Ag Aj Ak Al An Ao Ap Aq Ar As Au:Value),
  loopK Tryz.prog (evC Tryz.prog) c127_1 ⟨#[v,cloV p,Ac,Ad,Ae,Af,Ag,.int .i64 m.length,.int .i64 i,Aj,Ak,Al,An,Ao,Ap,Aq,Ar,As,Au],h⟩ (zAu 0 (seqK Tryz.prog (evC Tryz.prog) c127_2 (zBb Tryz.f127 Tryz.prog h0)))=some (.int .i64 (idxL n i (m.drop i)),done h0 h):=by
 intro mm
 induction mm with
 | zero=>
  intro i hi Ac Ad Ae Af Ag Aj Ak Al An Ao Ap Aq Ar As Au
  rw[zBe evC_m,c127_1_eq,List.drop_of_length_le (by omega)]
  simp -implicitDefEqProofs (disch:=omega) only[dcT,dcF,↓c127_2_eq,↓ret127,idxL,↓zAc,↓zAb,↓Option.bind_some,↓zAa,sxA]
 | succ mm ih=>
  intro i hi Ac Ad Ae Af Ag Aj Ak Al An Ao Ap Aq Ar As Au
  rw[zBe evC_m,c127_1_eq]
  obtain ⟨a,x,e1,e2,s2⟩:=s.atV (i:=i) (by omega)
  have hd:m.drop i=m.getD i []::m.drop (i+1):=by
   rw[List.drop_eq_getElem_cons (by omega),List.getD_eq_getElem?_getD,List.getElem?_eq_getElem (by omega)];rfl
  rw[hd]
  have hcl:=spec_clo c s2
  have hw:IntKind.wrap .i64 ((i:Int)+1)=((i+1:Nat):Int):=by rw[wrap_i64]<;>omega
  unfold idxL
  by_cases g:((m.getD i []).length:Int)=n
  ·rw[decide_eq_true g] at hcl
   rw[if_pos g]
   simp -implicitDefEqProofs (disch:=omega) only[dcT,dcF,e1,e2,clo116,hcl,hw,↓zAc,↓zAb,↓Option.bind_some,↓zAa,sxA]
   exact ih (i+1) (by omega) _ _ _ _ _ _ _ _ _ _ _ _ _ _ _
  ·rw[decide_eq_false g] at hcl
   rw[if_neg g]
   simp -implicitDefEqProofs (disch:=omega) only[dcT,dcF,e1,e2,clo116,hcl,↓ret127,↓zAc,↓zAb,↓Option.bind_some,↓zAa,sxA]
theorem spec_contains {h:Heap} {p:Nat} {n:Int} {v w:Value} {m:List (List Nat)} (c:Cells h p 119 [.int .i64 n,w]) (s:SM h v m) (hm:m.length<2^40) :
  evC Tryz.prog 111 #[v,cloV p] h=some (.bool (!m.all fun r=>decide ((r.length:Int)=n)),h):=by
 rw[call111,c111_0_eq]
 have e1:evC Tryz.prog 127 #[v,cloV p] (nm h)=some (.int .i64 (idxL n 0 m),nm h):=by
  rw[call127,c127_0_eq]
  simp -implicitDefEqProofs only[s.nm.nm.lenRV,↓zAc,↓zAb,↓Option.bind_some,↓zAa,sxA]
  exact ifunc_loop (h0:=nm h) (h:=nm (nm h)) c.nm.nm s.nm.nm hm m.length 0 (by omega) _ _ _ _ _ _ _ _ _ _ _ _ _ _ _
 simp -implicitDefEqProofs only[e1,idxL_ge n m 0 (by omega),↓ret111,↓zAc,↓zAb,↓Option.bind_some,↓zAa,sxA]
theorem spec_GoodQ {h:Heap} {n:Int} {v:Value} {m:List (List Nat)} (s:SM h v m) (hm:m.length<2^40):∃h',evC Tryz.prog 91 #[matV n v] h=some (.bool (goodM n m),h')/\HExt h h':=by
 rw[call91,c91_0_eq]
 have c1:=Cells.new (nm h) 119 [.int .i64 n,v]
 have s1:=s.nm.new (.cells [.int .i64 n,v]) 119
 have hx:HExt h (done h ((nm h).new (.cells [.int .i64 n,v]) 119)):=zAl (In.new (by simp) _ _)
 by_cases h1:n<1
 ·have e:goodM n m=false:=by unfold goodM;rw[decide_eq_false (by omega)];rfl
  simp -implicitDefEqProofs (disch:=omega) only[dcT,dcF,matV,bxM,faM0,mldInt,c1.load,two1,e,↓ret91,↓zAc,↓zAb,↓Option.bind_some,↓zAa,sxA]
  exact ⟨_,rfl,hx⟩
 by_cases h2:16<n
 ·have e:goodM n m=false:=by unfold goodM;rw[decide_eq_false (by omega)];rfl
  simp -implicitDefEqProofs (disch:=omega) only[dcT,dcF,matV,bxM,faM0,mldInt,c1.load,two1,e,↓ret91,↓zAc,↓zAb,↓Option.bind_some,↓zAa,sxA]
  exact ⟨_,rfl,hx⟩
 by_cases h3:(m.length:Int)=n
 ·have e:goodM n m=m.all fun r=>decide ((r.length:Int)=n):=by unfold goodM;rw[decide_eq_true (by omega)];rfl
  have ec:=spec_contains c1 s1 hm
  simp -implicitDefEqProofs (disch:=omega) only[dcT,dcF,matV,bxM,faM0,faM1,mldInt,ldRs,c1.load,two1,two2,s1.lenRV,ec,e,Bool.not_not,↓ret91,↓zAc,↓zAb,↓Option.bind_some,↓zAa,sxA]
  exact ⟨_,rfl,hx⟩
 ·have e:goodM n m=false:=by unfold goodM;rw[decide_eq_false (by omega)];rfl
  simp -implicitDefEqProofs (disch:=omega) only[dcT,dcF,matV,bxM,faM0,faM1,mldInt,ldRs,c1.load,two1,two2,s1.lenRV,e,↓ret91,↓zAc,↓zAb,↓Option.bind_some,↓zAa,sxA]
  exact ⟨_,rfl,hx⟩
end Go.Am
namespace Go.Am
open Go.Proofs
set_option maxRecDepth 100000
attribute [local congr] zAf zAq zAr zAs zAj zAg
end Go.Am
namespace Go.Am
open Go.Proofs
set_option maxRecDepth 100000
attribute [local congr] zAf zAq zAr zAs zAj zAg
theorem getD_ext {a b:List Nat} (hl:a.length=b.length) (h:∀i,i<a.length->a.getD i 0=b.getD i 0):a=b:=by
 refine List.ext_getElem hl fun i h1 h2=>?_
 have:=h i h1
 simpa [List.getD_eq_getElem?_getD,h1,h2] using this
def joinU (a b:List Nat) (i:Nat):List Nat:=(List.range (max a.length b.length)).map fun j=>if j<i then max (a.getD j 0) (b.getD j 0) else a.getD j 0
def joinV (a b:List Nat):List Nat:=(List.range (max a.length b.length)).map fun j=>max (a.getD j 0) (b.getD j 0)
theorem joinU_len (a b:List Nat) (i:Nat):(joinU a b i).length=max a.length b.length:=by simp[joinU]
theorem joinV_len (a b:List Nat):(joinV a b).length=max a.length b.length:=by simp[joinV]
theorem joinU_get (a b:List Nat) (i j:Nat) (hj:j<max a.length b.length):(joinU a b i).getD j 0=if j<i then max (a.getD j 0) (b.getD j 0) else a.getD j 0:=by
 simp only[joinU,List.getD_eq_getElem?_getD,List.getElem?_map,List.getElem?_range hj];rfl
theorem joinV_get (a b:List Nat) (j:Nat):(joinV a b).getD j 0=max (a.getD j 0) (b.getD j 0):=by
 by_cases hj:j<max a.length b.length
 ·simp only[joinV,List.getD_eq_getElem?_getD,List.getElem?_map,List.getElem?_range hj];rfl
 ·have e:∀l:List Nat,l.length<=j->l.getD j 0=0:=fun l h=>by rw[List.getD_eq_getElem?_getD,List.getElem?_eq_none h];rfl
  rw[e _ (by rw[joinV_len];omega),e a (by omega),e b (by omega)];rfl
theorem getD_set (l:List Nat) (i j x:Nat) (hi:i<l.length):(l.set i x).getD j 0=if j=i then x else l.getD j 0:=by
 simp only[List.getD_eq_getElem?_getD,List.getElem?_set]
 by_cases h:i=j
 ·subst h;simp[hi]
 ·rw[if_neg h,if_neg (fun e=>h e.symm)]
theorem joinU_zero (a b:List Nat):longV a b.length=joinU a b 0:=by
 refine getD_ext (by rw[longV_len,joinU_len]) fun i hi=>?_
 rw[longV_len] at hi
 rw[longV_get,joinU_get a b 0 i hi,if_neg (by omega)]
theorem joinU_succ (a b:List Nat) (i:Nat) (hi:i<max a.length b.length):(joinU a b i).set i (max (a.getD i 0) (b.getD i 0))=joinU a b (i+1):=by
 refine getD_ext (by simp[joinU]) fun j hj=>?_
 rw[List.length_set,joinU_len] at hj
 rw[getD_set _ _ _ _ (by rw[joinU_len];exact hi),joinU_get a b i j hj,joinU_get a b (i+1) j hj]
 by_cases h:j=i
 ·subst h;rw[if_pos rfl,if_pos (by omega)]
 ·rw[if_neg h]
  by_cases h2:j<i
  ·rw[if_pos h2,if_pos (by omega)]
  ·rw[if_neg h2,if_neg (by omega)]
theorem joinU_end (a b:List Nat):joinU a b b.length=joinV a b:=by
 refine getD_ext (by rw[joinU_len,joinV_len]) fun i hi=>?_
 rw[joinU_len] at hi
 rw[joinU_get a b _ i hi,joinV_get]
 split
 ·rfl
 ·have:b.getD i 0=0:=by rw[List.getD_eq_getElem?_getD,List.getElem?_eq_none (by omega)];rfl
  rw[this];omega
theorem join_loopQ {h0:Heap} {w:Value} {a b:List Nat} (hb:b.length<2^39) (lo:Lo w h0.blks.length):∀(m i:Nat) (h:Heap) (v:Value),b.length=i+m->SU h w b->Acc h0.blks.length h 30 1 v (max a.length b.length) ((joinU a b i).map u64V)->In h0.blks.length No (nm h0) h->
  ∀(Aa Ab Ac Ad Ae Ag Ah Ai Aj Ak Al Aq Ar As Au Av Aw Ax Ay Az Ba Bb Bc Bd Be Bf:Value),
  ∃h',loopK Tryz.prog (evC Tryz.prog) c94_1 ⟨#[Aa,Ab,Ac,Ad,Ae,v,Ag,Ah,Ai,Aj,Ak,Al,w,.int .i64 b.length,.int .i64 i,Aq,Ar,As,Au,Av,Aw,Ax,Ay,Az,Ba,Bb,Bc,Bd,Be,Bf],h⟩ (zAu 0 (seqK Tryz.prog (evC Tryz.prog) c94_2 (zBb Tryz.f94 Tryz.prog h0))) =
   some (v,h')/\HExt h0 h'/\Acc h0.blks.length h' 30 1 v (max a.length b.length) ((joinV a b).map u64V):=by
 intro m
 induction m with
 | zero=>
  intro i h v hm sw sv hin Aa Ab Ac Ad Ae Ag Ah Ai Aj Ak Al Aq Ar As Au Av Aw Ax Ay Az Ba Bb Bc Bd Be Bf
  rw[zBe evC_m,c94_1_eq]
  simp -implicitDefEqProofs (disch:=omega) only[dcT,dcF,↓c94_2_eq,↓ret94,↓zAc,↓zAb,↓Option.bind_some,↓zAa,sxA]
  have:i=b.length:=by omega
  subst this
  rw[joinU_end] at sv
  exact ⟨_,rfl,zAl hin,sv.done⟩
 | succ m ih=>
  intro i h v hm sw sv hin Aa Ab Ac Ad Ae Ag Ah Ai Aj Ak Al Aq Ar As Au Av Aw Ax Ay Az Ba Bb Bc Bd Be Bf
  rw[zBe evC_m,c94_1_eq]
  obtain ⟨p,e1,e2⟩:=su_at sw etV.under (i:=i) (by omega)
  obtain ⟨q,o,h2,e3,l3,st3,s3,k3,ln3,bq,oq⟩:=sv.set1 etV.under etV.size (i:=i) (by omega) (.int .u64 ((max (a.getD i 0) (b.getD i 0):Nat):Int)) .i64
  rw[map_get _ (by rw[joinU_len];omega),joinU_get a b i i (by omega),if_neg (by omega)] at l3
  rw[set_u64,joinU_succ a b i (by omega)] at s3
  have hmx:max ((a.getD i 0:Nat):Int) (b.getD i 0:Nat)=((max (a.getD i 0) (b.getD i 0):Nat):Int):=by omega
  have hw:IntKind.wrap .i64 ((i:Int)+1)=((i+1:Nat):Int):=by rw[wrap_i64]<;>omega
  have hq:=sv.ge bq
  have sw2:SU h2 w b:=sw.keep fun x hx hv=>oq x (by have:=lo x hv;omega)
  simp -implicitDefEqProofs (disch:=omega) only[dcT,dcF,e1,e2,e3,vld64,l3,vmaxU,hmx,vst64,st3,hw,↓zAc,↓zAb,↓Option.bind_some,↓zAa,sxA]
  exact ih (i+1) h2 v (by omega) sw2 s3 (hin.trans k3.inn) _ _ _ _ _ _ _ _ _ _ _ _ _ _ _ _ _ _ _ _ _ _ _ _ _ _
theorem spec_JoinQ {h:Heap} {v w:Value} {a b:List Nat} (sv:SU h v a) (sw:SU h w b) (ha:a.length<2^38) (hb:b.length<2^38) :
  ∃x c h',evC Tryz.prog 94 #[v,w] h=some (.slice x (joinV a b).length c,h')/\HExt h h'/\AU h.blks.length h' (.slice x (joinV a b).length c) (joinV a b):=by
 rw[call94,c94_0_eq]
 obtain ⟨x,c,h1,e1,Ab,s1⟩:=spec_long (nm h) v a sv.nm (by omega) b.length (by omega)
 have sw1:=sw.nm.ext Ab
 simp -implicitDefEqProofs (disch:=omega) only[dcT,dcF,sw.nm.row.len_eq etV.under,e1,sw1.row.len_eq etV.under,↓zAc,↓zAb,↓Option.bind_some,↓zAa,sxA]
 have s1':Acc h.blks.length h1 30 1 (.slice x (longV a b.length).length c) (max a.length b.length) ((joinU a b 0).map u64V):=by
  have:=s1
  unfold AU at this
  rw[joinU_zero,joinU_len] at this
  rw[joinU_zero,joinU_len]
  exact this
 obtain ⟨h',e2,Ac,s2⟩:=join_loopQ (h0:=h) (a:=a) (by omega) sw.lo b.length 0 h1 _ (by omega) sw1 s1' (Ab.inn (by simp)) _ _ _ _ _ _ _ _ _ _ _ _ _ _ _ _ _ _ _ _ _ _ _ _ _ _
 have el:(longV a b.length).length=(joinV a b).length:=by rw[longV_len,joinV_len]
 rw[el] at e2 s2
 refine ⟨x,c,h',?_,Ac,?_⟩
 ·rw[<-e2,el];rfl
 ·unfold AU
  have:=s2
  rw[joinV_len] at this ⊢
  exact this
end Go.Am
namespace Go.Am
open Go.Proofs
set_option maxRecDepth 100000
set_option linter.all false
attribute [local congr] zAf zAq zAr zAs zAj zAg
theorem take_succ_getD {α:Type} (l:List α) (d:α) {i:Nat} (hi:i<l.length):l.take i++[l.getD i d]=l.take (i+1):=by
 rw[List.take_add_one,List.getD_eq_getElem?_getD,List.getElem?_eq_getElem hi];rfl
def Small (m:List (List Nat)):Prop:=m.length<2^37/\∀i,(m.getD i []).length<2^37
theorem clone_loop {h0:Heap} {p q:Nat} {n:Int} {v:Value} {m:List (List Nat)} (s0:SM h0 v m) (sml:Small m) (hq:h0.blks.length<=q) (hpq:p≠q) (hp:h0.blks.length<=p):∀(mm i:Nat) (h:Heap) (w:Value),m.length=i+mm->Cells h q 119 [.int .i64 0,.slice none 0 0]->Cells h p 119 [.int .i64 n,w]->AM 45 h0.blks.length h w (m.take i)->In h0.blks.length No (nm h0) h->
  ∀(Aa Ab Ae Af Ag Ah Ai Aj Ao Ap Aq Ar As Au Av Aw Ax Ay Az Ba:Value),
  ∃v' h',loopK Tryz.prog (evC Tryz.prog) c92_1 ⟨#[Aa,Ab,.pointer (some ⟨q,0,none⟩),.pointer (some ⟨p,0,none⟩),Ae,Af,Ag,Ah,Ai,Aj,v,.int .i64 m.length,.int .i64 i,Ao,Ap,Aq,Ar,As,Au,Av,Aw,Ax,Ay,Az,Ba],h⟩ (zAu 0 (seqK Tryz.prog (evC Tryz.prog) c92_2 (zBb Tryz.f92 Tryz.prog h0))) =
   some (matV n v',h')/\HExt h0 h'/\AM 45 h0.blks.length h' v' m:=by
 intro mm
 induction mm with
 | zero=>
  intro i h w hi cq cp hA hin Aa Ab Ae Af Ag Ah Ai Aj Ao Ap Aq Ar As Au Av Aw Ax Ay Az Ba
  rw[zBe evC_m,c92_1_eq]
  rw[List.take_of_length_le (by omega)] at hA
  obtain ⟨a,c,rfl⟩:=hA.shape
  have cq2:=cq.put [.int .i64 n,.slice a m.length c]
  simp -implicitDefEqProofs (disch:=omega) only[dcT,dcF,↓c92_2_eq,ldM,cp.loadN (n:=2) rfl,stM,zAp cq (o:=0) (vs:=[.int .i64 n,.slice a m.length c]) (by simp),w2_put,↓ret92,↓zAc,↓zAb,↓Option.bind_some,↓zAa,sxA]
  simp -implicitDefEqProofs only[ldM,cq2.loadN (n:=2) rfl,Option.map_some,Option.bind_some,rvals_one,zBj]
  exact ⟨_,_,rfl,zAl (hin.trans (In.put hin.len (.inl hq) _)),(hA.put cq (by decide) (by decide) _).done⟩
 | succ mm ih=>
  intro i h w hi cq cp hA hin Aa Ab Ae Af Ag Ah Ai Aj Ao Ap Aq Ar As Au Av Aw Ax Ay Az Ba
  rw[zBe evC_m,c92_1_eq]
  have hlen:h0.blks.length<=h.blks.length:=hin.len
  have s1:=s0.same hin.same0
  obtain ⟨ad,x,ea,ex,sx⟩:=s1.atV (i:=i) (by omega)
  obtain ⟨a,c,h1,e1,Ab,s2⟩:=spec_CloneV (nm h) x _ sx.nm (by have:=sml.2 i;omega)
  obtain ⟨Ab',m1⟩:=Ab.amx
  have s2':AU h.blks.length (Am.am h1 h) (.slice a (m.getD i []).length c) (m.getD i []):=s2.keep fun _ _ _=>rfl
  obtain ⟨a2,c2,h2,e2,s3,k2,o2⟩:=hA.app etM (by decide) hlen Ab'.same s2' (by have:=sml.1;simp;omega)
  have cp2:=o2 _ _ _ (cp.ext Ab') (by decide)
  have cq2:=o2 _ _ _ (cq.ext Ab') (by decide)
  have hw:IntKind.wrap .i64 ((i:Int)+1)=((i+1:Nat):Int):=by have:=sml.1;rw[wrap_i64]<;>omega
  rw[take_succ_getD m [] (by omega)] at e2 s3
  have cp3:=cp2.put [.int .i64 n,.slice a2 (m.take (i+1)).length c2]
  simp -implicitDefEqProofs (disch:=omega) only[dcT,dcF,ea,ex,faM1,ldRs,cp.load,two2,e1,mkR1,e2,stRs,zAp cp2 (o:=1) (vs:=[.slice a2 (m.take (i+1)).length c2]) (by simp),w2_put1,m1,List.append_nil,hw,↓zAc,↓zAb,↓Option.bind_some,↓zAa,sxA]
  exact ih (i+1) _ _ (by omega) (cq2.keepPut hpq _) cp3 (s3.put cp2 (by decide) (by decide) _) (((hin.trans (Ab'.inn hlen)).trans k2.inn).trans (In.put (by have:=Ab'.len;have:=k2.len;omega) (.inl hp) _)) _ _ _ _ _ _ _ _ _ _ _ _ _ _ _ _ _ _ _ _
theorem spec_cloneQ {h:Heap} {n:Int} {v:Value} {m:List (List Nat)} (s:SM h v m) (sml:Small m):∃v' h',evC Tryz.prog 92 #[matV n v] h=some (matV n v',h')/\HExt h h'/\AM 45 h.blks.length h' v' m:=by
 rw[call92,c92_0_eq]
 have k0:=bxM (.int .i64 n) v (nm h)
 have c0:=Cells.new (nm h) 119 [.int .i64 n,v]
 have i0:In h.blks.length No (nm h) _:=In.new (by simp) (.cells [.int .i64 n,v]) 119
 have l0:((nm h).new (.cells [.int .i64 n,v]) 119).blks.length=h.blks.length+1:=by simp[Heap.new]
 have bl:(nm h).blks.length=h.blks.length:=rfl
 rw[bl] at k0 c0
 generalize (nm h).new (.cells [.int .i64 n,v]) 119=g0 at *
 have k1:=alM g0
 have c1:=Cells.new g0 119 [.int .i64 0,.slice none 0 0]
 have i1:In h.blks.length No g0 _:=In.new i0.len (.cells [.int .i64 0,.slice none 0 0]) 119
 have c01:=c0.keepNew (.cells [.int .i64 0,.slice none 0 0]) 119
 have l1:(g0.new (.cells [.int .i64 0,.slice none 0 0]) 119).blks.length=g0.blks.length+1:=by simp[Heap.new]
 generalize g0.new (.cells [.int .i64 0,.slice none 0 0]) 119=g1 at *
 have k2:=alM g1
 have c2:=Cells.new g1 119 [.int .i64 0,.slice none 0 0]
 have i2:In h.blks.length No g1 _:=In.new (by omega) (.cells [.int .i64 0,.slice none 0 0]) 119
 have c02:=(c01.keepNew (.cells [.int .i64 0,.slice none 0 0]) 119).keepPut (q:=g1.blks.length) (by omega) (.cells [.int .i64 n,.slice none 0 0])
 have c12:=(c1.keepNew (.cells [.int .i64 0,.slice none 0 0]) 119).keepPut (q:=g1.blks.length) (by omega) (.cells [.int .i64 n,.slice none 0 0])
 have c22:=c2.put [.int .i64 n,.slice none 0 0]
 have i3:In h.blks.length No _ _:=In.put (h:=g1.new (.cells [.int .i64 0,.slice none 0 0]) 119) (p:=g1.blks.length) (S:=No) (Nat.le_trans (by omega) i2.len) (.inl (by omega)) (.cells [.int .i64 n,.slice none 0 0])
 have hin:=((i0.trans i1).trans i2).trans i3
 have sv:=s.same hin.same0
 simp -implicitDefEqProofs (disch:=omega) only[matV,k0,k1,faM0,faM1,mldInt,c01.load,two1,bdM1,k2,stM,zAp c2 (o:=0) (vs:=[.int .i64 n,.slice none 0 0]) (by simp),w2_put,ldRs,c02.load,two2,sv.lenRV,↓zAc,↓zAb,↓Option.bind_some,↓zAa,sxA]
 exact clone_loop (h0:=h) s sml (by omega) (by omega) (by omega) m.length 0 _ _ (by omega) c12 c22 (AM.nil _ _ _) hin _ _ _ _ _ _ _ _ _ _ _ _ _ _ _ _ _ _ _ _
def up1 (to:Nat) (k:Nat) (r:List Nat):List Nat:=(List.range r.length).map fun j=>if j<k/\hasB to j=true/\r.getD j 0<2^64-1 then r.getD j 0+1 else r.getD j 0
theorem up1_len (to k:Nat) (r:List Nat):(up1 to k r).length=r.length:=by simp[up1]
theorem list_ext (a b:List Nat) (hl:a.length=b.length) (h:∀j,j<a.length->a.getD j 0=b.getD j 0):a=b:=by
 refine List.ext_getElem hl fun j h1 h2=>?_
 have:=h j h1
 rwa [List.getD_eq_getElem?_getD,List.getD_eq_getElem?_getD,List.getElem?_eq_getElem h1,List.getElem?_eq_getElem h2] at this
theorem up1_get (to k:Nat) (r:List Nat) (j:Nat) (hj:j<r.length):(up1 to k r).getD j 0=if j<k/\hasB to j=true/\r.getD j 0<2^64-1 then r.getD j 0+1 else r.getD j 0:=by
 rw[List.getD_eq_getElem?_getD,List.getElem?_eq_getElem (by rw[up1_len];exact hj)]
 simp[up1]
theorem up1_zero (to:Nat) (r:List Nat):up1 to 0 r=r:=by
 refine list_ext _ _ (up1_len ..) fun j hj=>?_
 rw[up1_get _ _ _ _ (by rw[up1_len] at hj;exact hj),if_neg (by omega)]
theorem set_getD (l:List Nat) (i x j:Nat) (hi:i<l.length):(l.set i x).getD j 0=if j=i then x else l.getD j 0:=by
 rw[List.getD_eq_getElem?_getD,List.getElem?_set]
 by_cases h:j=i
 ·subst h;simp[hi]
 ·rw[if_neg (Ne.symm h),if_neg h,List.getD_eq_getElem?_getD]
theorem up1_succ_yes (to k:Nat) (r:List Nat) (hk:k<r.length) (h1:hasB to k=true) (h2:r.getD k 0<2^64-1):(up1 to k r).set k (r.getD k 0+1)=up1 to (k+1) r:=by
 refine list_ext _ _ (by rw[List.length_set,up1_len,up1_len]) fun j hj=>?_
 rw[List.length_set,up1_len] at hj
 rw[set_getD _ _ _ _ (by rw[up1_len];exact hk),up1_get _ _ _ _ hj,up1_get _ _ _ _ hj]
 by_cases h:j=k
 ·subst h;rw[if_pos rfl,if_pos ⟨by omega,h1,h2⟩]
 ·rw[if_neg h]
  by_cases h3:hasB to j=true/\r.getD j 0<2^64-1
  ·by_cases h4:j<k
   ·rw[if_pos ⟨h4,h3⟩,if_pos ⟨by omega,h3⟩]
   ·rw[if_neg (by omega),if_neg (by omega)]
  ·rw[if_neg (fun x=>h3 x.2),if_neg (fun x=>h3 x.2)]
theorem up1_succ_no (to k:Nat) (r:List Nat) (h1:¬(hasB to k=true/\r.getD k 0<2^64-1)):up1 to (k+1) r=up1 to k r:=by
 refine list_ext _ _ (by rw[up1_len,up1_len]) fun j hj=>?_
 rw[up1_len] at hj
 rw[up1_get _ _ _ _ hj,up1_get _ _ _ _ hj]
 by_cases h:j=k
 ·subst h;rw[if_neg (fun x=>h1 x.2),if_neg (fun x=>h1 x.2)]
 ·by_cases h3:hasB to j=true/\r.getD j 0<2^64-1
  ·by_cases h4:j<k
   ·rw[if_pos ⟨by omega,h3⟩,if_pos ⟨h4,h3⟩]
   ·rw[if_neg (by omega),if_neg (by omega)]
  ·rw[if_neg (fun x=>h3 x.2),if_neg (fun x=>h3 x.2)]
def upM (n:Int) (m:List (List Nat)) (i:Int) (to:Nat):List (List Nat):=if goodM n m=true/\0<=i/\i<n then m.set i.toNat (up1 to n.toNat (m.getD i.toNat [])) else m
theorem lset_getD {m:List (List Nat)} {i:Nat} (hi:i<m.length) (r:List Nat):(m.set i r).getD i []=r:=by
 rw[List.getD_eq_getElem?_getD,List.getElem?_set_self hi];rfl
theorem up_loop {h0:Heap} {p q i n:Nat} {to:Nat} (hto:to<2^64) {w x:Value} {vs:List Value} {m:List (List Nat)} (hi:i<m.length) (hx:vs[i]?=some x) (hr:(m.getD i []).length=n) (hn:n<=16) (hq:h0.blks.length<=q) (hpq:p≠q) (hmb:∀r∈m,∀y∈r,y<2^64) :
  ∀(mm j:Nat) (h:Heap),n=j+mm->Cells h q 119 [.int .i64 0,.slice none 0 0]->Cells h p 119 [.int .i64 n,w]->AMv 45 h0.blks.length h w vs (m.set i (up1 to j (m.getD i [])))->In h0.blks.length No (nm h0) h->
  ∀(Aa Ad Ae Af Ai Aj Ak Al An Ao Ap Aq Ar As Au Av Aw Ax Ay Az Ba Bb Bc Bd Be Bf Bj Bk Bl Bm Bn Bo Bp Bq Br Bs Bt Bu Bv Bw Bx By Bz Ca Cb Cc Cd Ce Cf:Value),
  ∃v' h',loopK Tryz.prog (evC Tryz.prog) c57_1 ⟨#[Aa,.int .i64 i,.int .u64 to,Ad,Ae,Af,.pointer (some ⟨q,0,none⟩),.pointer (some ⟨p,0,none⟩),Ai,Aj,Ak,Al,An,Ao,Ap,Aq,Ar,As,Au,Av,Aw,Ax,Ay,Az,Ba,Bb,Bc,Bd,Be,Bf,x,.int .i64 n,.int .i64 j,Bj,Bk,Bl,Bm,Bn,Bo,Bp,Bq,Br,Bs,Bt,Bu,Bv,Bw,Bx,By,Bz,Ca,Cb,Cc,Cd,Ce,Cf],h⟩ (zAu 0 (seqK Tryz.prog (evC Tryz.prog) c57_2 (zBb Tryz.f57 Tryz.prog h0))) =
   some (matV n v',h')/\HExt h0 h'/\AM 45 h0.blks.length h' v' (m.set i (up1 to n (m.getD i []))):=by
 intro mm
 induction mm with
 | zero=>
  intro j h hj cq cp hA hin Aa Ad Ae Af Ai Aj Ak Al An Ao Ap Aq Ar As Au Av Aw Ax Ay Az Ba Bb Bc Bd Be Bf Bj Bk Bl Bm Bn Bo Bp Bq Br Bs Bt Bu Bv Bw Bx By Bz Ca Cb Cc Cd Ce Cf
  rw[zBe evC_m,c57_1_eq]
  obtain rfl:n=j:=by omega
  have hA':AM 45 h0.blks.length h w (m.set i (up1 to n (m.getD i []))):=⟨_,hA⟩
  obtain ⟨a,c,rfl⟩:=hA'.shape
  have cq2:=cq.put [.int .i64 n,.slice a (m.set i (up1 to n (m.getD i []))).length c]
  simp -implicitDefEqProofs (disch:=omega) only[dcT,dcF,↓c57_2_eq,ldM,cp.loadN (n:=2) rfl,stM,zAp cq (o:=0) (vs:=[.int .i64 n,.slice a (m.set i (up1 to n (m.getD i []))).length c]) (by simp),w2_put,↓ret57,↓zAc,↓zAb,↓Option.bind_some,↓zAa,sxA]
  simp -implicitDefEqProofs only[ldM,cq2.loadN (n:=2) rfl,Option.map_some,Option.bind_some,rvals_one,zBj]
  exact ⟨_,_,rfl,zAl (hin.trans (In.put hin.len (.inl hq) _)),(hA'.put cq (by decide) (by decide) _).done⟩
 | succ mm ih=>
  intro j h hj cq cp hA hin Aa Ad Ae Af Ai Aj Ak Al An Ao Ap Aq Ar As Au Av Aw Ax Ay Az Ba Bb Bc Bd Be Bf Bj Bk Bl Bm Bn Bo Bp Bq Br Bs Bt Bu Bv Bw Bx By Bz Ca Cb Cc Cd Ce Cf
  rw[zBe evC_m,c57_1_eq]
  have him:i<(m.set i (up1 to j (m.getD i []))).length:=by rw[List.length_set];exact hi
  have hgl:((m.set i (up1 to j (m.getD i []))).getD i [])=up1 to j (m.getD i []):=lset_getD hi _
  have hjl:j<((m.set i (up1 to j (m.getD i []))).getD i []).length:=by rw[hgl,up1_len];omega
  have hv:(up1 to j (m.getD i [])).getD j 0=(m.getD i []).getD j 0:=by rw[up1_get _ _ _ _ (by omega),if_neg (by omega)]
  have h64:(m.getD i []).getD j 0<2^64:=by
   refine getD_lt _ (fun y hy=>hmb _ ?_ y hy) j
   rw[List.getD_eq_getElem?_getD,List.getElem?_eq_getElem hi];exact List.getElem_mem ..
  have hh:=spec_Has to hto (j:Int)
  obtain ⟨b,o,h',e1,l1,st,A',k',hl',o'⟩:=hA.set1 (by decide) etV.under him hjl hx ((m.getD i []).getD j 0+1)
  rw[hgl,hv] at l1
  rw[hgl] at A'
  have hw:IntKind.wrap .i64 ((j:Int)+1)=((j+1:Nat):Int):=by rw[wrap_i64]<;>omega
  by_cases hc:hasB to j=true/\(m.getD i []).getD j 0<2^64-1
  ·obtain ⟨g1,g2⟩:=hc
   have smv:=hA.smv etM.size
   obtain ⟨ad,y,hy,ea,ey,_⟩:=smv.at etM.under etM.size (by kernel_rfl) him
   obtain rfl:x=y:=Option.some.inj (hx.symm.trans hy)
   have hw2:IntKind.wrap .u64 (((m.getD i []).getD j 0:Nat)+1:Int)=(((m.getD i []).getD j 0+1:Nat):Int):=by rw[wrap_u64]<;>omega
   rw[List.set_set,up1_succ_yes to j _ (by omega) g1 g2] at A'
   simp -implicitDefEqProofs (disch:=omega) only[dcT,dcF,e1,vld64,l1,hh,g1,faM1,ldRs,cp.load,two2,ea,ey,hw2,vst64,st,hw,↓zAc,↓zAb,↓Option.bind_some,↓zAa,sxA]
   exact ih (j+1) h' (by omega) (o' _ _ _ cq (by decide)) (o' _ _ _ cp (by decide)) A' (hin.trans k'.inn) _ _ _ _ _ _ _ _ _ _ _ _ _ _ _ _ _ _ _ _ _ _ _ _ _ _ _ _ _ _ _ _ _ _ _ _ _ _ _ _ _ _ _ _ _ _ _ _ _
  ·rw[<-up1_succ_no to j _ hc] at hA
   have:=ih (j+1) h (by omega) cq cp hA hin
   by_cases g1:hasB to j=true
   ·have g2:¬(m.getD i []).getD j 0<2^64-1:=fun x=>hc ⟨g1,x⟩
    simp -implicitDefEqProofs (disch:=omega) only[dcT,dcF,e1,vld64,l1,hh,g1,hw,↓zAc,↓zAb,↓Option.bind_some,↓zAa,sxA]
    exact this _ _ _ _ _ _ _ _ _ _ _ _ _ _ _ _ _ _ _ _ _ _ _ _ _ _ _ _ _ _ _ _ _ _ _ _ _ _ _ _ _ _ _ _ _ _ _ _ _
   ·have g1':hasB to j=false:=by simpa using g1
    simp -implicitDefEqProofs (disch:=omega) only[dcT,dcF,e1,vld64,l1,hh,g1',hw,↓zAc,↓zAb,↓Option.bind_some,↓zAa,sxA]
    exact this _ _ _ _ _ _ _ _ _ _ _ _ _ _ _ _ _ _ _ _ _ _ _ _ _ _ _ _ _ _ _ _ _ _ _ _ _ _ _ _ _ _ _ _ _ _ _ _ _
theorem goodM_rows {n:Int} {m:List (List Nat)} (g:goodM n m=true) {i:Nat} (hi:i<m.length):((m.getD i []).length:Int)=n:=by
 have:=((goodM_iff n m).1 g).2
 rw[List.getD_eq_getElem?_getD,List.getElem?_eq_getElem hi];exact this _ (List.getElem_mem ..)
theorem spec_MUp {h:Heap} {n:Int} {v:Value} {m:List (List Nat)} (s:SM h v m) (sml:Small m) (hmb:∀r∈m,∀y∈r,y<2^64) (i:Int) (to:Nat) (hto:to<2^64) :
  ∃v' h',evC Tryz.prog 57 #[matV n v,.int .i64 i,.int .u64 to] h=some (matV n v',h')/\HExt h h'/\AM 45 h.blks.length h' v' (upM n m i to):=by
 rw[call57,c57_0_eq]
 have k0:=bxM (.int .i64 n) v (nm h)
 have c0:=Cells.new (nm h) 119 [.int .i64 n,v]
 have i0:In h.blks.length No (nm h) _:=In.new (by simp) (.cells [.int .i64 n,v]) 119
 have l0:((nm h).new (.cells [.int .i64 n,v]) 119).blks.length=h.blks.length+1:=by simp[Heap.new]
 have bl:(nm h).blks.length=h.blks.length:=rfl
 rw[bl] at k0 c0
 generalize (nm h).new (.cells [.int .i64 n,v]) 119=g0 at *
 have k1:=alM g0
 have c1:=Cells.new g0 119 [.int .i64 0,.slice none 0 0]
 have i1:In h.blks.length No g0 _:=In.new i0.len (.cells [.int .i64 0,.slice none 0 0]) 119
 have c01:=c0.keepNew (.cells [.int .i64 0,.slice none 0 0]) 119
 have l1:(g0.new (.cells [.int .i64 0,.slice none 0 0]) 119).blks.length=g0.blks.length+1:=by simp[Heap.new]
 generalize g0.new (.cells [.int .i64 0,.slice none 0 0]) 119=g1 at *
 obtain ⟨w,g2,e2,Ac,a2⟩:=spec_cloneQ (n:=n) (s.same (i0.trans i1).same0) sml
 have l2:=Ac.len
 have a2:=a2.up (n1:=h.blks.length) (by omega)
 obtain ⟨aw,cw,rfl⟩:=a2.shape
 have k3:=alM g2
 have c3:=Cells.new g2 119 [.int .i64 0,.slice none 0 0]
 have i3:In h.blks.length No g2 _:=In.new (by omega) (.cells [.int .i64 0,.slice none 0 0]) 119
 have c03:=((c01.ext Ac).keepNew (.cells [.int .i64 0,.slice none 0 0]) 119).keepPut (q:=g2.blks.length) (by omega) (.cells [.int .i64 n,.slice aw m.length cw])
 have c13:=((c1.ext Ac).keepNew (.cells [.int .i64 0,.slice none 0 0]) 119).keepPut (q:=g2.blks.length) (by have:=c1.lt;omega) (.cells [.int .i64 n,.slice aw m.length cw])
 have c33:=c3.put [.int .i64 n,.slice aw m.length cw]
 have a3:=(a2.same (Same.new g2 (.cells [.int .i64 0,.slice none 0 0]) 119)).put c3 (by decide) (by decide) (.cells [.int .i64 n,.slice aw m.length cw])
 have i33:In h.blks.length No _ _:=In.put (h:=g2.new (.cells [.int .i64 0,.slice none 0 0]) 119) (p:=g2.blks.length) (S:=No) (Nat.le_trans (by omega) i3.len) (.inl (by omega)) (.cells [.int .i64 n,.slice aw m.length cw])
 have st3:=zAp c3 (o:=0) (vs:=[.int .i64 n,.slice aw m.length cw]) (by simp)
 have hin:=(((i0.trans i1).trans (Ac.inn (by omega))).trans i3).trans i33
 rw[w2_put] at st3
 generalize (g2.new (.cells [.int .i64 0,.slice none 0 0]) 119).put g2.blks.length (.cells [.int .i64 n,.slice aw m.length cw])=g3 at *
 obtain ⟨g4,e4,Ae⟩:=spec_GoodQ (n:=n) (s.same hin.same0) (by have:=sml.1;omega)
 have hin4:=hin.trans (Ae.inn hin.len)
 have a4:=a3.same Ae.same
 have c34:=c33.ext Ae
 have c04:=c03.ext Ae
 have c14:=c13.ext Ae
 unfold matV at e2 e4
 have hlen:=hin4.len
 have fl:(g0.blks.length≠g2.blks.length):=by have:=c1.lt;omega
 have cput:=c14.put [.int .i64 n,.slice aw m.length cw]
 have fin2:∃v' h',(some (matV n (.slice aw m.length cw),done h (g4.put g0.blks.length (.cells [.int .i64 n,.slice aw m.length cw]))))=some (matV n v',h')/\HExt h h'/\AM 45 h.blks.length h' v' m:=
  ⟨_,_,rfl,zAl (hin4.trans (In.put hlen (.inl i0.len) _)),(a4.put c14 (by decide) (by decide) _).done⟩
 by_cases hc:goodM n m=true/\0<=i/\i<n
 ·obtain ⟨hg,h0,h1⟩:=hc
  have hgg:=(goodM_iff n m).1 hg
  obtain ⟨i,rfl⟩:∃k:Nat,i=k:=⟨i.toNat,by omega⟩
  obtain ⟨n,rfl⟩:∃k:Nat,n=k:=⟨n.toNat,by omega⟩
  unfold upM
  rw[if_pos ⟨hg,h0,h1⟩,Int.toNat_natCast,Int.toNat_natCast]
  have hr:=goodM_rows hg (i:=i) (by omega)
  obtain ⟨vs,A4⟩:=a4
  obtain ⟨ad,x,hx,ea,ex,sx⟩:=(A4.smv etM.size).at etM.under etM.size (by kernel_rfl) (i:=i) (by omega)
  have lx:=sx.row.len_eq etV.under
  rw[show (m.getD i []).length=n by omega] at lx
  rw[hg] at e4
  have A5:AMv 45 h.blks.length g4 (.slice aw m.length cw) vs (m.set i (up1 to 0 (m.getD i []))):=by
   rw[up1_zero,List.getD_eq_getElem?_getD,List.getElem?_eq_getElem (by omega),Option.getD_some,List.set_getElem_self];exact A4
  have:=up_loop (h0:=h) (p:=g2.blks.length) (q:=g0.blks.length) (n:=n) (w:=.slice aw m.length cw) hto (by omega) hx (by omega) (by omega) i0.len (by omega) hmb n 0 g4 (by omega) c14 c34 A5 hin4
  simp -implicitDefEqProofs (disch:=omega) only[dcT,dcF,matV,k0,k1,ldM,c01.loadN (n:=2) rfl,e2,k3,stM,st3,c03.loadN (n:=2) rfl,e4,faM0,faM1,mldInt,ldRs,c04.load,two1,c34.load,two2,ea,ex,lx,↓zAc,↓zAb,↓Option.bind_some,↓zAa,sxA]
  exact this _ _ _ _ _ _ _ _ _ _ _ _ _ _ _ _ _ _ _ _ _ _ _ _ _ _ _ _ _ _ _ _ _ _ _ _ _ _ _ _ _ _ _ _ _ _ _ _ _
 ·have eu:upM n m i to=m:=if_neg hc
  rw[eu]
  by_cases hg:goodM n m=true
  ·rw[hg] at e4
   by_cases h0:i<0
   ·simp -implicitDefEqProofs (disch:=omega) only[dcT,dcF,matV,k0,k1,ldM,c01.loadN (n:=2) rfl,e2,k3,stM,st3,c03.loadN (n:=2) rfl,e4,faM0,mldInt,c04.load,two1,c34.loadN (n:=2) rfl,zAp c14 (o:=0) (vs:=[.int .i64 n,.slice aw m.length cw]) (by simp),w2_put,↓ret57,↓zAc,↓zAb,↓Option.bind_some,↓zAa,sxA]
    simp -implicitDefEqProofs only[ldM,cput.loadN (n:=2) rfl,Option.map_some,Option.bind_some,rvals_one,zBj]
    exact fin2
   ·have h1:¬i<n:=fun x=>hc ⟨hg,by omega,x⟩
    simp -implicitDefEqProofs (disch:=omega) only[dcT,dcF,matV,k0,k1,ldM,c01.loadN (n:=2) rfl,e2,k3,stM,st3,c03.loadN (n:=2) rfl,e4,faM0,mldInt,c04.load,two1,c34.loadN (n:=2) rfl,zAp c14 (o:=0) (vs:=[.int .i64 n,.slice aw m.length cw]) (by simp),w2_put,↓ret57,↓zAc,↓zAb,↓Option.bind_some,↓zAa,sxA]
    simp -implicitDefEqProofs only[ldM,cput.loadN (n:=2) rfl,Option.map_some,Option.bind_some,rvals_one,zBj]
    exact fin2
  ·have hg':goodM n m=false:=by simpa using hg
   rw[hg'] at e4
   simp -implicitDefEqProofs (disch:=omega) only[dcT,dcF,matV,k0,k1,ldM,c01.loadN (n:=2) rfl,e2,k3,stM,st3,c03.loadN (n:=2) rfl,e4,faM0,mldInt,c04.load,two1,c34.loadN (n:=2) rfl,zAp c14 (o:=0) (vs:=[.int .i64 n,.slice aw m.length cw]) (by simp),w2_put,↓ret57,↓zAc,↓zAb,↓Option.bind_some,↓zAa,sxA]
   simp -implicitDefEqProofs only[ldM,cput.loadN (n:=2) rfl,Option.map_some,Option.bind_some,rvals_one,zBj]
   exact fin2
end Go.Am
namespace Go.Am
open Go.Proofs
set_option maxRecDepth 100000
set_option linter.all false
attribute [local congr] zAf zAq zAr zAs zAj zAg
def joinM (a b:List (List Nat)):List (List Nat):=(List.range a.length).map fun i=>joinV (a.getD i []) (b.getD i [])
def joinMt (a b:List (List Nat)) (i:Nat):List (List Nat):=(List.range i).map fun i=>joinV (a.getD i []) (b.getD i [])
theorem joinMt_succ (a b:List (List Nat)) (i:Nat):joinMt a b i++[joinV (a.getD i []) (b.getD i [])]=joinMt a b (i+1):=by unfold joinMt;rw[List.range_succ,List.map_append];rfl
theorem joinMt_len (a b:List (List Nat)) (i:Nat):(joinMt a b i).length=i:=by simp[joinMt]
theorem mjoin_loop {h0:Heap} {p q p3:Nat} {n n2:Int} {v v2:Value} {a b:List (List Nat)} (s0:SM h0 v a) (t0:SM h0 v2 b) (sma:Small a) (smb:Small b) (hab:a.length=b.length) (hq:h0.blks.length<=q) (hpq:p≠q) (hp:h0.blks.length<=p) (hp3:p≠p3) :
  ∀(mm i:Nat) (h:Heap) (w:Value),a.length=i+mm->Cells h q 119 [.int .i64 0,.slice none 0 0]->Cells h p 119 [.int .i64 n,w]->Cells h p3 119 [.int .i64 n2,v2]->AM 45 h0.blks.length h w (joinMt a b i)->In h0.blks.length No (nm h0) h->
  ∀(Aa Ab Ac Af Ah Ai Aj Ak Al An Ao Ap Aq Ar As Au Av Aw Ax Ay Az Ba Bb Bc Bd Be Bi Bj Bk Bl Bm Bn Bo Bp Bq Br Bs Bt Bu Bv Bw Bx By Bz:Value),
  ∃v' h',loopK Tryz.prog (evC Tryz.prog) c64_1 ⟨#[Aa,Ab,Ac,.pointer (some ⟨p3,0,none⟩),.pointer (some ⟨q,0,none⟩),Af,.pointer (some ⟨p,0,none⟩),Ah,Ai,Aj,Ak,Al,An,Ao,Ap,Aq,Ar,As,Au,Av,Aw,Ax,Ay,Az,Ba,Bb,Bc,Bd,Be,v,.int .i64 a.length,.int .i64 i,Bi,Bj,Bk,Bl,Bm,Bn,Bo,Bp,Bq,Br,Bs,Bt,Bu,Bv,Bw,Bx,By,Bz],h⟩ (zAu 0 (seqK Tryz.prog (evC Tryz.prog) c64_2 (zBb Tryz.f64 Tryz.prog h0))) =
   some (.tuple #[matV n v',.int .i64 0],h')/\HExt h0 h'/\AM 45 h0.blks.length h' v' (joinM a b):=by
 intro mm
 induction mm with
 | zero=>
  intro i h w hi cq cp c3 hA hin Aa Ab Ac Af Ah Ai Aj Ak Al An Ao Ap Aq Ar As Au Av Aw Ax Ay Az Ba Bb Bc Bd Be Bi Bj Bk Bl Bm Bn Bo Bp Bq Br Bs Bt Bu Bv Bw Bx By Bz
  rw[zBe evC_m,c64_1_eq]
  obtain rfl:i=a.length:=by omega
  change AM _ _ _ _ (joinM a b) at hA
  obtain ⟨ad,c,rfl⟩:=hA.shape
  have cq2:=cq.put [.int .i64 n,.slice ad (joinM a b).length c]
  simp -implicitDefEqProofs (disch:=omega) only[dcT,dcF,↓c64_2_eq,ldM,cp.loadN (n:=2) rfl,stM,zAp cq (o:=0) (vs:=[.int .i64 n,.slice ad (joinM a b).length c]) (by simp),w2_put,↓ret64,↓zAc,↓zAb,↓Option.bind_some,↓zAa,sxA]
  simp -implicitDefEqProofs only[ldM,cq2.loadN (n:=2) rfl,Option.map_some,Option.bind_some,rvals_two,zBj]
  exact ⟨_,_,rfl,zAl (hin.trans (In.put hin.len (.inl hq) _)),(hA.put cq (by decide) (by decide) _).done⟩
 | succ mm ih=>
  intro i h w hi cq cp c3 hA hin Aa Ab Ac Af Ah Ai Aj Ak Al An Ao Ap Aq Ar As Au Av Aw Ax Ay Az Ba Bb Bc Bd Be Bi Bj Bk Bl Bm Bn Bo Bp Bq Br Bs Bt Bu Bv Bw Bx By Bz
  rw[zBe evC_m,c64_1_eq]
  have hlen:h0.blks.length<=h.blks.length:=hin.len
  obtain ⟨ad,x,ea,ex,sx⟩:=(s0.same hin.same0).atV (i:=i) (by omega)
  obtain ⟨bd,y,eb,ey,sy⟩:=(t0.same hin.same0).atV (i:=i) (by omega)
  obtain ⟨aj,cj,h1,e1,Ab,s2⟩:=spec_JoinQ sx.nm sy.nm (by have:=sma.2 i;omega) (by have:=smb.2 i;omega)
  obtain ⟨Ab',m1⟩:=Ab.amx
  have s2':AU h.blks.length (Am.am h1 h) (.slice aj (joinV (a.getD i []) (b.getD i [])).length cj) (joinV (a.getD i []) (b.getD i [])):=s2.keep fun _ _ _=>rfl
  obtain ⟨a2,c2,h2,e2,s3,k2,o2⟩:=hA.app etM (by decide) hlen Ab'.same s2' (by have:=sma.1;rw[joinMt_len];omega)
  have cp2:=o2 _ _ _ (cp.ext Ab') (by decide)
  have cq2:=o2 _ _ _ (cq.ext Ab') (by decide)
  have c32:=o2 _ _ _ (c3.ext Ab') (by decide)
  have hw:IntKind.wrap .i64 ((i:Int)+1)=((i+1:Nat):Int):=by have:=sma.1;rw[wrap_i64]<;>omega
  rw[joinMt_succ] at e2 s3
  have cp3:=cp2.put [.int .i64 n,.slice a2 (joinMt a b (i+1)).length c2]
  simp -implicitDefEqProofs (disch:=omega) only[dcT,dcF,ea,ex,eb,ey,c3.load,faM1,ldRs,cp.load,two2,e1,mkR1,e2,stRs,zAp cp2 (o:=1) (vs:=[.slice a2 (joinMt a b (i+1)).length c2]) (by simp),w2_put1,m1,List.append_nil,hw,↓zAc,↓zAb,↓Option.bind_some,↓zAa,sxA]
  exact ih (i+1) _ _ (by omega) (cq2.keepPut hpq _) cp3 (c32.keepPut hp3 _) (s3.put cp2 (by decide) (by decide) _) (((hin.trans (Ab'.inn hlen)).trans k2.inn).trans (In.put (by have:=Ab'.len;have:=k2.len;omega) (.inl hp) _)) _ _ _ _ _ _ _ _ _ _ _ _ _ _ _ _ _ _ _ _ _ _ _ _ _ _ _ _ _ _ _ _ _ _ _ _ _ _ _ _ _ _ _ _
def okJ (n n2:Int) (a b:List (List Nat)):Bool:=goodM n a && goodM n2 b && decide (n=n2)
theorem spec_MJoin {h:Heap} {n n2:Int} {v v2:Value} {a b:List (List Nat)} (s:SM h v a) (t:SM h v2 b) (sma:Small a) (smb:Small b) :
  ∃v' h',evC Tryz.prog 64 #[matV n v,matV n2 v2] h=some (.tuple #[matV (if okJ n n2 a b=true then n else 0) v',.int .i64 (if okJ n n2 a b=true then 0 else 1)],h')/\HExt h h'/\AM 45 h.blks.length h' v' (if okJ n n2 a b=true then joinM a b else []):=by
 rw[call64,c64_0_eq]
 have k0:=bxM (.int .i64 n) v (nm h)
 have c0:=Cells.new (nm h) 119 [.int .i64 n,v]
 have i0:In h.blks.length No (nm h) _:=In.new (by simp) (.cells [.int .i64 n,v]) 119
 have l0:((nm h).new (.cells [.int .i64 n,v]) 119).blks.length=h.blks.length+1:=by simp[Heap.new]
 have bl:(nm h).blks.length=h.blks.length:=rfl
 rw[bl] at k0 c0
 generalize (nm h).new (.cells [.int .i64 n,v]) 119=g0 at *
 have k1:=bxM (.int .i64 n2) v2 g0
 have c1:=Cells.new g0 119 [.int .i64 n2,v2]
 have i1:In h.blks.length No g0 _:=In.new i0.len (.cells [.int .i64 n2,v2]) 119
 have c01:=c0.keepNew (.cells [.int .i64 n2,v2]) 119
 have l1:(g0.new (.cells [.int .i64 n2,v2]) 119).blks.length=g0.blks.length+1:=by simp[Heap.new]
 generalize g0.new (.cells [.int .i64 n2,v2]) 119=g1 at *
 have k2:=alM g1
 have c2:=Cells.new g1 119 [.int .i64 0,.slice none 0 0]
 have i2:In h.blks.length No g1 _:=In.new (by omega) (.cells [.int .i64 0,.slice none 0 0]) 119
 have c02:=c01.keepNew (.cells [.int .i64 0,.slice none 0 0]) 119
 have c12:=c1.keepNew (.cells [.int .i64 0,.slice none 0 0]) 119
 have l2:(g1.new (.cells [.int .i64 0,.slice none 0 0]) 119).blks.length=g1.blks.length+1:=by simp[Heap.new]
 generalize g1.new (.cells [.int .i64 0,.slice none 0 0]) 119=g2 at *
 have hin2:=(i0.trans i1).trans i2
 obtain ⟨g3,e3,Ad⟩:=spec_GoodQ (n:=n) (s.same hin2.same0) (by have:=sma.1;omega)
 have hin3:=hin2.trans (Ad.inn hin2.len)
 obtain ⟨g4,e4,Ae⟩:=spec_GoodQ (n:=n2) (t.same hin3.same0) (by have:=smb.1;omega)
 have hin4:=hin3.trans (Ae.inn hin3.len)
 unfold matV at e3 e4
 have no3:∃v' h',(some (Value.tuple #[matV 0 (.slice none 0 0),.int .i64 1],done h (g3.put g1.blks.length (.cells [.int .i64 0,.slice none 0 0]))))=some (.tuple #[matV 0 v',.int .i64 1],h')/\HExt h h'/\AM 45 h.blks.length h' v' []:=
  ⟨_,_,rfl,zAl (hin3.trans (In.put hin3.len (.inl (by omega)) _)),AM.nil _ _ _⟩
 have no4:∃v' h',(some (Value.tuple #[matV 0 (.slice none 0 0),.int .i64 1],done h (g4.put g1.blks.length (.cells [.int .i64 0,.slice none 0 0]))))=some (.tuple #[matV 0 v',.int .i64 1],h')/\HExt h h'/\AM 45 h.blks.length h' v' []:=
  ⟨_,_,rfl,zAl (hin4.trans (In.put hin4.len (.inl (by omega)) _)),AM.nil _ _ _⟩
 have cp3:=(c2.ext Ad).put [.int .i64 0,.slice none 0 0]
 have cp4:=((c2.ext Ad).ext Ae).put [.int .i64 0,.slice none 0 0]
 by_cases hga:goodM n a=true
 ·rw[hga] at e3
  by_cases hgb:goodM n2 b=true
  ·rw[hgb] at e4
   by_cases hn:n=n2
   ·subst hn
    have eo:okJ n n a b=true:=by unfold okJ;rw[hga,hgb,decide_eq_true rfl];rfl
    simp only[eo,if_true]
    have ga:=(goodM_iff n a).1 hga
    have gb:=(goodM_iff n b).1 hgb
    have c04:=(c02.ext Ad).ext Ae
    have c14:=(c12.ext Ad).ext Ae
    have c24:=(c2.ext Ad).ext Ae
    have k5:=alM g4
    have c5:=Cells.new g4 119 [.int .i64 0,.slice none 0 0]
    have hl4:=hin4.len
    have i5:In h.blks.length No g4 _:=In.new hl4 (.cells [.int .i64 0,.slice none 0 0]) 119
    have c05:=(c04.keepNew (.cells [.int .i64 0,.slice none 0 0]) 119).keepPut (q:=g4.blks.length) (by have:=c04.lt;omega) (.cells [.int .i64 n,.slice none 0 0])
    have c15:=(c14.keepNew (.cells [.int .i64 0,.slice none 0 0]) 119).keepPut (q:=g4.blks.length) (by have:=c14.lt;omega) (.cells [.int .i64 n,.slice none 0 0])
    have c25:=(c24.keepNew (.cells [.int .i64 0,.slice none 0 0]) 119).keepPut (q:=g4.blks.length) (by have:=c24.lt;omega) (.cells [.int .i64 n,.slice none 0 0])
    have c55:=c5.put [.int .i64 n,.slice none 0 0]
    have i55:In h.blks.length No _ _:=In.put (h:=g4.new (.cells [.int .i64 0,.slice none 0 0]) 119) (p:=g4.blks.length) (S:=No) (Nat.le_trans hl4 i5.len) (.inl hl4) (.cells [.int .i64 n,.slice none 0 0])
    have hin5:=(hin4.trans i5).trans i55
    have sa:=s.same hin5.same0
    have:=mjoin_loop (h0:=h) (p:=g4.blks.length) (q:=g1.blks.length) (p3:=g0.blks.length) s t sma smb (by omega) (by omega) (by have:=c24.lt;omega) hl4 (by have:=c14.lt;omega) a.length 0 _ _ (by omega) c25 c55 c15 (AM.nil _ _ _) hin5
    simp -implicitDefEqProofs (disch:=omega) only[dcT,dcF,matV,k0,k1,k2,ldM,c02.loadN (n:=2) rfl,(c12.ext Ad).loadN (n:=2) rfl,e3,e4,faM0,faM1,mldInt,c04.load,c14.load,two1,bdM1,k5,stM,zAp c5 (o:=0) (vs:=[.int .i64 n,.slice none 0 0]) (by simp),w2_put,ldRs,c05.load,two2,sa.lenRV,↓zAc,↓zAb,↓Option.bind_some,↓zAa,sxA]
    exact this _ _ _ _ _ _ _ _ _ _ _ _ _ _ _ _ _ _ _ _ _ _ _ _ _ _ _ _ _ _ _ _ _ _ _ _ _ _ _ _ _ _ _ _
   ·have eo:okJ n n2 a b=false:=by unfold okJ;rw[decide_eq_false hn,Bool.and_false]
    simp only[eo,Bool.false_eq_true,if_false]
    simp -implicitDefEqProofs (disch:=omega) only[dcT,dcF,matV,k0,k1,k2,ldM,c02.loadN (n:=2) rfl,(c12.ext Ad).loadN (n:=2) rfl,e3,e4,faM0,mldInt,((c02.ext Ad).ext Ae).load,((c12.ext Ad).ext Ae).load,two1,bdM0,stM,zAp ((c2.ext Ad).ext Ae) (o:=0) (vs:=[.int .i64 0,.slice none 0 0]) (by simp),w2_put,↓ret64,↓zAc,↓zAb,↓Option.bind_some,↓zAa,sxA]
    simp -implicitDefEqProofs only[ldM,cp4.loadN (n:=2) rfl,Option.map_some,Option.bind_some,rvals_two,zBj]
    exact no4
  ·have hgb':goodM n2 b=false:=by simpa using hgb
   rw[hgb'] at e4
   have eo:okJ n n2 a b=false:=by unfold okJ;rw[hgb',Bool.and_false];rfl
   simp only[eo,Bool.false_eq_true,if_false]
   simp -implicitDefEqProofs (disch:=omega) only[dcT,dcF,matV,k0,k1,k2,ldM,c02.loadN (n:=2) rfl,(c12.ext Ad).loadN (n:=2) rfl,e3,e4,bdM0,stM,zAp ((c2.ext Ad).ext Ae) (o:=0) (vs:=[.int .i64 0,.slice none 0 0]) (by simp),w2_put,↓ret64,↓zAc,↓zAb,↓Option.bind_some,↓zAa,sxA]
   simp -implicitDefEqProofs only[ldM,cp4.loadN (n:=2) rfl,Option.map_some,Option.bind_some,rvals_two,zBj]
   exact no4
 ·have hga':goodM n a=false:=by simpa using hga
  rw[hga'] at e3
  have eo:okJ n n2 a b=false:=by unfold okJ;rw[hga',Bool.false_and];rfl
  simp only[eo,Bool.false_eq_true,if_false]
  simp -implicitDefEqProofs (disch:=omega) only[dcT,dcF,matV,k0,k1,k2,ldM,c02.loadN (n:=2) rfl,e3,bdM0,stM,zAp (c2.ext Ad) (o:=0) (vs:=[.int .i64 0,.slice none 0 0]) (by simp),w2_put,↓ret64,↓zAc,↓zAb,↓Option.bind_some,↓zAa,sxA]
  simp -implicitDefEqProofs only[ldM,cp3.loadN (n:=2) rfl,Option.map_some,Option.bind_some,rvals_two,zBj]
  exact no3
end Go.Am
namespace Go.Am
open Go.Proofs
set_option maxRecDepth 100000
set_option linter.all false
attribute [local congr] zAf zAq zAr zAs zAj zAg
theorem mkV1 (k:IntKind) (n:Int) (h:Heap):zAi Tryz.prog 45 1 #[(0,.int k n)] h=some (.slice (some ⟨h.blks.length,0,none⟩) 1 1,h.new (.cells [.int k n]) 30):=by kernel_rfl
theorem app_numV {n0:Nat} {h:Heap} (hn0:n0<=h.blks.length) {v:Value} {bs:List Nat} (ha:AU n0 h v bs) (b:Nat) (hl:bs.length<2^39) :
  ∃a c h',zBh Tryz.prog 45 (some 45) v (.slice (some ⟨h.blks.length,0,none⟩) 1 1) (h.new (.cells [.int .u64 b]) 30)=some (.slice a (bs++[b]).length c,h')/\AU n0 h' (.slice a (bs++[b]).length c) (bs++[b])/\Keeps n0 h h':=by
 have hb:AU n0 (h.new (.cells [.int .u64 (b:Nat)]) 30) (.slice (some ⟨h.blks.length,0,none⟩) 1 1) [b]:=AU.lit (h:=h) hn0 [b] (by simp)
 obtain ⟨a,c,h',e1,e2,e3,e4⟩:=app_nums etV etV.under (n0:=n0) (by simp[Heap.new];omega) (ha.keep fun _ hb _=>Heap.new_old hb) hb.su (by simp;omega)
 exact ⟨a,c,h',e1,e2,(Keeps.new hn0 _ _).trans e3⟩
def colM (m:List (List Nat)) (j:Nat):List Nat:=m.map fun r=>r.getD j 0
theorem colM_succ (m:List (List Nat)) (j:Nat) {i:Nat} (hi:i<m.length):colM (m.take i) j++[(m.getD i []).getD j 0]=colM (m.take (i+1)) j:=by
 rw[<-take_succ_getD m [] hi];simp[colM]
theorem column_loop {h0:Heap} {v:Value} {m:List (List Nat)} {j:Nat} (s0:SM h0 v m) (hm:m.length<2^37) (hj:∀i,i<m.length->j<(m.getD i []).length):∀(mm i:Nat) (h:Heap) (w:Value),m.length=i+mm->AU h0.blks.length h w (colM (m.take i) j)->In h0.blks.length No (nm h0) h->
  ∀(Aa Ac Ad Ae Ag Ah Ai Aj Ak Al An Ao Ap Aq Ar As Au Av Aw Ax Bb Bc Bd Be Bf Bg Bh Bi Bj Bk Bl Bm:Value),
  ∃a c h',loopK Tryz.prog (evC Tryz.prog) c62_1 ⟨#[Aa,.int .i64 j,Ac,Ad,Ae,w,Ag,Ah,Ai,Aj,Ak,Al,An,Ao,Ap,Aq,Ar,As,Au,Av,Aw,Ax,v,.int .i64 m.length,.int .i64 i,Bb,Bc,Bd,Be,Bf,Bg,Bh,Bi,Bj,Bk,Bl,Bm],h⟩ (zAu 0 (seqK Tryz.prog (evC Tryz.prog) c62_2 (zBb Tryz.f62 Tryz.prog h0))) =
   some (.slice a (colM m j).length c,h')/\HExt h0 h'/\AU h0.blks.length h' (.slice a (colM m j).length c) (colM m j):=by
 intro mm
 induction mm with
 | zero=>
  intro i h w hi hA hin Aa Ac Ad Ae Ag Ah Ai Aj Ak Al An Ao Ap Aq Ar As Au Av Aw Ax Bb Bc Bd Be Bf Bg Bh Bi Bj Bk Bl Bm
  rw[zBe evC_m,c62_1_eq]
  rw[List.take_of_length_le (by omega)] at hA
  obtain ⟨a,c,rfl⟩:=hA.shape
  simp -implicitDefEqProofs (disch:=omega) only[dcT,dcF,↓c62_2_eq,↓ret62,↓zAc,↓zAb,↓Option.bind_some,↓zAa,sxA]
  exact ⟨a,c,_,rfl,zAl hin,hA.done⟩
 | succ mm ih=>
  intro i h w hi hA hin Aa Ac Ad Ae Ag Ah Ai Aj Ak Al An Ao Ap Aq Ar As Au Av Aw Ax Bb Bc Bd Be Bf Bg Bh Bi Bj Bk Bl Bm
  rw[zBe evC_m,c62_1_eq]
  have hlen:h0.blks.length<=h.blks.length:=hin.len
  obtain ⟨ad,x,ea,ex,sx⟩:=(s0.same hin.same0).atV (i:=i) (by omega)
  obtain ⟨bd,eb,ey⟩:=su_at sx etV.under (i:=j) (hj i (by omega))
  obtain ⟨a2,c2,h2,e2,s2,k2⟩:=app_numV hlen hA ((m.getD i []).getD j 0) (by simp[colM];omega)
  rw[colM_succ m j (by omega)] at e2 s2
  have hw:IntKind.wrap .i64 ((i:Int)+1)=((i+1:Nat):Int):=by rw[wrap_i64]<;>omega
  simp -implicitDefEqProofs (disch:=omega) only[dcT,dcF,ea,ex,eb,ey,mkV1,e2,hw,↓zAc,↓zAb,↓Option.bind_some,↓zAa,sxA]
  exact ih (i+1) _ _ (by omega) s2 (hin.trans k2.inn) _ _ _ _ _ _ _ _ _ _ _ _ _ _ _ _ _ _ _ _ _ _ _ _ _ _ _ _ _ _ _ _
def okC (n:Int) (m:List (List Nat)) (j:Int):Prop:=goodM n m=true/\0<=j/\j<n
instance (n:Int) (m:List (List Nat)) (j:Int):Decidable (okC n m j):=inferInstanceAs (Decidable (_/\_))
def columnM (n:Int) (m:List (List Nat)) (j:Int):List Nat:=if okC n m j then colM m j.toNat else []
theorem spec_Column {h:Heap} {n:Int} {v:Value} {m:List (List Nat)} (s:SM h v m) (hm:m.length<2^37) (j:Int) :
  ∃a c h',evC Tryz.prog 62 #[matV n v,.int .i64 j] h=some (.slice a (columnM n m j).length c,h')/\HExt h h'/\AU h.blks.length h' (.slice a (columnM n m j).length c) (columnM n m j):=by
 rw[call62,c62_0_eq]
 have k0:=bxM (.int .i64 n) v (nm h)
 have c0:=Cells.new (nm h) 119 [.int .i64 n,v]
 have i0:In h.blks.length No (nm h) _:=In.new (by simp) (.cells [.int .i64 n,v]) 119
 have bl:(nm h).blks.length=h.blks.length:=rfl
 rw[bl] at k0 c0
 generalize (nm h).new (.cells [.int .i64 n,v]) 119=g0 at *
 obtain ⟨g1,e1,Ab⟩:=spec_GoodQ (n:=n) (s.same i0.same0) (by omega)
 unfold matV at e1
 have hin:=i0.trans (Ab.inn i0.len)
 have c1:=c0.ext Ab
 have sv:=s.same hin.same0
 unfold columnM
 by_cases hc:okC n m j
 ·rw[if_pos hc]
  obtain ⟨hg,h0,h1⟩:=hc
  obtain ⟨j,rfl⟩:∃k:Nat,j=k:=⟨j.toNat,by omega⟩
  rw[hg] at e1
  rw[Int.toNat_natCast]
  have:=column_loop (h0:=h) (j:=j) s hm (fun i hi=>by have:=goodM_rows hg hi;omega) m.length 0 g1 (.slice none 0 0) (by omega) .nil hin
  simp -implicitDefEqProofs (disch:=omega) only[dcT,dcF,matV,k0,ldM,c0.loadN (n:=2) rfl,e1,faM0,faM1,mldInt,c1.load,two1,two2,ldRs,sv.lenRV,↓zAc,↓zAb,↓Option.bind_some,↓zAa,sxA]
  exact this _ _ _ _ _ _ _ _ _ _ _ _ _ _ _ _ _ _ _ _ _ _ _ _ _ _ _ _ _ _ _ _
 ·rw[if_neg hc]
  by_cases hg:goodM n m=true
  ·rw[hg] at e1
   by_cases h0:j<0
   ·simp -implicitDefEqProofs (disch:=omega) only[dcT,dcF,matV,k0,ldM,c0.loadN (n:=2) rfl,e1,↓ret62,↓zAc,↓zAb,↓Option.bind_some,↓zAa,sxA]
    exact ⟨_,_,_,rfl,zAl hin,.nil⟩
   ·have h1:¬j<n:=fun x=>hc ⟨hg,by omega,x⟩
    simp -implicitDefEqProofs (disch:=omega) only[dcT,dcF,matV,k0,ldM,c0.loadN (n:=2) rfl,e1,faM0,mldInt,c1.load,two1,↓ret62,↓zAc,↓zAb,↓Option.bind_some,↓zAa,sxA]
    exact ⟨_,_,_,rfl,zAl hin,.nil⟩
  ·have hg':goodM n m=false:=by simpa using hg
   rw[hg'] at e1
   simp -implicitDefEqProofs (disch:=omega) only[dcT,dcF,matV,k0,ldM,c0.loadN (n:=2) rfl,e1,↓ret62,↓zAc,↓zAb,↓Option.bind_some,↓zAa,sxA]
   exact ⟨_,_,_,rfl,zAl hin,.nil⟩
end Go.Am
namespace Go.Am
open Go.Proofs
set_option maxRecDepth 100000
set_option linter.all false
attribute [local congr] zAf zAq zAr zAs zAj zAg
theorem drop_cons {α:Type} (l:List α) (d:α) {i:Nat} (hi:i<l.length):l.drop i=l.getD i d::l.drop (i+1):=by
 rw[List.drop_eq_getElem_cons hi,List.getD_eq_getElem?_getD,List.getElem?_eq_getElem hi];rfl
theorem All2.set {α β:Type} {R:α->β->Prop} {l:List α} {m:List β} (h:All2 R l m):∀(i:Nat) (a:α) (b:β),R a b->All2 R (l.set i a) (m.set i b):=by
 induction h with
 | nil=>intro i a b _;exact .nil
 | cons p q ih=>
  intro i a b r
  cases i with
  | zero=>exact .cons r q
  | succ i=>exact .cons p (ih i a b r)
end Go.Am
namespace Go.Am
open Go.Proofs
set_option maxRecDepth 100000
set_option linter.all false
attribute [local congr] zAf zAq zAr zAs zAj zAg
def intV (n:Int):Value:=.int .i64 n
abbrev SIQ (h:Heap) (v:Value) (ns:List Int):Prop:=Sl Tryz.prog h 1 v ns.length (ns.map intV)
theorem si_atQ {h:Heap} {v:Value} {ns:List Int} (s:SIQ h v ns) {i:Nat} (hi:i<ns.length) :
  ∃a,zAh Tryz.prog 68 v (.int .i64 i)=some (.pointer (some a))/\zAw Tryz.prog 3 (.pointer (some a)) h=some (.int .i64 (ns.getD i 0)):=by
 obtain ⟨a,e1,e2,_⟩:=s.row.at1 etI.under etI.size (by kernel_rfl) hi .i64
 rw[List.getElem?_map,List.getElem?_eq_getElem hi] at e2
 refine ⟨a,e1,?_⟩
 rw[e2,List.getD_eq_getElem?_getD,List.getElem?_eq_getElem hi];rfl
def or1 (s:Nat) (p:Int):Nat:=if 0<=p/\p<64 then s ||| 2^p.toNat else s
def ofL (l:List Int):Nat:=l.foldl or1 0
theorem or1_lt {s:Nat} (hs:s<2^64) (p:Int):or1 s p<2^64:=by
 unfold or1
 split
 ·rename_i h
  exact Nat.or_lt_two_pow hs (Nat.pow_lt_pow_right (by omega) (by omega))
 ·exact hs
theorem orN (t:TypeId) (xo yo:Operand) (a b:Nat) (ha:a<2^64) (hb:b<2^64):zBk Tryz.prog .or t xo yo (.int .u64 a) (.int .u64 b)=some (.int .u64 ((a ||| b:Nat):Int)):=by
 rw[bin_or64 _ _ _ _ _ (by omega) (by omega) (by omega) (by omega),Int.toNat_natCast,Int.toNat_natCast]
theorem of_loop {h0 h:Heap} {v:Value} {l:List Int} (sl:SIQ h v l) (hl:l.length<2^40):∀(mm i:Nat) (s:Nat),s<2^64->l.length=i+mm->∀(x:Nat->Value),x 3=.int .u64 s->x 6=v->x 7=.int .i64 l.length->x 8=.int .i64 i->
  lK c28_1 24 x h (zAu 0 (sK c28_2 (zBb Tryz.f28 Tryz.prog h0)))=some (.int .u64 ((l.drop i).foldl or1 s:Nat),done h0 h):=by
 intro mm
 induction mm with
 | zero=>
  intro i s hs hi x Ad Ag Ah Ai
  rw[lK_eq,List.drop_of_length_le (by omega)]
  simp -implicitDefEqProofs (disch:=omega) only[↓c28_1_eq,↓c28_2_eq,dcT,dcF,Ad,Ag,Ah,Ai,↓ret28,↓zAc,↓zAb,↓Option.bind_some,↓zAa,sxB,Nat.reduceBEq]
  rfl
 | succ mm ih=>
  intro i s hs hi x Ad Ag Ah Ai
  rw[lK_eq,drop_cons l 0 (by omega),List.foldl_cons]
  obtain ⟨a,ea,el⟩:=si_atQ sl (i:=i) (by omega)
  have hw:IntKind.wrap .i64 ((i:Int)+1)=((i+1:Nat):Int):=by rw[wrap_i64]<;>omega
  have ih':=ih (i+1) _ (or1_lt hs (l.getD i 0)) (by omega)
  unfold or1 at ih' ⊢
  generalize l.getD i 0=p at *
  by_cases hc:0<=p/\p<64
  ·rw[if_pos hc] at ih' ⊢
   obtain ⟨p,rfl⟩:∃k:Nat,p=k:=⟨p.toNat,by omega⟩
   rw[Int.toNat_natCast] at ih' ⊢
   have h2:2^p<2^64:=Nat.pow_lt_pow_right (by omega) (by omega)
   have e1:=fun t xo yo=>shl1 t xo yo p (by omega)
   have e2:=fun t xo yo=>orN t xo yo s (2^p) hs h2
   simp -implicitDefEqProofs (disch:=omega) only[↓c28_1_eq,dcT,dcF,Ad,Ag,Ah,Ai,ea,el,e1,e2,hw,↓zAc,↓zAb,↓Option.bind_some,↓zAa,sxB,Nat.reduceBEq]
   exact ih' _ rfl Ag Ah rfl
  ·rw[if_neg hc] at ih' ⊢
   by_cases h0:0<=p
   ·have h1:¬p<64:=fun x=>hc ⟨h0,x⟩
    simp -implicitDefEqProofs (disch:=omega) only[↓c28_1_eq,dcT,dcF,Ad,Ag,Ah,Ai,ea,el,hw,↓zAc,↓zAb,↓Option.bind_some,↓zAa,sxB,Nat.reduceBEq]
    exact ih' _ Ad Ag Ah rfl
   ·simp -implicitDefEqProofs (disch:=omega) only[↓c28_1_eq,dcT,dcF,Ad,Ag,Ah,Ai,ea,el,hw,↓zAc,↓zAb,↓Option.bind_some,↓zAa,sxB,Nat.reduceBEq]
    exact ih' _ Ad Ag Ah rfl
theorem spec_Of {h:Heap} {v:Value} {l:List Int} (sl:SIQ h v l) (hl:l.length<2^40):evC Tryz.prog 28 #[v] h=some (.int .u64 (ofL l:Nat),h):=by
 rw[call28]
 simp -implicitDefEqProofs (disch:=omega) only[↓c28_0_eq,sl.nm.row.len_eq etI.under,↓zAc,↓zAb,↓Option.bind_some,↓zAa,sxB,Nat.reduceBEq]
 exact of_loop (h0:=h) sl.nm hl l.length 0 0 (by omega) (by omega) _ rfl rfl rfl rfl
theorem mkI1Q (k:IntKind) (n:Int) (h:Heap):zAi Tryz.prog 68 1 #[(0,.int k n)] h=some (.slice (some ⟨h.blks.length,0,none⟩) 1 1,h.new (.cells [.int k n]) 3):=by kernel_rfl
theorem litI1 (h:Heap) (n:Int):SIQ (h.new (.cells [.int .i64 n]) 3) (.slice (some ⟨h.blks.length,0,none⟩) 1 1) [n]:=
 .mk (by simp[Heap.loadN,Heap.cells?,zBn];rfl) (.inr ⟨Nat.le_refl _,by unfold UNK;decide⟩)
theorem SM.slices {h:Heap} {v:Value} {vs:List Value} {m:List (List Nat)} (s:SMv h v vs m) {i:Nat} {x:Value} (hx:vs[i]?=some x):∃a l c,x=.slice a l c:=by
 obtain ⟨r,_,hr⟩:=s.2.get hx
 obtain ⟨a,c,rfl⟩:=hr.shape
 exact ⟨_,_,_,rfl⟩
end Go.Am
namespace Go.Am
open Go.Proofs
set_option maxRecDepth 100000
set_option linter.all false
attribute [local congr] zAf zAq zAr zAs zAj zAg
theorem nmm (h:Heap):(nm h).mods=[]:=rfl
theorem mvar {h:Heap} (n:Int) (a:Option Addr) (l c:Nat):zBc Tryz.prog 119 (.pointer (some ⟨h.blks.length,0,none⟩)) (.agg #[.int .i64 n,.slice a l c]) (h.new (.cells [.int .i64 0,.slice none 0 0]) 119)=some ((h.new (.cells [.int .i64 0,.slice none 0 0]) 119).put h.blks.length (.cells [.int .i64 n,.slice a l c])):=by
 rw[stM,zAp (Cells.new h 119 [.int .i64 0,.slice none 0 0]) (o:=0) (vs:=[.int .i64 n,.slice a l c]) (by simp),w2_put]
theorem mvar_same (h:Heap) (body body2:Body) (t:TypeId):Same h ((h.new body t).put h.blks.length body2):=(Same.new h body t).put (Nat.le_refl _) body2
theorem mvar_in {n0:Nat} {h:Heap} (hn:n0<=h.blks.length) (body body2:Body) (t:TypeId):In n0 No h ((h.new body t).put h.blks.length body2):=
 (In.new hn body t).trans (In.put (Nat.le_trans hn (Same.new h body t).1) (.inl hn) _)
theorem mvar_cells (h:Heap) (cs cs':List Value) (t:TypeId):Cells ((h.new (.cells cs) t).put h.blks.length (.cells cs')) h.blks.length t cs':=(Cells.new h t cs).put cs'
theorem ldM' {h:Heap} {p:Nat} {n:Int} {v:Value} (c:Cells h p 119 [.int .i64 n,v]):zAw Tryz.prog 119 (.pointer (some ⟨p,0,none⟩)) h=some (matV n v):=by
 rw[ldM,c.loadN (n:=2) rfl];rfl
theorem Small.of {m:List (List Nat)} (h1:m.length<=100) (h2:∀r∈m,r.length<=100):Small m:=⟨by omega,fun i=>by
 rw[List.getD_eq_getElem?_getD]
 rcases Nat.lt_or_ge i m.length with hi | hi
 ·rw[List.getElem?_eq_getElem hi];have:=h2 _ (List.getElem_mem hi);simp only[Option.getD_some];omega
 ·rw[List.getElem?_eq_none hi];simp⟩
end Go.Am
namespace Go.Am
end Go.Am
namespace Go.Am
open Go.Proofs
set_option maxRecDepth 100000
set_option linter.all false
theorem joinM_len (a b:List (List Nat)):(joinM a b).length=a.length:=by simp[joinM]
theorem joinM_get (a b:List (List Nat)) (k:Nat) (hk:k<a.length):(joinM a b).getD k []=joinV (a.getD k []) (b.getD k []):=by
 rw[List.getD_eq_getElem?_getD,List.getElem?_eq_getElem (by rw[joinM_len];exact hk)];simp[joinM]
theorem goodM_getD {n:Int} {m:List (List Nat)} (hl:1<=n/\n<=16/\(m.length:Int)=n) (h:∀k,k<m.length->((m.getD k []).length:Int)=n):goodM n m=true:=by
 rw[goodM_iff]
 refine ⟨hl,fun r hr=>?_⟩
 obtain ⟨k,hk,rfl⟩:=List.getElem_of_mem hr
 have:=h k hk
 rwa [List.getD_eq_getElem?_getD,List.getElem?_eq_getElem hk] at this
theorem goodM_join {n:Int} {a b:List (List Nat)} (ga:goodM n a=true) (gb:goodM n b=true):goodM n (joinM a b)=true:=by
 have ha:=((goodM_iff n a).1 ga).1
 have hb:=((goodM_iff n b).1 gb).1
 refine goodM_getD ⟨ha.1,ha.2.1,by rw[joinM_len];exact ha.2.2⟩ fun k hk=>?_
 rw[joinM_len] at hk
 rw[joinM_get a b k hk,joinV_len]
 have h1:=goodM_rows ga hk
 have h2:=goodM_rows gb (i:=k) (by omega)
 omega
theorem okJ_of {n:Int} {a b:List (List Nat)} (ga:goodM n a=true) (gb:goodM n b=true):okJ n n a b=true:=by unfold okJ;rw[ga,gb,decide_eq_true rfl];rfl
theorem Small.good {n:Int} {m:List (List Nat)} (g:goodM n m=true):Small m:=by
 have h:=(goodM_iff n m).1 g
 exact Small.of (by omega) fun r hr=>by have:=h.2 r hr;omega
end Go.Am
namespace Go.Am
open Go.Proofs
set_option maxRecDepth 100000
set_option linter.all false
attribute [local congr] zAf zAq zAr zAs zAj zAg
def putLs (l:List Nat):List UInt8:=l.flatMap putL
theorem putLs_app (a b:List Nat):putLs (a++b)=putLs a++putLs b:=by simp[putLs]
def stampM (n:Int) (m:List (List Nat)):List UInt8:=if goodM n m=true then putLs m.flatten else []
theorem putLs_len (l:List Nat) (h:∀n∈l,n<2^64):(putLs l).length<=10*l.length:=by
 induction l with
 | nil=>simp[putLs]
 | cons n l ih=>
  have hn:=h n (by simp)
  have h1:=sizeN_le n 10 (by omega) (by omega)
  have h2:=ih fun m hm=>h m (by simp[hm])
  have h3:=putL_len n
  simp only[putLs,List.flatMap_cons,List.length_append,List.length_cons] at h2 ⊢
  omega
def MAX:Nat:=18446744073709551615
def readRow:Nat->Option (List UInt8)->List Nat × Option (List UInt8)
 | 0,r=>([],r)
 | k+1,r=>let x:=numP r MAX;let y:=readRow k x.2;(x.1::y.1,y.2)
def readRows (n:Nat):Nat->Option (List UInt8)->List (List Nat) × Option (List UInt8)
 | 0,r=>([],r)
 | k+1,r=>let x:=readRow n r;let y:=readRows n k x.2;(x.1::y.1,y.2)
theorem readRow_len:∀(k:Nat) (r:Option (List UInt8)),(readRow k r).1.length=k
 | 0,r=>rfl
 | k+1,r=>by simp only[readRow,List.length_cons];rw[readRow_len k]
theorem readRow_le:∀(k:Nat) (r:Option (List UInt8)),(rbs (readRow k r).2).length<=(rbs r).length/\∀x∈(readRow k r).1,x<2^64
 | 0,r=>by simp[readRow]
 | k+1,r=>by
  have h1:=numP_le r MAX
  have h2:=readRow_le k (numP r MAX).2
  simp only[readRow]
  refine ⟨by omega,fun x hx=>?_⟩
  rcases List.mem_cons.1 hx with rfl | hx
  ·exact h1.2.1
  ·exact h2.2 x hx
theorem readRows_len (n:Nat):∀(k:Nat) (r:Option (List UInt8)),(readRows n k r).1.length=k
 | 0,r=>rfl
 | k+1,r=>by simp only[readRows,List.length_cons];rw[readRows_len n k]
theorem readRows_row (n:Nat):∀(k:Nat) (r:Option (List UInt8)),∀x∈(readRows n k r).1,x.length=n/\∀y∈x,y<2^64
 | 0,r=>by simp[readRows]
 | k+1,r=>by
  simp only[readRows]
  intro x hx
  rcases List.mem_cons.1 hx with rfl | hx
  ·exact ⟨readRow_len n r,(readRow_le n r).2⟩
  ·exact readRows_row n k _ x hx
def readM (n:Int) (bs:List UInt8):Option (List (List Nat)):=if 1<=n/\n<=16 then (if endP (readRows n.toNat n.toNat (some bs)).2=true then some (readRows n.toNat n.toNat (some bs)).1 else none) else none
theorem readRow_put:∀(l:List Nat) (rest:List UInt8),(∀n∈l,n<2^64)->readRow l.length (some (putLs l++rest))=(l,some rest)
 | [],rest,_=>rfl
 | n::l,rest,h=>by
  have hn:=h n (by simp)
  have e:putLs (n::l)++rest=putL n++(putLs l++rest):=by simp[putLs]
  rw[List.length_cons,e]
  simp only[readRow]
  rw[numP_putL n hn _ MAX (by unfold MAX;omega)]
  simp only[]
  rw[readRow_put l rest fun m hm=>h m (by simp[hm])]
theorem readRows_put (n:Nat):∀(m:List (List Nat)) (rest:List UInt8),(∀r∈m,r.length=n/\∀y∈r,y<2^64)->readRows n m.length (some (putLs m.flatten++rest))=(m,some rest)
 | [],rest,_=>rfl
 | r::m,rest,h=>by
  have hr:=h r (by simp)
  have e:putLs (r::m).flatten++rest=putLs r++(putLs m.flatten++rest):=by rw[List.flatten_cons,putLs_app,List.append_assoc]
  rw[List.length_cons,e]
  simp only[readRows]
  have:=readRow_put r (putLs m.flatten++rest) hr.2
  rw[hr.1] at this
  rw[this]
  simp only[]
  rw[readRows_put n m rest fun q hq=>h q (by simp[hq])]
theorem readM_stamp {n:Int} {m:List (List Nat)} (g:goodM n m=true) (h:∀r∈m,∀y∈r,y<2^64):readM n (stampM n m)=some m:=by
 have hg:=(goodM_iff n m).1 g
 unfold readM stampM
 rw[if_pos ⟨hg.1.1,hg.1.2.1⟩,if_pos g]
 have:=readRows_put n.toNat m [] fun r hr=>⟨by have:=hg.2 r hr;omega,h r hr⟩
 rw[List.append_nil,show m.length=n.toNat by omega] at this
 rw[this]
 rfl
theorem readM_good {n:Int} {bs:List UInt8} {m:List (List Nat)} (h:readM n bs=some m):goodM n m=true/\∀r∈m,∀y∈r,y<2^64:=by
 unfold readM at h
 split at h
 ·rename_i hn
  split at h
  ·cases h
   have hr:=readRows_row n.toNat n.toNat (some bs)
   refine ⟨goodM_getD ⟨hn.1,hn.2,by rw[readRows_len];omega⟩ fun k hk=>?_,fun r hr'=>(hr r hr').2⟩
   have:=(hr _ (List.getElem_mem hk)).1
   rw[List.getD_eq_getElem?_getD,List.getElem?_eq_getElem hk]
   simp only[Option.getD_some]
   omega
  ·cases h
 ·cases h
theorem SM.lo {h:Heap} {v:Value} {m:List (List Nat)} (s:SM h v m):Lo v h.blks.length:=let ⟨_,x,_⟩:=s;x.lo
theorem stamp_inner {Q:Option (Value × Heap)->Prop} {N p:Nat} {mv row:Value} {ml:Int} {r:List Nat} (i:Nat) (hr:r.length<=16) (h64:∀n∈r,n<2^64) (hlo:Lo row N) (hmv:Lo mv N) (hp:N<=p) (k:Ex->St->Option (Value × Heap)) {h0:Heap} (hN:h0.blks.length<=N) :
  ∀(m j:Nat) (h:Heap) (acc:List UInt8),r.length=j+m->SU h row r->Wr 0 h p acc->acc.length+10*m<2^38->In N No h0 h->
  (∀h',Wr 0 h' p (acc++putLs (r.drop j))->In N No h0 h'->∀(Aa Ab Ae Af Ag Ah Ai Aj Ak Al An Ar As Au Av Aw Ax Ay Az Ba Bb Bc Bd Be Bf Bg Bh:Value),Q (k .normal ⟨#[Aa,Ab,.slice none 0 0,.pointer (some ⟨p,0,none⟩),Ae,Af,Ag,Ah,Ai,Aj,Ak,Al,An,mv,.int .i64 ml,.int .i64 i,Ar,As,Au,Av,Aw,Ax,Ay,Az,Ba,Bb,Bc,Bd,Be,Bf,Bg,Bh],h'⟩))->
  ∀(Aa Ab Ae Af Ag Ah Ai Aj Ak Al An Ar As Au Ay Az Ba Bb Bc Bd Be Bf Bg Bh:Value),Q (loopK Tryz.prog (evC Tryz.prog) c56_3 ⟨#[Aa,Ab,.slice none 0 0,.pointer (some ⟨p,0,none⟩),Ae,Af,Ag,Ah,Ai,Aj,Ak,Al,An,mv,.int .i64 ml,.int .i64 i,Ar,As,Au,row,.int .i64 r.length,.int .i64 j,Ay,Az,Ba,Bb,Bc,Bd,Be,Bf,Bg,Bh],h⟩ (zAu 2 k)):=by
 intro m
 induction m with
 | zero=>
  intro j h acc hj s w _ hin hk Aa Ab Ae Af Ag Ah Ai Aj Ak Al An Ar As Au Ay Az Ba Bb Bc Bd Be Bf Bg Bh
  rw[zBe evC_m,c56_3_eq]
  rw[List.drop_of_length_le (by omega),show putLs []=[] from rfl,List.append_nil] at hk
  have:=hk h w hin
  simp -implicitDefEqProofs (disch:=omega) only[dcT,dcF,↓zAc,↓zAb,↓Option.bind_some,↓zAa,sxA]
  exact this _ _ _ _ _ _ _ _ _ _ _ _ _ _ _ _ _ _ _ _ _ _ _ _ _ _ _
 | succ m ih=>
  intro j h acc hj s w hacc hin hk Aa Ab Ae Af Ag Ah Ai Aj Ak Al An Ar As Au Ay Az Ba Bb Bc Bd Be Bf Bg Bh
  rw[zBe evC_m,c56_3_eq]
  obtain ⟨a,e1,e2⟩:=su_at s etV.under (i:=j) (by omega)
  have hn:=getD_lt r h64 j
  have hs:=sizeN_le (r.getD j 0) 10 (by omega) (by omega)
  have hz:=putL_len (r.getD j 0)
  obtain ⟨h2,e3,Ac,w2⟩:=spec_WNum w (Nat.zero_le _) (r.getD j 0) hn (by omega)
  have hw:IntKind.wrap .i64 ((j:Int)+1)=((j+1:Nat):Int):=by rw[wrap_i64]<;>omega
  have s2:SU h2 row r:=s.mod Ac fun b hb e=>by have:=hlo b hb;have:b=p:=e;omega
  have hd:r.drop j=r.getD j 0::r.drop (j+1):=drop_cons r 0 (by omega)
  rw[hd] at hk
  have ih':=ih (j+1) h2 (acc++putL (r.getD j 0)) (by omega) s2 (w2.up (Nat.zero_le _)) (by rw[List.length_append];omega)
   (hin.trans (Ac.inn (by have:=hin.len;have:=hin.le;omega) fun b hb e=>by have:b=p:=e;omega)) (fun h' w' i'=>hk h' (by rw[List.append_assoc] at w';simpa [putLs] using w') i')
  simp -implicitDefEqProofs (disch:=omega) only[dcT,dcF,e1,e2,e3,hw,↓zAc,↓zAb,↓Option.bind_some,↓zAa,sxA]
  exact ih' _ _ _ _ _ _ _ _ _ _ _ _ _ _ _ _ _ _ _ _ _ _ _ _
theorem putLs_take (m:List (List Nat)) {i:Nat} (hi:i<m.length):putLs (m.take i).flatten++putLs (m.getD i [])=putLs (m.take (i+1)).flatten:=by
 rw[<-take_succ_getD m [] hi,List.flatten_append,putLs_app];simp
theorem good_total {n:Int} {m:List (List Nat)} (g:goodM n m=true) (h:∀r∈m,∀y∈r,y<2^64) (i:Nat):(putLs (m.take i).flatten).length<=2560:=by
 have hg:=(goodM_iff n m).1 g
 have h1:=putLs_len (m.take i).flatten fun x hx=>by
  obtain ⟨r,hr,hx⟩:=List.mem_flatten.1 hx
  exact h r (List.mem_of_mem_take hr) x hx
 have h2:∀(l:List (List Nat)),(∀r∈l,r.length<=16)->l.flatten.length<=16*l.length:=by
  intro l
  induction l with
  | nil=>simp
  | cons r l ih=>
   intro hl
   have a:=hl r (by simp)
   have b:=ih fun q hq=>hl q (by simp[hq])
   rw[List.flatten_cons,List.length_append,List.length_cons]
   omega
 have h3:=h2 (m.take i) fun r hr=>by have:=hg.2 r (List.mem_of_mem_take hr);omega
 have h4:(m.take i).length<=16:=by simp;omega
 omega
theorem stamp_loop {h0:Heap} {n:Int} {p:Nat} {mv:Value} {m:List (List Nat)} (g:goodM n m=true) (h64:∀r∈m,∀y∈r,y<2^64) {vs:List Value} (s0:SMv h0 mv vs m) (hp:h0.blks.length<=p):∀(mm i:Nat) (h:Heap),m.length=i+mm->Wr 0 h p (putLs (m.take i).flatten)->In h0.blks.length No (nm h0) h->
  ∀(Aa Ab Ae Af Ag Ah Ai Aj Ak Al An Ar As Au Av Aw Ax Ay Az Ba Bb Bc Bd Be Bf Bg Bh:Value),
  ∃a c h',loopK Tryz.prog (evC Tryz.prog) c56_1 ⟨#[Aa,Ab,.slice none 0 0,.pointer (some ⟨p,0,none⟩),Ae,Af,Ag,Ah,Ai,Aj,Ak,Al,An,mv,.int .i64 m.length,.int .i64 i,Ar,As,Au,Av,Aw,Ax,Ay,Az,Ba,Bb,Bc,Bd,Be,Bf,Bg,Bh],h⟩ (zAu 0 (seqK Tryz.prog (evC Tryz.prog) c56_2 (zBb Tryz.f56 Tryz.prog h0))) =
   some (.slice a (putLs m.flatten).length c,h')/\HExt h0 h'/\AB h0.blks.length h' (.slice a (putLs m.flatten).length c) (putLs m.flatten):=by
 have hg:=(goodM_iff n m).1 g
 intro mm
 induction mm with
 | zero=>
  intro i h hi w hin Aa Ab Ae Af Ag Ah Ai Aj Ak Al An Ar As Au Av Aw Ax Ay Az Ba Bb Bc Bd Be Bf Bg Bh
  rw[zBe evC_m,c56_1_eq]
  have ht:=good_total g h64 i
  rw[List.take_of_length_le (by omega)] at w ht
  obtain ⟨a,c,h2,e2,Ac,s2⟩:=spec_WDone w (by omega)
  have hl:=hin.len
  simp only[nm_blks] at hl
  simp -implicitDefEqProofs (disch:=omega) only[dcT,dcF,↓c56_2_eq,e2,↓ret56,↓zAc,↓zAb,↓Option.bind_some,↓zAa,sxA]
  exact ⟨a,c,_,rfl,zAl (hin.trans (Ac.inn hl)),(s2.up (by omega)).done⟩
 | succ mm ih=>
  intro i h hi w hin Aa Ab Ae Af Ag Ah Ai Aj Ak Al An Ar As Au Av Aw Ax Ay Az Ba Bb Bc Bd Be Bf Bg Bh
  rw[zBe evC_m,c56_1_eq]
  have ht:=good_total g h64 i
  obtain ⟨ad,x,hx,ea,ex,sx⟩:=(s0.kp hin.same0.2).at etM.under etM.size (by kernel_rfl) (i:=i) (by omega)
  obtain ⟨ad0,y,hy,ea0,ex0,sx0⟩:=s0.at etM.under etM.size (by kernel_rfl) (i:=i) (by omega)
  obtain rfl:x=y:=Option.some.inj (hx.symm.trans hy)
  have hrl:=goodM_rows g (i:=i) (by omega)
  have hr64:∀y∈m.getD i [],y<2^64:=by
   rw[List.getD_eq_getElem?_getD,List.getElem?_eq_getElem (by omega)];exact h64 _ (List.getElem_mem _)
  have hw:IntKind.wrap .i64 ((i:Int)+1)=((i+1:Nat):Int):=by rw[wrap_i64]<;>omega
  have inner:=stamp_inner (Q:=fun r=>∃a c h',r=some (.slice a (putLs m.flatten).length c,h')/\HExt h0 h'/\AB h0.blks.length h' (.slice a (putLs m.flatten).length c) (putLs m.flatten)) (N:=h0.blks.length) (p:=p) (mv:=mv) (row:=x) (ml:=m.length) (r:=m.getD i []) i (by omega) hr64 sx0.lo s0.1.lo hp
   (zAu 1 (seqK Tryz.prog (evC Tryz.prog) c56_4 (againK Tryz.prog (evC Tryz.prog) c56_1 (zAu 0 (seqK Tryz.prog (evC Tryz.prog) c56_2 (zBb Tryz.f56 Tryz.prog h0)))))) (h0:=nm h0) (Nat.le_refl _)
   (m.getD i []).length 0 h _ (by omega) sx w (by omega) hin (by
    intro h' w' i' Aa Ab Ae Af Ag Ah Ai Aj Ak Al An Ar As Au Av Aw Ax Ay Az Ba Bb Bc Bd Be Bf Bg Bh
    rw[List.drop_zero,putLs_take m (by omega)] at w'
    have ih':=ih (i+1) h' (by omega) w' i'
    simp -implicitDefEqProofs (disch:=omega) only[↓c56_4_eq,hw,↓zAc,↓zAb,↓Option.bind_some,↓zAa,sxA]
    exact ih' _ _ _ _ _ _ _ _ _ _ _ _ _ _ _ _ _ _ _ _ _ _ _ _ _ _ _)
  simp -implicitDefEqProofs (disch:=omega) only[dcT,dcF,ea,ex,sx.row.len_eq etV.under,↓zAc,↓zAb,↓Option.bind_some,↓zAa,sxA]
  exact inner _ _ _ _ _ _ _ _ _ _ _ _ _ _ _ _ _ _ _ _ _ _ _ _
theorem spec_Stamp {h:Heap} {n:Int} {v:Value} {m:List (List Nat)} (s:SM h v m) (hm:m.length<2^37) (h64:∀r∈m,∀y∈r,y<2^64) :
  ∃a c h',evC Tryz.prog 56 #[matV n v] h=some (.slice a (stampM n m).length c,h')/\HExt h h'/\AB h.blks.length h' (.slice a (stampM n m).length c) (stampM n m):=by
 rw[call56,c56_0_eq]
 have k0:=bxM (.int .i64 n) v (nm h)
 have c0:=Cells.new (nm h) 119 [.int .i64 n,v]
 have i0:In h.blks.length No (nm h) _:=In.new (by simp) (.cells [.int .i64 n,v]) 119
 have bl:(nm h).blks.length=h.blks.length:=rfl
 rw[bl] at k0 c0
 generalize (nm h).new (.cells [.int .i64 n,v]) 119=g0 at *
 obtain ⟨g1,e1,Ab⟩:=spec_GoodQ (n:=n) (s.same i0.same0) (by omega)
 have hin:=i0.trans (Ab.inn i0.len)
 have c1:=c0.ext Ab
 unfold stampM
 by_cases g:goodM n m=true
 ·rw[if_pos g]
  rw[g] at e1
  obtain ⟨g2,e2,Ac,w2,l2⟩:=spec_NewWriter g1
  have hin2:=hin.trans (Ac.inn hin.len)
  have c2:=c1.ext Ac
  have sv:=s.same hin2.same0
  have hl1:=hin.len
  obtain ⟨vs,s0⟩:=s
  have:=stamp_loop (h0:=h) (p:=g1.blks.length) g h64 s0 hl1 m.length 0 g2 (by omega) (w2.up (Nat.zero_le _)) hin2
  rw[show ((0:Nat):Int)=0 from rfl] at this
  simp -implicitDefEqProofs (disch:=omega) only[dcT,dcF,k0,ldM' c0,e1,e2,faM1,ldRs,c2.load,two2,sv.lenRV,↓zAc,↓zAb,↓Option.bind_some,↓zAa,sxA]
  exact this _ _ _ _ _ _ _ _ _ _ _ _ _ _ _ _ _ _ _ _ _ _ _ _ _ _ _
 ·have g':goodM n m=false:=by simpa using g
  rw[if_neg g]
  rw[g'] at e1
  simp -implicitDefEqProofs (disch:=omega) only[dcT,dcF,k0,ldM' c0,e1,↓ret56,↓zAc,↓zAb,↓Option.bind_some,↓zAa,sxA]
  exact ⟨_,_,_,rfl,zAl hin,.nil⟩
end Go.Am
namespace Go.Am
open Go.Proofs
set_option maxRecDepth 100000
set_option linter.all false
attribute [local congr] zAf zAq zAr zAs zAj zAg
end Go.Am
namespace Go.Am
open Go.Proofs
set_option maxRecDepth 100000
set_option linter.all false
attribute [local congr] zAf zAq zAr zAs zAj zAg
theorem AMv.modp {eo:TypeId} {n0:Nat} {h h':Heap} {v:Value} {vs:List Value} {m:List (List Nat)} (a:AMv eo n0 h v vs m) {S:Nat->Prop} (e:HMod S h h') (k:∀b,S b->∃T cs,Cells h b T cs/\T≠eo/\T≠30):AMv eo n0 h' v vs m:=
 a.kp fun b all ty hb ht _=>e.old b (List.getElem?_eq_some_iff.1 hb).1 fun hs=>by
  obtain ⟨T,cs,hc,h1,h2⟩:=k b hs
  unfold Cells at hc
  rw[hb] at hc
  simp only[Option.some.injEq,Blk.mk.injEq] at hc
  rcases ht with ht | ht
  ·exact h1 (hc.2.1.symm.trans ht)
  ·exact h2 (hc.2.1.symm.trans ht)
theorem set_mid (pre:List Nat) (x y:Nat) (l:List Nat):(pre++x::l).set pre.length y=pre++y::l:=by
 rw[List.set_append_right _ _ (Nat.le_refl _),Nat.sub_self,List.set_cons_zero]
theorem set_midM (pre:List (List Nat)) (x y:List Nat) (l:List (List Nat)):(pre++x::l).set pre.length y=pre++y::l:=by
 rw[List.set_append_right _ _ (Nat.le_refl _),Nat.sub_self,List.set_cons_zero]
theorem RdrL.keepB {L:Nat} {h h':Heap} {p:Nat} {r:Option (List UInt8)} (w:RdrL L h p r) (hc:∀T cs,Cells h p T cs->T≠30->Cells h' p T cs) (hb:∀b,L<=b->h'.blks[b]?=h.blks[b]?):RdrL L h' p r:=
 let ⟨a,c,x,y,z⟩:=w
 ⟨a,c,hc _ _ x (by decide),y.keep fun b _ hv=>hb b (z b hv).1,z⟩
theorem read_inner {Q:Option (Value × Heap)->Prop} {h0:Heap} {L q4 p6 rp:Nat} {rows x bv:Value} {vs:List Value} {m:List (List Nat)} {i n:Nat} {ml:Int} (hi:i<m.length) (hx:vs[i]?=some x) (hn:n<=16) (hxL:Lo x L) (k:Ex->St->Option (Value × Heap)) :
  ∀(mm j:Nat) (h:Heap) (pre:List Nat) (r:Option (List UInt8)),n=j+mm->pre.length=j->AMv 45 h0.blks.length h rows vs (m.set i (pre++List.replicate mm 0))->RdrL L h rp r->h0.blks.length<=rp->(rbs r).length<2^40->Cells h q4 119 [.int .i64 0,.slice none 0 0]->Cells h p6 119 [.int .i64 n,rows]->In h0.blks.length No (nm h0) h->
  (∀h',AMv 45 h0.blks.length h' rows vs (m.set i (pre++(readRow mm r).1))->RdrL L h' rp (readRow mm r).2->Cells h' q4 119 [.int .i64 0,.slice none 0 0]->Cells h' p6 119 [.int .i64 n,rows]->In h0.blks.length No (nm h0) h'->∀(Aa Ab Ac Ad Af Ah Aj Ak Al An Ao Ap Aq Ar As Au Av Aw Ax Ay Bc Bd Be Bf Bg Bh Bi Bj Bk Bl Bm Bn Bo Bp Bq Br Bs Bt Bu Bv:Value),Q (k .normal ⟨#[Aa,Ab,Ac,Ad,.pointer (some ⟨q4,0,none⟩),Af,.pointer (some ⟨p6,0,none⟩),Ah,.pointer (some ⟨rp,0,none⟩),Aj,Ak,Al,An,Ao,Ap,Aq,Ar,As,Au,Av,Aw,Ax,Ay,rows,.int .i64 ml,.int .i64 i,Bc,Bd,Be,Bf,Bg,Bh,Bi,Bj,Bk,Bl,Bm,Bn,Bo,Bp,Bq,Br,Bs,Bt,Bu,Bv],h'⟩))->
  ∀(Aa Ab Ac Ad Af Ah Aj Al An Ao Ap Aq Ar As Au Av Aw Ax Ay Bc Bd Be Bf Bi Bj Bk Bl Bm Bn Bo Bp Bq Br Bs Bt Bu Bv:Value),Q (loopK Tryz.prog (evC Tryz.prog) c61_3 ⟨#[Aa,Ab,Ac,Ad,.pointer (some ⟨q4,0,none⟩),Af,.pointer (some ⟨p6,0,none⟩),Ah,.pointer (some ⟨rp,0,none⟩),Aj,x,Al,An,Ao,Ap,Aq,Ar,As,Au,Av,Aw,Ax,Ay,rows,.int .i64 ml,.int .i64 i,Bc,Bd,Be,Bf,.int .i64 n,.int .i64 j,Bi,Bj,Bk,Bl,Bm,Bn,Bo,Bp,Bq,Br,Bs,Bt,Bu,Bv],h⟩ (zAu 2 k)):=by
 intro mm
 induction mm with
 | zero=>
  intro j h pre r hj hpre A w hrp _ c4 c6 hin hk Aa Ab Ac Ad Af Ah Aj Al An Ao Ap Aq Ar As Au Av Aw Ax Ay Bc Bd Be Bf Bi Bj Bk Bl Bm Bn Bo Bp Bq Br Bs Bt Bu Bv
  rw[zBe evC_m,c61_3_eq]
  have:=hk h A w c4 c6 hin
  simp -implicitDefEqProofs (disch:=omega) only[dcT,dcF,↓zAc,↓zAb,↓Option.bind_some,↓zAa,sxA]
  exact this _ _ _ _ _ _ _ _ _ _ _ _ _ _ _ _ _ _ _ _ _ _ _ _ _ _ _ _ _ _ _ _ _ _ _ _ _ _ _ _
 | succ mm ih=>
  intro j h pre r hj hpre A w hrp hlen c4 c6 hin hk Aa Ab Ac Ad Af Ah Aj Al An Ao Ap Aq Ar As Au Av Aw Ax Ay Bc Bd Be Bf Bi Bj Bk Bl Bm Bn Bo Bp Bq Br Bs Bt Bu Bv
  rw[zBe evC_m,c61_3_eq]
  obtain ⟨h2,e2,Ac,w2⟩:=spec_RNum w MAX (by unfold MAX;omega) hlen
  rw[show ((MAX:Nat):Int)=18446744073709551615 from rfl] at e2
  have nl:=numP_le r MAX
  have hrpne:∀ {p:Nat} {cs:List Value},Cells h p 119 cs->¬Just rp p:=fun hc e=>by
   have e:_=rp:=e
   obtain ⟨_,_,hr,_⟩:=w
   subst e
   unfold Cells at hc hr
   rw[hc] at hr
   simp only[Option.some.injEq,Blk.mk.injEq] at hr
   exact absurd hr.2.1 (by decide)
  have c42:=c4.mod Ac (hrpne c4)
  have c62:=c6.mod Ac (hrpne c6)
  have A2:=A.modp Ac fun b hb=>by
   have hb:b=rp:=hb
   subst hb
   obtain ⟨_,_,hr,_⟩:=w
   exact ⟨_,_,hr,by decide,by decide⟩
  have hin2:=hin.trans (Ac.inn hin.len fun b hb e=>by have:b=rp:=e;omega)
  have hrow:(m.set i (pre++List.replicate (mm+1) 0)).getD i []=pre++0::List.replicate mm 0:=by rw[lset_getD hi];rfl
  obtain ⟨b,o,h3,e3,l3,st3,A3,k3,hl3,o3,q3⟩:=A2.set1q (by decide) etV.under (i:=i) (j:=j) (by rw[List.length_set];exact hi) (by rw[hrow];simp;omega) hx (numP r MAX).1
  rw[hrow,List.set_set,<-hpre,set_mid] at A3
  rw[show pre++(numP r MAX).1::List.replicate mm 0=(pre++[(numP r MAX).1])++List.replicate mm 0 by simp] at A3
  have w3:=w2.keepB (fun T cs hc ht=>o3 rp T cs hc ht) fun c hc=>q3 c fun e=>by have:=hxL c e;omega
  have hw:IntKind.wrap .i64 ((j:Int)+1)=((j+1:Nat):Int):=by rw[wrap_i64]<;>omega
  have ih':=ih (j+1) h3 (pre++[(numP r MAX).1]) (numP r MAX).2 (by omega) (by simp;omega) A3 w3 hrp (by omega) (o3 _ _ _ c42 (by decide)) (o3 _ _ _ c62 (by decide)) (hin2.trans k3.inn)
   (fun h' a' b' c' d' i'=>hk h' (by simpa [readRow] using a') (by simpa [readRow] using b') c' d' i')
  rw[<-hpre] at e3
  simp -implicitDefEqProofs (disch:=omega) only[dcT,dcF,e2,hpre ▸ e3,vst64,st3,hw,↓zAc,↓zAb,↓Option.bind_some,↓zAa,sxA]
  exact ih' _ _ _ _ _ _ _ _ _ _ _ _ _ _ _ _ _ _ _ _ _ _ _ _ _ _ _ _ _ _ _ _ _ _ _ _ _
def readV (n:Int) (o:Option (List (List Nat))):Int:=if o.isSome=true then n else 0
theorem read_loop {h0:Heap} {L q4 p6 rp n:Nat} {rows:Value} {vs:List Value} (hn:n<=16) (hvL:∀x∈vs,Lo x L) (hrp:h0.blks.length<=rp) (hq4:h0.blks.length<=q4) :
  ∀(mm i:Nat) (h:Heap) (dn:List (List Nat)) (r:Option (List UInt8)),n=i+mm->dn.length=i->(∀x∈dn,x.length=n)->AMv 45 h0.blks.length h rows vs (dn++List.replicate mm (List.replicate n 0))->RdrL L h rp r->(rbs r).length<2^40->Cells h q4 119 [.int .i64 0,.slice none 0 0]->Cells h p6 119 [.int .i64 n,rows]->In h0.blks.length No (nm h0) h->
  ∀(Aa Ab Ac Ad Af Ah Aj Ak Al An Ao Ap Aq Ar As Au Av Aw Ax Ay Bc Bd Be Bf Bg Bh Bi Bj Bk Bl Bm Bn Bo Bp Bq Br Bs Bt Bu Bv:Value),
  ∃v' h',loopK Tryz.prog (evC Tryz.prog) c61_1 ⟨#[Aa,Ab,Ac,Ad,.pointer (some ⟨q4,0,none⟩),Af,.pointer (some ⟨p6,0,none⟩),Ah,.pointer (some ⟨rp,0,none⟩),Aj,Ak,Al,An,Ao,Ap,Aq,Ar,As,Au,Av,Aw,Ax,Ay,rows,.int .i64 n,.int .i64 i,Bc,Bd,Be,Bf,Bg,Bh,Bi,Bj,Bk,Bl,Bm,Bn,Bo,Bp,Bq,Br,Bs,Bt,Bu,Bv],h⟩ (zAu 0 (seqK Tryz.prog (evC Tryz.prog) c61_2 (zBb Tryz.f61 Tryz.prog h0))) =
   some (.tuple #[matV (if endP (readRows n mm r).2=true then n else 0) v',.bool (endP (readRows n mm r).2)],h')/\HExt h0 h'/\AM 45 h0.blks.length h' v' (if endP (readRows n mm r).2=true then dn++(readRows n mm r).1 else []):=by
 intro mm
 induction mm with
 | zero=>
  intro i h dn r hi hd hdl A w hlen c4 c6 hin Aa Ab Ac Ad Af Ah Aj Ak Al An Ao Ap Aq Ar As Au Av Aw Ax Ay Bc Bd Be Bf Bg Bh Bi Bj Bk Bl Bm Bn Bo Bp Bq Br Bs Bt Bu Bv
  rw[zBe evC_m,c61_1_eq]
  have e1:=spec_REnd w
  simp only[readRows]
  rw[List.append_nil]
  rw[show dn++List.replicate 0 (List.replicate n 0)=dn by simp] at A
  rcases Bool.eq_false_or_eq_true (endP r) with he | he
  ·rw[he] at e1
   simp only[he,if_true]
   obtain ⟨ra,rc,rfl⟩:=A.out.shape
   have c42:=c4.put [.int .i64 n,.slice ra dn.length rc]
   simp -implicitDefEqProofs (disch:=omega) only[dcT,dcF,↓c61_2_eq,e1,ldM' c6,stM,zAp c4 (o:=0) (vs:=[.int .i64 n,.slice ra dn.length rc]) (by simp),w2_put,↓ret61,↓zAc,↓zAb,↓Option.bind_some,↓zAa,sxA]
   simp -implicitDefEqProofs only[ldM' c42,Option.bind_some,rvals_two,zBj,if_true]
   exact ⟨_,_,rfl,zAl (hin.trans (In.put hin.len (.inl hq4) _)),(AM.put ⟨vs,A⟩ c4 (by decide) (by decide) _).done⟩
  ·rw[he] at e1
   simp only[he,Bool.false_eq_true,if_false]
   have c42:=c4.put [.int .i64 0,.slice none 0 0]
   simp -implicitDefEqProofs (disch:=omega) only[dcT,dcF,↓c61_2_eq,e1,bdM0,stM,zAp c4 (o:=0) (vs:=[.int .i64 0,.slice none 0 0]) (by simp),w2_put,↓ret61,↓zAc,↓zAb,↓Option.bind_some,↓zAa,sxA]
   simp -implicitDefEqProofs only[ldM' c42,Option.bind_some,rvals_two,zBj,Bool.false_eq_true,if_false]
   exact ⟨_,_,rfl,zAl (hin.trans (In.put hin.len (.inl hq4) _)),AM.nil _ _ _⟩
 | succ mm ih=>
  intro i h dn r hi hd hdl A w hlen c4 c6 hin Aa Ab Ac Ad Af Ah Aj Ak Al An Ao Ap Aq Ar As Au Av Aw Ax Ay Bc Bd Be Bf Bg Bh Bi Bj Bk Bl Bm Bn Bo Bp Bq Br Bs Bt Bu Bv
  rw[zBe evC_m,c61_1_eq]
  have hml:(dn++List.replicate (mm+1) (List.replicate n 0)).length=n:=by simp;omega
  obtain ⟨ad,x,hx,ea,ex,sx⟩:=(A.smv etM.size).at etM.under etM.size (by kernel_rfl) (i:=i) (by omega)
  have hgi:(dn++List.replicate (mm+1) (List.replicate n 0)).getD i []=List.replicate n 0:=by rw[<-hd];simp
  rw[hgi] at sx
  have hA0:dn++List.replicate (mm+1) (List.replicate n 0)=(dn++List.replicate (mm+1) (List.replicate n 0)).set i ([]++List.replicate n 0):=by
   rw[List.nil_append,show List.replicate (mm+1) (List.replicate n 0)=List.replicate n 0::List.replicate mm (List.replicate n 0) from rfl,<-hd,set_midM]
  rw[hA0] at A
  have hw:IntKind.wrap .i64 ((i:Int)+1)=((i+1:Nat):Int):=by rw[wrap_i64]<;>omega
  have hlr:((List.replicate n 0).length:Int)=n:=by simp
  have lx:=sx.row.len_eq etV.under
  rw[hlr] at lx
  have hle:=readRow_le n r
  have inner:=read_inner (Q:=fun res=>∃v' h',res=some (.tuple #[matV (if endP (readRows n (mm+1) r).2=true then n else 0) v',.bool (endP (readRows n (mm+1) r).2)],h')/\HExt h0 h'/\AM 45 h0.blks.length h' v' (if endP (readRows n (mm+1) r).2=true then dn++(readRows n (mm+1) r).1 else [])) (h0:=h0) (L:=L) (q4:=q4) (p6:=p6) (rp:=rp) (rows:=rows) (vs:=vs) (bv:=.bool true) (ml:=n) (i:=i) (n:=n) (m:=dn++List.replicate (mm+1) (List.replicate n 0)) (by omega) hx hn (hvL x (List.mem_of_getElem? hx))
   (zAu 1 (seqK Tryz.prog (evC Tryz.prog) c61_4 (againK Tryz.prog (evC Tryz.prog) c61_1 (zAu 0 (seqK Tryz.prog (evC Tryz.prog) c61_2 (zBb Tryz.f61 Tryz.prog h0))))))
   n 0 h [] r (by omega) rfl A w hrp hlen c4 c6 hin (by
    intro h' A' w' c4' c6' hin' Aa Ab Ac Ad Af Ah Aj Ak Al An Ao Ap Aq Ar As Au Av Aw Ax Ay Bc Bd Be Bf Bg Bh Bi Bj Bk Bl Bm Bn Bo Bp Bq Br Bs Bt Bu Bv
    rw[List.nil_append,show List.replicate (mm+1) (List.replicate n 0)=List.replicate n 0::List.replicate mm (List.replicate n 0) from rfl,<-hd,set_midM,show dn++(readRow n r).1::List.replicate mm (List.replicate n 0)=(dn++[(readRow n r).1])++List.replicate mm (List.replicate n 0) by simp] at A'
    have ih':=ih (i+1) h' (dn++[(readRow n r).1]) (readRow n r).2 (by omega) (by simp;omega) (fun y hy=>by
     rcases List.mem_append.1 hy with hy | hy
     ·exact hdl y hy
     ·rw[List.mem_singleton] at hy;subst hy;exact readRow_len n r) A' w' (by omega) c4' c6' hin'
    simp only[List.append_assoc,List.singleton_append] at ih'
    simp -implicitDefEqProofs (disch:=omega) only[↓c61_4_eq,hw,↓zAc,↓zAb,↓Option.bind_some,↓zAa,sxA]
    exact ih' _ _ _ _ _ _ _ _ _ _ _ _ _ _ _ _ _ _ _ _ _ _ _ _ _ _ _ _ _ _ _ _ _ _ _ _ _ _ _ _)
  rw[show ((0:Nat):Int)=0 from rfl] at inner
  simp -implicitDefEqProofs (disch:=omega) only[dcT,dcF,ea,ex,lx,↓zAc,↓zAb,↓Option.bind_some,↓zAa,sxA]
  exact inner _ _ _ _ _ _ _ _ _ _ _ _ _ _ _ _ _ _ _ _ _ _ _ _ _ _ _ _ _ _ _ _ _ _ _ _ _
theorem spec_Read {h:Heap} {n:Int} {b:Value} {bs:List UInt8} (sb:SB h b bs) (hl:bs.length<2^38) :
  ∃v' h',evC Tryz.prog 61 #[.int .i64 n,b] h=some (.tuple #[matV (readV n (readM n bs)) v',.bool (readM n bs).isSome],h')/\HExt h h'/\AM 45 h.blks.length h' v' ((readM n bs).getD []):=by
 rw[call61,c61_0_eq]
 have k1:=alM (nm h)
 have c1:=Cells.new (nm h) 119 [.int .i64 0,.slice none 0 0]
 have i1:In h.blks.length No (nm h) _:=In.new (by simp) (.cells [.int .i64 0,.slice none 0 0]) 119
 have bl:(nm h).blks.length=h.blks.length:=rfl
 rw[bl] at k1 c1
 generalize (nm h).new (.cells [.int .i64 0,.slice none 0 0]) 119=g1 at *
 obtain ⟨vm,g2,e2,Ac,a2⟩:=spec_MNew n g1
 have i2:=i1.trans (Ac.inn i1.len)
 have c2:=c1.ext Ac
 by_cases hc:1<=n/\n<=16
 ·rw[if_pos hc,if_pos hc] at e2
  rw[if_pos hc] at a2
  obtain ⟨n,rfl⟩:∃k:Nat,n=k:=⟨n.toNat,by omega⟩
  rw[Int.toNat_natCast] at a2
  obtain ⟨va,vc,rfl⟩:=a2.shape
  have k3:=alM g2
  have k3':=mvar (h:=g2) n va (zerosM n).length vc
  have c3:=mvar_cells g2 [.int .i64 0,.slice none 0 0] [.int .i64 n,.slice va (zerosM n).length vc] 119
  have s3:=mvar_same g2 (.cells [.int .i64 0,.slice none 0 0]) (.cells [.int .i64 n,.slice va (zerosM n).length vc]) 119
  have i3:=i2.trans (mvar_in (h:=g2) i2.len (.cells [.int .i64 0,.slice none 0 0]) (.cells [.int .i64 n,.slice va (zerosM n).length vc]) 119)
  generalize (g2.new (.cells [.int .i64 0,.slice none 0 0]) 119).put g2.blks.length (.cells [.int .i64 n,.slice va (zerosM n).length vc])=g3 at *
  obtain ⟨g4,rp,e4,Ae,r4,lr⟩:=spec_NewReaderL (sb.same i3.same0) (by omega)
  have i4:=i3.trans (Ae.inn i3.len)
  have l3:=i3.len
  simp only[nm_blks] at l3
  have c24:=(c2.same s3).ext Ae
  have c34:=c3.ext Ae
  obtain ⟨vs,A⟩:=((a2.up (n1:=h.blks.length) i1.len).same s3)
  have hvL:∀x∈vs,Lo x g3.blks.length:=fun x hx=>by
   obtain ⟨i,hi,rfl⟩:=List.getElem_of_mem hx
   obtain ⟨r',_,hr'⟩:=A.rows.get (i:=i) (a:=vs[i]) (List.getElem?_eq_getElem hi)
   exact hr'.su.lo
  have A4:=A.kp (h':=g4) fun b _ _ hb _ _=>Ae.old b (List.getElem?_eq_some_iff.1 hb).1
  have lv:=(AM.smV ⟨vs,A4⟩).lenRV
  have hz:((zerosM n).length:Int)=n:=by simp[zerosM]
  rw[hz] at lv
  have main:=read_loop (h0:=h) (L:=g3.blks.length) (rows:=.slice va (zerosM n).length vc) (by omega) hvL (by omega) (Nat.le_refl _) n 0 g4 [] (some bs) (by omega) rfl (by simp) (by rw[List.nil_append];exact A4) r4 (by simp only[rbs,Option.getD_some];omega) c24 c34 i4
  have em:readM n bs=if endP (readRows n n (some bs)).2=true then some (readRows n n (some bs)).1 else none:=by
   unfold readM;rw[if_pos hc,Int.toNat_natCast]
  have e1:readV n (readM n bs)=if endP (readRows n n (some bs)).2=true then (n:Int) else 0:=by rw[em];unfold readV;split<;>simp
  have e2':(readM n bs).isSome=endP (readRows n n (some bs)).2:=by rw[em];split<;>simp_all
  have e3':(readM n bs).getD []=if endP (readRows n n (some bs)).2=true then []++(readRows n n (some bs)).1 else []:=by rw[em];split<;>simp
  rw[e1,e2',e3']
  rw[show ((0:Nat):Int)=0 from rfl] at main
  simp -implicitDefEqProofs (disch:=omega) only[dcT,dcF,k1,e2,k3,k3',e4,faM1,ldRs,c34.load,two2,lv,ne_eq,eq_self,not_true_eq_false,decide_false,↓zAc,↓zAb,↓Option.bind_some,↓zAa,sxA]
  exact main _ _ _ _ _ _ _ _ _ _ _ _ _ _ _ _ _ _ _ _ _ _ _ _ _ _ _ _ _ _ _ _ _ _ _ _ _ _ _ _
 ·rw[if_neg hc,if_neg hc] at e2
  rw[if_neg hc] at a2
  have em:readM n bs=none:=by unfold readM;rw[if_neg hc]
  rw[em]
  obtain ⟨va,vc,rfl⟩:=a2.shape
  have k3:=alM g2
  have k3':=mvar (h:=g2) 0 va ([]:List (List Nat)).length vc
  have s3:=mvar_same g2 (.cells [.int .i64 0,.slice none 0 0]) (.cells [.int .i64 0,.slice va ([]:List (List Nat)).length vc]) 119
  have i3:=i2.trans (mvar_in (h:=g2) i2.len (.cells [.int .i64 0,.slice none 0 0]) (.cells [.int .i64 0,.slice va ([]:List (List Nat)).length vc]) 119)
  generalize (g2.new (.cells [.int .i64 0,.slice none 0 0]) 119).put g2.blks.length (.cells [.int .i64 0,.slice va ([]:List (List Nat)).length vc])=g3 at *
  have c3:=c2.same s3
  have c4:=c3.put [.int .i64 0,.slice none 0 0]
  have st:zBc Tryz.prog 119 (.pointer (some ⟨h.blks.length,0,none⟩)) (.agg #[.int .i64 0,.slice none 0 0]) g3=some (g3.put h.blks.length (.cells [.int .i64 0,.slice none 0 0])):=by
   rw[stM,zAp c3 (o:=0) (vs:=[.int .i64 0,.slice none 0 0]) (by simp),w2_put]
  simp -implicitDefEqProofs (disch:=omega) only[dcT,dcF,k1,e2,k3,k3',bdM0,st,↓ret61,↓zAc,↓zAb,↓Option.bind_some,↓zAa,sxA]
  simp -implicitDefEqProofs only[ldM' c4,Option.bind_some,rvals_two,zBj]
  exact ⟨_,_,rfl,zAl (i3.trans (In.put i3.len (.inl (Nat.le_refl _)) _)),AM.nil _ _ _⟩
end Go.Am
namespace Go.Am
open Go.Proofs
set_option maxRecDepth 100000
set_option linter.all false
attribute [local congr] zAf zAq zAr zAs zAj zAg
theorem AMv.app {t eo:TypeId} (et:ElemT Tryz.prog t eo 1 24 (.slice none 0 0)) (hne:eo≠30) {n0 n1:Nat} {h:Heap} (hn:n0<=h.blks.length) (hn1:n0<=n1) {v:Value} {vs:List Value} {m:List (List Nat)} (A:AMv eo n0 h v vs m) (hvs:∀x∈vs,Lo x n1) {a:Option Addr} {c:Nat} {r:List Nat} (ax:AU n1 h (.slice a r.length c) r) (hl:m.length<2^38) :
  ∃a' c' h',zBh Tryz.prog t (some t) v (.slice (some ⟨h.blks.length,0,none⟩) 1 1) (h.new (.cells [.slice a r.length c]) eo)=some (.slice a' (m++[r]).length c',h')/\AMv eo n0 h' (.slice a' (m++[r]).length c') (vs++[.slice a r.length c]) (m++[r])/\Keeps n0 h h'/\(∀p ty cs,Cells h p ty cs->ty≠eo->Cells h' p ty cs):=by
 have A2:=A.kp (h':=h.new (.cells [.slice a r.length c]) eo) fun b _ _ hb _ _=>Heap.new_old (List.getElem?_eq_some_iff.1 hb).1
 have ax2:AU n1 (h.new (.cells [.slice a r.length c]) eo) (.slice a r.length c) r:=ax.keep fun b hb _=>Heap.new_old hb
 have hrow:Row (h.new (.cells [.slice a r.length c]) eo) 1 (.slice (some ⟨h.blks.length,0,none⟩) 1 1) 1 [.slice a r.length c]:=.mk (loadN_blk (zBn _ _ _) rfl)
 obtain ⟨v',h',e1,e2,e3,e4,e5⟩:=append_acc et (t1:=some t) (n0:=n0) (by simp[Heap.new];omega) A2.out (newsV_row et.under hrow) (by simp) (by omega) (by omega) (by simp[Value.oneCell'])
 obtain ⟨a',c',rfl⟩:=e2.shape
 have el:m.length+1=(m++[r]).length:=by simp
 rw[el] at e1 e2
 have kr:∀b,b<(h.new (.cells [.slice a r.length c]) eo).blks.length->zAn v≠some b->h'.blks[b]?=(h.new (.cells [.slice a r.length c]) eo).blks[b]?:=e4
 refine ⟨a',c',h',e1,⟨e2,(A2.rows.mono fun x y s=>?_).append (.cons ?_ .nil),?_⟩,(Keeps.new hn _ _).trans e3,fun p ty cs hp ht=>?_⟩
 ·exact s.keep fun b hb hv=>kr b hb fun e=>(s.blk_ne A2.out (Ne.symm hne) hv) e
 ·exact (ax2.keep fun b hb hv=>kr b hb fun e=>(ax2.blk_ne A2.out (Ne.symm hne) hv) e).up hn1
 ·rw[List.pairwise_append]
  refine ⟨A.apart,List.pairwise_singleton _ _,fun x hx y hy b hb hb'=>?_⟩
  rw[List.mem_singleton] at hy
  subst hy
  have l1:=hvs x hx b hb
  have l2:=ax.ge hb'
  omega
 ·have hp':Cells (h.new (.cells [.slice a r.length c]) eo) p ty cs:=hp.keepNew _ _
  refine (kr p hp'.lt fun e=>?_).trans hp'
  obtain ⟨all,x⟩:=A2.out.blk e
  unfold Cells at hp'
  rw[hp'] at x
  simp only[Option.some.injEq,Blk.mk.injEq] at x
  exact ht x.2.1
theorem RdrR.cl {N:Nat} {h:Heap} {p:Nat} {r:Option (List UInt8)} (w:RdrR N h p r):∃cs,Cells h p 160 cs:=let ⟨_,_,x,_⟩:=w;⟨_,x⟩
end Go.Am
namespace Go.Am
open Go.Proofs
set_option maxRecDepth 100000
set_option linter.all false
attribute [local congr] zAf zAq zAr zAs zAj zAg
theorem addNu (t:TypeId) (xo yo:Operand) (a b:Nat):zBk Tryz.prog .add t xo yo (.int .u64 a) (.int .u64 b)=some (.int .u64 (((a+b) % 2^64:Nat):Int)):=by
 rw[bin_add,<-Int.natCast_add,wrap_u64_nat]
theorem andNu (t:TypeId) (xo yo:Operand) (a b:Nat) (ha:a<2^64) (hb:b<2^64):zBk Tryz.prog .and t xo yo (.int .u64 a) (.int .u64 b)=some (.int .u64 ((a &&& b:Nat):Int)):=by
 rw[bin_and64 _ _ _ _ _ (by omega) (by omega) (by omega) (by omega),Int.toNat_natCast,Int.toNat_natCast]
theorem andNotN (t:TypeId) (xo yo:Operand) (a b:Nat) (ha:a<2^64) (hb:b<2^64):zBk Tryz.prog .andNot t xo yo (.int .u64 a) (.int .u64 b)=some (.int .u64 ((a &&& (2^64-1-b):Nat):Int)):=by
 rw[bin_andNot64 _ _ _ _ _ (by omega) (by omega) (by omega) (by omega),Int.toNat_natCast,Int.toNat_natCast]
theorem shrU (t:TypeId) (xo yo:Operand) (s p:Nat) (hs:s<2^64) (hp:p<64):zBk Tryz.prog .shr t xo yo (.int .u64 s) (.int .u64 p)=some (.int .u64 ((s / 2^p:Nat):Int)):=shrN t xo yo .u64 s p hs hp
theorem andLtU {a b:Nat} (ha:a<2^64):a &&& b<2^64:=Nat.lt_of_le_of_lt Nat.and_le_left ha
theorem divLtU {a b:Nat} (ha:a<2^64):a / b<2^64:=Nat.lt_of_le_of_lt (Nat.div_le_self ..) ha
theorem modLtU (a:Nat):a % 2^64<2^64:=Nat.mod_lt _ (by decide)
theorem andIu (t:TypeId) (xo yo:Operand) (a b:Nat) (z:Int) (hz:z=b) (ha:a<2^64) (hb:b<2^64):zBk Tryz.prog .and t xo yo (.int .u64 a) (.int .u64 z)=some (.int .u64 ((a &&& b:Nat):Int)):=by subst hz;exact andNu t xo yo a b ha hb
theorem shrIu (t:TypeId) (xo yo:Operand) (s p:Nat) (z:Int) (hz:z=p) (hs:s<2^64) (hp:p<64):zBk Tryz.prog .shr t xo yo (.int .u64 s) (.int .u64 z)=some (.int .u64 ((s / 2^p:Nat):Int)):=by subst hz;exact shrU t xo yo s p hs hp
def pop1 (x:Nat):Nat:=((x / 2^1 &&& 6148914691236517205)+(x &&& 6148914691236517205)) % 2^64
def pop2 (x:Nat):Nat:=((x / 2^2 &&& 3689348814741910323)+(x &&& 3689348814741910323)) % 2^64
def pop3 (x:Nat):Nat:=((x / 2^4+x) % 2^64) &&& 1085102592571150095
def pop4 (x:Nat):Nat:=(x+x / 2^8) % 2^64
def pop5 (x:Nat):Nat:=(x+x / 2^16) % 2^64
def pop6 (x:Nat):Nat:=(x+x / 2^32) % 2^64
def pop (x:Nat):Nat:=pop6 (pop5 (pop4 (pop3 (pop2 (pop1 x))))) % 128
theorem pop_lt (x:Nat):pop x<128:=Nat.mod_lt _ (by decide)
theorem popAnd127 (t:TypeId) (xo yo:Operand) (f:Nat) (hf:f<2^64):zBk Tryz.prog .and t xo yo (.int .i64 (IntKind.wrap .i64 f)) (.int .i64 127)=some (.int .i64 ((f % 128:Nat):Int)):=by
 rw[bin_andB]
 have e:(BitVec.ofInt IntKind.i64.bits (IntKind.wrap .i64 f) &&& BitVec.ofInt IntKind.i64.bits 127).toNat=f % 128:=by
  show (BitVec.ofInt 64 (IntKind.wrap .i64 (f:Int)) &&& BitVec.ofInt 64 127).toNat=f % 128
  rw[BitVec.toNat_and,show BitVec.ofInt 64 (IntKind.wrap .i64 (f:Int))=BitVec.ofNat 64 f from ?_,BitVec.toNat_ofNat,Nat.mod_eq_of_lt hf,show (BitVec.ofInt 64 127).toNat=2^7-1 from by decide,Nat.and_two_pow_sub_one_eq_mod]
  have e0:∀z:Int,IntKind.wrap .i64 z=if decide (z % 2^64>=2^63)=true then z % 2^64-2^64 else z % 2^64:=fun z=>rfl
  apply BitVec.eq_of_toNat_eq
  rw[BitVec.toNat_ofInt,BitVec.toNat_ofNat,e0]
  by_cases hc:(f:Int) % 2^64>=2^63
  ·rw[if_pos (decide_eq_true hc)];omega
  ·rw[if_neg (by simpa using hc)];omega
 rw[e,wrap_i64 (by omega) (by omega)]
theorem spec_Ones (x:Nat) (hx:x<2^64) (h:Heap):evC Tryz.prog 90 #[.int .u64 x] h=some (.int .i64 (pop x:Nat),h):=by
 rw[call90,c90_0_eq]
 have cv:∀(f:Nat) (h:Heap),convV Tryz.prog 30 3 (.int .u64 f) h=some (.int .i64 (IntKind.wrap .i64 f),h):=fun f h=>conv_int (ks:=.u64) (by kernel_rfl) (by kernel_rfl) _ _ _
 have a1:=fun t xo yo=>shrIu t xo yo x 1 1 rfl hx (by omega)
 have a2:=fun t xo yo=>andIu t xo yo (x / 2^1) 6148914691236517205 6148914691236517205 rfl (divLtU hx) (by omega)
 have a3:=fun t xo yo=>andIu t xo yo x 6148914691236517205 6148914691236517205 rfl hx (by omega)
 have a4:=fun t xo yo=>addNu t xo yo (x / 2^1 &&& 6148914691236517205) (x &&& 6148914691236517205)
 have b0:pop1 x<2^64:=modLtU _
 rw[show ((x / 2^1 &&& 6148914691236517205)+(x &&& 6148914691236517205)) % 2^64=pop1 x from rfl] at a4
 unfold pop
 generalize pop1 x=y at *
 have b1:=fun t xo yo=>shrIu t xo yo y 2 2 rfl b0 (by omega)
 have b2:=fun t xo yo=>andIu t xo yo (y / 2^2) 3689348814741910323 3689348814741910323 rfl (divLtU b0) (by omega)
 have b3:=fun t xo yo=>andIu t xo yo y 3689348814741910323 3689348814741910323 rfl b0 (by omega)
 have b4:=fun t xo yo=>addNu t xo yo (y / 2^2 &&& 3689348814741910323) (y &&& 3689348814741910323)
 have c0:pop2 y<2^64:=modLtU _
 rw[show ((y / 2^2 &&& 3689348814741910323)+(y &&& 3689348814741910323)) % 2^64=pop2 y from rfl] at b4
 generalize pop2 y=z at *
 have c1:=fun t xo yo=>shrIu t xo yo z 4 4 rfl c0 (by omega)
 have c2:=fun t xo yo=>addNu t xo yo (z / 2^4) z
 have c3:=fun t xo yo=>andIu t xo yo ((z / 2^4+z) % 2^64) 1085102592571150095 1085102592571150095 rfl (modLtU _) (by omega)
 have d0:pop3 z<2^64:=andLtU (modLtU _)
 rw[show ((z / 2^4+z) % 2^64) &&& 1085102592571150095=pop3 z from rfl] at c3
 generalize pop3 z=u at *
 have d1:=fun t xo yo=>shrIu t xo yo u 8 8 rfl d0 (by omega)
 have d2:=fun t xo yo=>addNu t xo yo u (u / 2^8)
 have f0:pop4 u<2^64:=modLtU _
 rw[show (u+u / 2^8) % 2^64=pop4 u from rfl] at d2
 generalize pop4 u=v at *
 have f1:=fun t xo yo=>shrIu t xo yo v 16 16 rfl f0 (by omega)
 have f2:=fun t xo yo=>addNu t xo yo v (v / 2^16)
 have g0:pop5 v<2^64:=modLtU _
 rw[show (v+v / 2^16) % 2^64=pop5 v from rfl] at f2
 generalize pop5 v=w at *
 have g1:=fun t xo yo=>shrIu t xo yo w 32 32 rfl g0 (by omega)
 have g2:=fun t xo yo=>addNu t xo yo w (w / 2^32)
 have k0:pop6 w<2^64:=modLtU _
 rw[show (w+w / 2^32) % 2^64=pop6 w from rfl] at g2
 generalize pop6 w=s at *
 have k1:=fun t xo yo=>popAnd127 t xo yo s k0
 simp -implicitDefEqProofs only[a1,a2,a3,a4,b1,b2,b3,b4,c1,c2,c3,d1,d2,f1,f2,g1,g2,cv,k1,↓ret90,↓zAc,↓zAb,↓Option.bind_some,↓zAa,sxA]
theorem spec_Count (x:Nat) (hx:x<2^64) (h:Heap):evC Tryz.prog 55 #[.int .u64 x] h=some (.int .i64 (pop x:Nat),h):=by
 rw[call55,c55_0_eq]
 simp -implicitDefEqProofs only[spec_Ones x hx,↓ret55,↓zAc,↓zAb,↓Option.bind_some,↓zAa,sxA]
end Go.Am
namespace Go.Am
open Go.Proofs
set_option maxRecDepth 100000
set_option linter.all false
attribute [local congr] zAf zAq zAr zAs zAj zAg
theorem bdE (n me k:Int) (a b:Option Addr) (l c l2 c2:Nat):buildV Tryz.prog 123 #[(0,.int .i64 n),(1,.int .i64 me),(2,.agg #[.int .i64 k,.slice a l c]),(3,.slice b l2 c2)]=some (.agg #[.int .i64 n,.int .i64 me,.int .i64 k,.slice a l c,.slice b l2 c2]):=by kernel_rfl
theorem bxFE (n me k:Int) (v w:Value) (h:Heap):boxV Tryz.prog 123 (.agg #[.int .i64 n,.int .i64 me,.int .i64 k,v,w]) h=some (.pointer (some ⟨h.blks.length,0,none⟩),h.new (.cells [.int .i64 n,.int .i64 me,.int .i64 k,v,w]) 123):=by kernel_rfl
theorem faFE0 (p:Nat):zAe Tryz.prog 123 (.pointer (some ⟨p,0,none⟩)) 0=some (.pointer (some ⟨p,0,none⟩)):=by kernel_rfl
theorem faFE1 (p:Nat):zAe Tryz.prog 123 (.pointer (some ⟨p,0,none⟩)) 1=some (.pointer (some ⟨p,1,none⟩)):=by kernel_rfl
theorem faFE2 (p:Nat):zAe Tryz.prog 123 (.pointer (some ⟨p,0,none⟩)) 2=some (.pointer (some ⟨p,2,none⟩)):=by kernel_rfl
theorem faFE3 (p:Nat):zAe Tryz.prog 123 (.pointer (some ⟨p,0,none⟩)) 3=some (.pointer (some ⟨p,4,none⟩)):=by kernel_rfl
theorem ldVv (p o:Nat) (h:Heap):zAw Tryz.prog 45 (.pointer (some ⟨p,o,none⟩)) h=h.load1 p o:=by kernel_rfl
theorem eqE (xo yo:Operand) (p:Nat):zBk Tryz.prog .eql 57 xo yo (.pointer (some ⟨p,0,none⟩)) (.pointer none)=some (.bool false):=by kernel_rfl
theorem ldMo (p o:Nat) (h:Heap):zAw Tryz.prog 119 (.pointer (some ⟨p,o,none⟩)) h=(h.loadN p o 2).map fun vs=>.agg vs.toArray:=by kernel_rfl
theorem stMo (p o:Nat) (n:Int) (a:Option Addr) (l c:Nat) (h:Heap):zBc Tryz.prog 119 (.pointer (some ⟨p,o,none⟩)) (.agg #[.int .i64 n,.slice a l c]) h=h.storeN p o [.int .i64 n,.slice a l c]:=by kernel_rfl
theorem stVv (p o:Nat) (a:Option Addr) (n c:Nat) (h:Heap):zBc Tryz.prog 45 (.pointer (some ⟨p,o,none⟩)) (.slice a n c) h=h.storeN p o [.slice a n c]:=by kernel_rfl
structure EnC (L:Nat) (h:Heap) (p:Nat) (n me:Int) (rv gv:Value) (m:List (List Nat)) (g:List Nat):Prop where
 c:Cells h p 123 [.int .i64 n,.int .i64 me,.int .i64 n,rv,gv]
 am:AM 45 L h rv m
 au:AU L h gv g
def En (L:Nat) (h:Heap) (p:Nat) (n me:Int) (m:List (List Nat)) (g:List Nat):Prop:=∃rv gv,EnC L h p n me rv gv m g
variable {L:Nat} {h h':Heap} {p:Nat} {n me:Int} {rv gv:Value} {m:List (List Nat)} {g:List Nat}
theorem EnC.kp (E:EnC L h p n me rv gv m g) (k:∀b all ty,h.blks[b]?=some ⟨.cells all,ty,true⟩->ty=123/\b=p\/ty=45\/ty=30->h'.blks[b]?=h.blks[b]?):EnC L h' p n me rv gv m g:=
 ⟨(k _ _ _ E.c (.inl ⟨rfl,rfl⟩)).trans E.c,E.am.kp fun b all ty hb ht _=>k b all ty hb (.inr ht),E.au.keep fun b _ hv=>by obtain ⟨all,h1⟩:=E.au.blk hv;exact k b all _ h1 (.inr (.inr rfl))⟩
theorem EnC.same (E:EnC L h p n me rv gv m g) (s:Same h h'):EnC L h' p n me rv gv m g:=E.kp fun b _ _ hb _=>s.2 b (List.getElem?_eq_some_iff.1 hb).1
theorem EnC.ext (E:EnC L h p n me rv gv m g) (e:HExt h h'):EnC L h' p n me rv gv m g:=E.same e.same
theorem EnC.kpT (E:EnC L h p n me rv gv m g) {T:TypeId} (h1:123≠T) (h2:45≠T) (h3:30≠T) (k:∀q ty cs,Cells h q ty cs->ty≠T->Cells h' q ty cs):EnC L h' p n me rv gv m g:=
 E.kp fun b all ty hb ht=>(k b ty all hb (by rcases ht with ⟨rfl,_⟩ | rfl | rfl<;>assumption)).trans hb.symm
theorem En.same (E:En L h p n me m g) (s:Same h h'):En L h' p n me m g:=let ⟨_,_,x⟩:=E;⟨_,_,x.same s⟩
theorem En.ext (E:En L h p n me m g) (s:HExt h h'):En L h' p n me m g:=E.same s.same
theorem En.nm (E:En L h p n me m g):En L (Am.nm h) p n me m g:=E.same ⟨Nat.le_refl _,fun _ _=>rfl⟩
theorem En.done {h0:Heap} (E:En L h p n me m g):En L (Am.done h0 h) p n me m g:=E.same ⟨Nat.le_refl _,fun _ _=>rfl⟩
theorem En.mod {S:Nat->Prop} (E:En L h p n me m g) (e:HMod S h h') (hp:¬S p) (k:∀b,S b->∃T cs,Cells h b T cs/\T≠45/\T≠30):En L h' p n me m g:=
 let ⟨rv,gv,x⟩:=E
 ⟨rv,gv,x.kp fun b all ty hb ht=>e.old b (List.getElem?_eq_some_iff.1 hb).1 fun hs=>by
  rcases ht with ⟨_,rfl⟩ | ht
  ·exact hp hs
  ·obtain ⟨T,cs,hc,h1,h2⟩:=k b hs
   unfold Cells at hc
   rw[hc] at hb
   simp only[Option.some.injEq,Blk.mk.injEq] at hb
   rcases ht with ht | ht
   ·exact h1 (hb.2.1.trans ht)
   ·exact h2 (hb.2.1.trans ht)⟩
theorem EnC.lt (E:EnC L h p n me rv gv m g):p<h.blks.length:=E.c.lt
theorem EnC.l0 (E:EnC L h p n me rv gv m g):h.load1 p 0=some (.int .i64 n):=by rw[E.c.load];rfl
theorem EnC.l1 (E:EnC L h p n me rv gv m g):h.load1 p 1=some (.int .i64 me):=by rw[E.c.load];rfl
theorem EnC.l3 (E:EnC L h p n me rv gv m g):h.load1 p 3=some rv:=by rw[E.c.load];rfl
theorem EnC.l4 (E:EnC L h p n me rv gv m g):h.load1 p 4=some gv:=by rw[E.c.load];rfl
theorem EnC.ldm (E:EnC L h p n me rv gv m g):zAw Tryz.prog 119 (.pointer (some ⟨p,2,none⟩)) h=some (matV n rv):=by
 rw[ldMo]
 have:h.loadN p 2 2=some [.int .i64 n,rv]:=by
  have c:=E.c
  unfold Cells at c
  simp[Heap.loadN,Heap.cells?,c]
 rw[this];rfl
structure EnOk (n me:Int) (m:List (List Nat)) (g:List Nat):Prop where
 gd:goodM n m=true
 me0:0<=me
 men:me<n
 gl:(g.length:Int)=n
 m64:∀r∈m,∀y∈r,y<2^64
 g64:∀y∈g,y<2^64
theorem spec_ENew (n me:Int) (h:Heap):(∃(q:Nat) (h':Heap),evC Tryz.prog 18 #[.int .i64 n,.int .i64 me] h=some (.tuple #[if 1<=n/\n<=16/\0<=me/\me<n then .pointer (some ⟨q,0,none⟩) else .pointer none,.int .i64 (if 1<=n/\n<=16/\0<=me/\me<n then 0 else 1)],h')/\HExt h h' ∧
  (1<=n/\n<=16/\0<=me/\me<n->h.blks.length<=q/\En h.blks.length h' q n me (zerosM n.toNat) (List.replicate n.toNat 0))):=by
 rw[call18,c18_0_eq]
 obtain ⟨v,g1,e1,Ab,a1⟩:=spec_MNew n (nm h)
 have i1:In h.blks.length No (nm h) g1:=Ab.inn (Nat.le_refl _)
 by_cases hn:1<=n/\n<=16
 ·rw[if_pos hn,if_pos hn] at e1
  rw[if_pos hn] at a1
  obtain ⟨va,vc,rfl⟩:=a1.shape
  have k2:=alM g1
  have k2':=mvar (h:=g1) n va (zerosM n.toNat).length vc
  have c2:=mvar_cells g1 [.int .i64 0,.slice none 0 0] [.int .i64 n,.slice va (zerosM n.toNat).length vc] 119
  have s2:=mvar_same g1 (.cells [.int .i64 0,.slice none 0 0]) (.cells [.int .i64 n,.slice va (zerosM n.toNat).length vc]) 119
  have i2:=i1.trans (mvar_in (h:=g1) i1.len (.cells [.int .i64 0,.slice none 0 0]) (.cells [.int .i64 n,.slice va (zerosM n.toNat).length vc]) 119)
  have l2:=i2.len
  generalize (g1.new (.cells [.int .i64 0,.slice none 0 0]) 119).put g1.blks.length (.cells [.int .i64 n,.slice va (zerosM n.toNat).length vc])=g2 at *
  by_cases h0:0<=me
  ·by_cases h1:me<n
   ·simp only[if_pos (show 1<=n/\n<=16/\0<=me/\me<n from ⟨hn.1,hn.2,h0,h1⟩)]
    obtain ⟨ua,uc,g3,e3,Ad,a3⟩:=spec_New n (nm g2)
    obtain ⟨Ad',m3⟩:=Ad.amx
    have hz:List.replicate (min (max n 0) 64).toNat 0=List.replicate n.toNat 0:=by congr 1;omega
    rw[hz] at e3 a3
    have c5:=Cells.new (am g3 g2) 123 [.int .i64 n,.int .i64 me,.int .i64 n,.slice va (zerosM n.toNat).length vc,.slice ua (List.replicate n.toNat 0).length uc]
    have i5:=(i2.trans (Ad'.inn i2.len)).trans (In.new (i2.trans (Ad'.inn i2.len)).len (.cells [.int .i64 n,.int .i64 me,.int .i64 n,.slice va (zerosM n.toNat).length vc,.slice ua (List.replicate n.toNat 0).length uc]) 123)
    have am5:=((a1.same s2).same Ad'.same).same (Same.new (am g3 g2) (.cells [.int .i64 n,.int .i64 me,.int .i64 n,.slice va (zerosM n.toNat).length vc,.slice ua (List.replicate n.toNat 0).length uc]) 123)
    have a3':AU h.blks.length (am g3 g2) (.slice ua (List.replicate n.toNat 0).length uc) (List.replicate n.toNat 0):=(a3.keep (h':=am g3 g2) fun _ _ _=>rfl).up l2
    have au5:=a3'.same (Same.new (am g3 g2) (.cells [.int .i64 n,.int .i64 me,.int .i64 n,.slice va (zerosM n.toNat).length vc,.slice ua (List.replicate n.toNat 0).length uc]) 123)
    have l3:=Ad'.len
    have hl:((am g3 g2).new (.cells [.int .i64 n,.int .i64 me,.int .i64 n,.slice va (zerosM n.toNat).length vc,.slice ua (List.replicate n.toNat 0).length uc]) 123).blks.length=(am g3 g2).blks.length+1:=by simp[Heap.new]
    have hq:¬me>=n:=by omega
    simp -implicitDefEqProofs (disch:=omega) only[dcT,dcF,e1,k2,k2',ldM' c2,e3,bdE,bxFE,m3,List.append_nil,↓ret18,↓zAc,↓zAb,↓Option.bind_some,↓zAa,sxA]
    exact ⟨_,_,rfl,zAl i5,fun _=>⟨by have:=l3;have:h.blks.length<=g2.blks.length:=l2;omega,En.done ⟨_,_,⟨c5,am5.up (Nat.le_refl _),au5⟩⟩⟩⟩
   ·simp only[if_neg (show ¬(1<=n/\n<=16/\0<=me/\me<n) from fun x=>h1 x.2.2.2)]
    simp -implicitDefEqProofs (disch:=omega) only[dcT,dcF,e1,k2,k2',↓ret18,↓zAc,↓zAb,↓Option.bind_some,↓zAa,sxA]
    exact ⟨0,_,rfl,zAl i2,fun x=>absurd x.2.2.2 h1⟩
  ·simp only[if_neg (show ¬(1<=n/\n<=16/\0<=me/\me<n) from fun x=>h0 x.2.2.1)]
   simp -implicitDefEqProofs (disch:=omega) only[dcT,dcF,e1,k2,k2',↓ret18,↓zAc,↓zAb,↓Option.bind_some,↓zAa,sxA]
   exact ⟨0,_,rfl,zAl i2,fun x=>absurd x.2.2.1 h0⟩
 ·rw[if_neg hn,if_neg hn] at e1
  rw[if_neg hn] at a1
  obtain ⟨va,vc,rfl⟩:=a1.shape
  have k2:=alM g1
  have k2':=mvar (h:=g1) 0 va ([]:List (List Nat)).length vc
  have i2:=i1.trans (mvar_in (h:=g1) i1.len (.cells [.int .i64 0,.slice none 0 0]) (.cells [.int .i64 0,.slice va ([]:List (List Nat)).length vc]) 119)
  simp only[if_neg (show ¬(1<=n/\n<=16/\0<=me/\me<n) from fun x=>hn ⟨x.1,x.2.1⟩)]
  simp -implicitDefEqProofs (disch:=omega) only[dcT,dcF,e1,k2,k2',↓ret18,↓zAc,↓zAb,↓Option.bind_some,↓zAa,sxA]
  exact ⟨0,_,rfl,zAl i2,fun x=>absurd ⟨x.1,x.2.1⟩ hn⟩
end Go.Am
namespace Go.Am
open Go.Proofs
set_option maxRecDepth 100000
set_option linter.all false
attribute [local congr] zAf zAq zAr zAs zAj zAg
variable {L:Nat} {h h':Heap} {p:Nat} {n me:Int} {rv gv:Value} {m:List (List Nat)} {g:List Nat}
def toE (n me:Int) (to:Nat):Nat:=to &&& (allN n.toNat &&& (2^64-1-2^me.toNat))
theorem toE_lt (n me:Int) (to:Nat) (h:to<2^64):toE n me to<2^64:=andLtU h
theorem goodM_small {n:Int} {m:List (List Nat)} (g:goodM n m=true):Small m:=Small.good g
end Go.Am
namespace Go.Am
open Go.Proofs
set_option maxRecDepth 100000
attribute [local congr] zAf zAq zAr zAs zAj zAg
end Go.Am
namespace Go.Am
open Go.Proofs
set_option maxRecDepth 100000
set_option linter.all false
attribute [local congr] zAf zAq zAr zAs zAj zAg
end Go.Am
namespace Go.Am
open Go.Proofs
set_option maxRecDepth 100000
set_option linter.all false
attribute [local congr] zAf zAq zAr zAs zAj zAg
end Go.Am
namespace Go.Am
open Go.Proofs
set_option maxRecDepth 100000
set_option linter.all false
attribute [local congr] zAf zAq zAr zAs zAj zAg
variable {L:Nat} {h h':Heap} {p:Nat} {n me:Int} {rv gv:Value} {m:List (List Nat)} {g:List Nat}
def canCol (g col:List Nat):Bool:=(List.range col.length).all fun k=>decide (col.getD k 0<=g.getD k 0)
def canColF (g col:List Nat) (i:Nat):Bool:=(List.range' i (col.length-i)).all fun k=>decide (col.getD k 0<=g.getD k 0)
def canFE (n me:Int) (g:List Nat) (from':Int) (bs:List UInt8):Bool:=match readM n bs with
 | none=>false
 | some r=>decide (0<=from'/\from'<n/\from'≠me) && canCol g (columnM n r me)
theorem canColF_zero (g col:List Nat):canColF g col 0=canCol g col:=by unfold canColF canCol;rw[Nat.sub_zero,List.range_eq_range']
theorem canColF_end (g col:List Nat):canColF g col col.length=true:=by unfold canColF;rw[Nat.sub_self];rfl
theorem canColF_step (g col:List Nat) {i:Nat} (hi:i<col.length):canColF g col i=(decide (col.getD i 0<=g.getD i 0) && canColF g col (i+1)):=by
 unfold canColF
 rw[show col.length-i=(col.length-(i+1))+1 by omega,List.range'_succ];rfl
theorem can_loop {h0 h:Heap} {p:Nat} {cv:Value} {col:List Nat} (E:EnC L h p n me rv gv m g) (sc:SU h cv col) (hc:col.length<=g.length) (hl:g.length<=16):∀(mm i:Nat),col.length=i+mm->∀(Ab Ac Ad Ae Af Ag Ah Ai Aj Ak Al An Ao Ap Aq Ar As Au Av Aw Ax Ay Az Ba Bb Bc Bd Be Bf Bg Bh Bi Bj Bk Bl Bm Bn Bo Bp Bq Br Bs Bt Bu Bv Bw Bx By Cc Cd Ce Cf Cg Ch Ci Cj Ck Cl Cm Cn Co Cp:Value),
  loopK Tryz.prog (evC Tryz.prog) c25_1 ⟨#[.pointer (some ⟨p,0,none⟩),Ab,Ac,Ad,Ae,Af,Ag,Ah,Ai,Aj,Ak,Al,An,Ao,Ap,Aq,Ar,As,Au,Av,Aw,Ax,Ay,Az,Ba,Bb,Bc,Bd,Be,Bf,Bg,Bh,Bi,Bj,Bk,Bl,Bm,Bn,Bo,Bp,Bq,Br,Bs,Bt,Bu,Bv,Bw,Bx,By,cv,.int .i64 col.length,.int .i64 i,Cc,Cd,Ce,Cf,Cg,Ch,Ci,Cj,Ck,Cl,Cm,Cn,Co,Cp],h⟩ (zAu 0 (seqK Tryz.prog (evC Tryz.prog) c25_2 (zBb Tryz.f25 Tryz.prog h0))) =
   some (.bool (canColF g col i),done h0 h):=by
 intro mm
 induction mm with
 | zero=>
  intro i hi Ab Ac Ad Ae Af Ag Ah Ai Aj Ak Al An Ao Ap Aq Ar As Au Av Aw Ax Ay Az Ba Bb Bc Bd Be Bf Bg Bh Bi Bj Bk Bl Bm Bn Bo Bp Bq Br Bs Bt Bu Bv Bw Bx By Cc Cd Ce Cf Cg Ch Ci Cj Ck Cl Cm Cn Co Cp
  rw[zBe evC_m,c25_1_eq]
  rw[show i=col.length by omega,canColF_end]
  simp -implicitDefEqProofs (disch:=omega) only[dcT,dcF,↓c25_2_eq,↓ret25,↓zAc,↓zAb,↓Option.bind_some,↓zAa,sxA]
 | succ mm ih=>
  intro i hi Ab Ac Ad Ae Af Ag Ah Ai Aj Ak Al An Ao Ap Aq Ar As Au Av Aw Ax Ay Az Ba Bb Bc Bd Be Bf Bg Bh Bi Bj Bk Bl Bm Bn Bo Bp Bq Br Bs Bt Bu Bv Bw Bx By Cc Cd Ce Cf Cg Ch Ci Cj Ck Cl Cm Cn Co Cp
  rw[zBe evC_m,c25_1_eq]
  obtain ⟨a1,e1,e2⟩:=su_at sc etV.under (i:=i) (by omega)
  obtain ⟨a3,e3,e4⟩:=su_at E.au.su etV.under (i:=i) (by omega)
  have hw:IntKind.wrap .i64 ((i:Int)+1)=((i+1:Nat):Int):=by rw[wrap_i64]<;>omega
  rw[canColF_step g col (by omega)]
  by_cases hlt:g.getD i 0<col.getD i 0
  ·rw[decide_eq_false (by omega),Bool.false_and]
   simp -implicitDefEqProofs (disch:=omega) only[dcT,dcF,e1,e2,faFE3,ldVv,E.l4,e3,e4,↓ret25,↓zAc,↓zAb,↓Option.bind_some,↓zAa,sxA]
  ·rw[decide_eq_true (show col.getD i 0<=g.getD i 0 by omega),Bool.true_and]
   simp -implicitDefEqProofs (disch:=omega) only[dcT,dcF,e1,e2,faFE3,ldVv,E.l4,e3,e4,hw,↓zAc,↓zAb,↓Option.bind_some,↓zAa,sxA]
   exact ih (i+1) (by omega) _ _ _ _ _ _ _ _ _ _ _ _ _ _ _ _ _ _ _ _ _ _ _ _ _ _ _ _ _ _ _ _ _ _ _ _ _ _ _ _ _ _ _ _ _ _ _ _ _ _ _ _ _ _ _ _ _ _ _ _ _ _
theorem columnM_len {n me:Int} {r:List (List Nat)} (gd:goodM n r=true):(columnM n r me).length<=r.length:=by
 unfold columnM
 split
 ·simp[colM]
 ·simp
theorem spec_ECan (E:En L h p n me m g) (ok:EnOk n me m g) (from':Int) (num:Nat) {b:Value} {bs:List UInt8} (sb:SB h b bs) (hb:bs.length<2^38) :
  ∃h',evC Tryz.prog 25 #[.pointer (some ⟨p,0,none⟩),.int .i64 from',.int .u64 num,b] h=some (.bool (canFE n me g from' bs),h')/\HExt h h':=by
 rw[call25,c25_0_eq]
 obtain ⟨rv,gv,E⟩:=E
 have E0:=E.same (h':=nm h) ⟨Nat.le_refl _,fun _ _=>rfl⟩
 obtain ⟨wv,h2,e2,Ac,a2⟩:=spec_Read (n:=n) (b:=b) (bs:=bs) sb.nm hb
 have i2:In h.blks.length No (nm h) h2:=Ac.inn (Nat.le_refl _)
 obtain ⟨wa,wc,rfl⟩:=a2.shape
 have k3:=alM h2
 have k3':=mvar (h:=h2) (readV n (readM n bs)) wa ((readM n bs).getD []).length wc
 have c3:=mvar_cells h2 [.int .i64 0,.slice none 0 0] [.int .i64 (readV n (readM n bs)),.slice wa ((readM n bs).getD []).length wc] 119
 have s3:=mvar_same h2 (.cells [.int .i64 0,.slice none 0 0]) (.cells [.int .i64 (readV n (readM n bs)),.slice wa ((readM n bs).getD []).length wc]) 119
 have i3:=i2.trans (mvar_in (h:=h2) i2.len (.cells [.int .i64 0,.slice none 0 0]) (.cells [.int .i64 (readV n (readM n bs)),.slice wa ((readM n bs).getD []).length wc]) 119)
 generalize (h2.new (.cells [.int .i64 0,.slice none 0 0]) 119).put h2.blks.length (.cells [.int .i64 (readV n (readM n bs)),.slice wa ((readM n bs).getD []).length wc])=h3 at *
 have E3:=E.same i3.same0
 have m3:=a2.smV.same s3
 cases hr:readM n bs with
 | none=>
  rw[hr] at e2
  rw[hr] at k3'
  rw[show (none:Option (List (List Nat))).isSome=false from rfl] at e2
  have ec:canFE n me g from' bs=false:=by unfold canFE;rw[hr]
  rw[ec]
  simp -implicitDefEqProofs (disch:=omega) only[dcT,dcF,faFE0,mldInt,E0.l0,e2,k3,k3',↓ret25,↓zAc,↓zAb,↓Option.bind_some,↓zAa,sxA]
  exact ⟨_,rfl,zAl i3⟩
 | some r=>
  have hg:=readM_good hr
  rw[hr] at e2 k3' m3 c3
  rw[show (some r:Option (List (List Nat))).isSome=true from rfl,show readV n (some r)=n from rfl] at e2
  rw[show readV n (some r)=n from rfl] at k3' c3
  rw[show (some r).getD []=r from rfl] at e2 k3' m3 c3
  have ec:canFE n me g from' bs=(decide (0<=from'/\from'<n/\from'≠me) && canCol g (columnM n r me)):=by unfold canFE;rw[hr]
  rw[ec]
  by_cases h1:0<=from'
  ·by_cases h2:from'<n
   ·by_cases h3':from'=me
    ·rw[decide_eq_false (fun x=>x.2.2 h3'),Bool.false_and]
     simp -implicitDefEqProofs (disch:=omega) only[dcT,dcF,faFE0,faFE1,mldInt,E0.l0,e2,k3,k3',E3.l0,E3.l1,↓ret25,↓zAc,↓zAb,↓Option.bind_some,↓zAa,sxA]
     exact ⟨_,rfl,zAl i3⟩
    ·rw[decide_eq_true (show 0<=from'/\from'<n/\from'≠me from ⟨h1,h2,h3'⟩),Bool.true_and]
     have hgi:=(goodM_iff n r).1 hg.1
     obtain ⟨ca,cc,h5,e5,Af,a5⟩:=spec_Column (n:=n) m3 (by have:=hgi.1;omega) me
     have hlc:=columnM_len (me:=me) hg.1
     have:=can_loop (h0:=h) (E3.ext Af) a5.su (by have:=ok.gl;omega) (by have:=ok.gl;omega) (columnM n r me).length 0 (by omega)
     rw[canColF_zero,show ((0:Nat):Int)=0 from rfl] at this
     have ln:=a5.su.row.len_eq etV.under
     simp -implicitDefEqProofs (disch:=omega) only[dcT,dcF,faFE0,faFE1,mldInt,E0.l0,e2,k3,k3',E3.l0,E3.l1,ldM' c3,e5,ln,↓zAc,↓zAb,↓Option.bind_some,↓zAa,sxA]
     exact ⟨_,this _ _ _ _ _ _ _ _ _ _ _ _ _ _ _ _ _ _ _ _ _ _ _ _ _ _ _ _ _ _ _ _ _ _ _ _ _ _ _ _ _ _ _ _ _ _ _ _ _ _ _ _ _ _ _ _ _ _ _ _ _ _,zAl (i3.trans (Af.inn i3.len))⟩
   ·rw[decide_eq_false (fun x=>h2 x.2.1),Bool.false_and]
    simp -implicitDefEqProofs (disch:=omega) only[dcT,dcF,faFE0,faFE1,mldInt,E0.l0,e2,k3,k3',E3.l0,E3.l1,↓ret25,↓zAc,↓zAb,↓Option.bind_some,↓zAa,sxA]
    exact ⟨_,rfl,zAl i3⟩
  ·rw[decide_eq_false (fun x=>h1 x.1),Bool.false_and]
   simp -implicitDefEqProofs (disch:=omega) only[dcT,dcF,faFE0,faFE1,mldInt,E0.l0,e2,k3,k3',E3.l0,E3.l1,↓ret25,↓zAc,↓zAb,↓Option.bind_some,↓zAa,sxA]
   exact ⟨_,rfl,zAl i3⟩
theorem goodM_up {n:Int} {m:List (List Nat)} (gd:goodM n m=true) (i:Int) (to:Nat):goodM n (upM n m i to)=true:=by
 unfold upM
 split
 ·rename_i hc
  have hg:=(goodM_iff n m).1 gd
  refine (goodM_iff n _).2 ⟨⟨hg.1.1,hg.1.2.1,by rw[List.length_set];exact hg.1.2.2⟩,fun r hr=>?_⟩
  rcases List.mem_or_eq_of_mem_set hr with h | rfl
  ·exact hg.2 r h
  ·rw[up1_len];exact goodM_rows gd (by omega)
 ·exact gd
def takeG (n me:Int) (g:List Nat) (from':Int) (bs:List UInt8):List Nat:=if canFE n me g from' bs=true then (upV g from').1 else g
def takeM (n me:Int) (m:List (List Nat)) (g:List Nat) (from':Int) (to:Nat) (bs:List UInt8):List (List Nat):=if canFE n me g from' bs=true then joinM m (upM n ((readM n bs).getD []) from' to) else m
end Go.Am
namespace Go.Am
open Go.Proofs
set_option maxRecDepth 100000
set_option linter.all false
attribute [local congr] zAf zAq zAr zAs zAj zAg
def updN {α:Type} (f:Nat->α) (i:Nat) (v:α):Nat->α:=fun j=>if j=i then v else f j
theorem updN_self {α:Type} (f:Nat->α) (i:Nat) (v:α):updN f i v i=v:=if_pos rfl
theorem updN_ne {α:Type} (f:Nat->α) {i j:Nat} (v:α) (h:j≠i):updN f i v j=f j:=if_neg h
structure LGrp (h:Heap) (n base:Nat) (ps:List (Nat × Nat)) (E:Nat->List E3) (S:Nat->List Nat) (num:Nat->Nat):Prop where
 eng:∀i (hi:i<ps.length),LEn h ps[i].1 ps[i].2 n (i:Nat) (num i) (E i) (S i)
 low:∀i (hi:i<ps.length),base<=ps[i].1/\base<=ps[i].2/\ps[i].1≠ps[i].2
 sep:ps.Pairwise fun a b=>a.1≠b.1/\a.2≠b.2
theorem LGrp.same {h h':Heap} {n base:Nat} {ps:List (Nat × Nat)} {E:Nat->List E3} {S:Nat->List Nat} {num:Nat->Nat} (G:LGrp h n base ps E S num) (e:Same h h'):LGrp h' n base ps E S num:=
 ⟨fun i hi=>(G.eng i hi).same e,G.low,G.sep⟩
theorem LGrp.kp {h h':Heap} {n base:Nat} {ps:List (Nat × Nat)} {E:Nat->List E3} {S:Nat->List Nat} {num:Nat->Nat} (G:LGrp h n base ps E S num) (e:KpB h h'):LGrp h' n base ps E S num:=
 ⟨fun i hi=>(G.eng i hi).kp e,G.low,G.sep⟩
theorem LGrp.ne {h:Heap} {n base:Nat} {ps:List (Nat × Nat)} {E:Nat->List E3} {S:Nat->List Nat} {num:Nat->Nat} (G:LGrp h n base ps E S num) {i j:Nat} (hi:i<ps.length) (hj:j<ps.length) (h:j≠i):ps[j].1≠ps[i].1/\ps[j].2≠ps[i].2:=by
 rcases Nat.lt_or_gt_of_ne h with h | h
 ·exact List.pairwise_iff_getElem.1 G.sep j i hj hi h
 ·have:=List.pairwise_iff_getElem.1 G.sep i j hi hj h
  exact ⟨Ne.symm this.1,Ne.symm this.2⟩
theorem LGrp.turn {T:Nat->Prop} {h h':Heap} {n base:Nat} {ps:List (Nat × Nat)} {E:Nat->List E3} {S:Nat->List Nat} {num:Nat->Nat} (G:LGrp h n base ps E S num) {i:Nat} (hi:i<ps.length) (m:HMod T h h') (hT:∀b,T b->b=ps[i].1\/b=ps[i].2)
  {num':Nat} {es':List E3} {ns':List Nat} (l:LEn h' ps[i].1 ps[i].2 n (i:Nat) num' es' ns'):LGrp h' n base ps (updN E i es') (updN S i ns') (updN num i num'):=by
 refine ⟨fun j hj=>?_,G.low,G.sep⟩
 by_cases e:j=i
 ·subst e
  rw[updN_self,updN_self,updN_self]
  exact l
 ·rw[updN_ne _ _ e,updN_ne _ _ e,updN_ne _ _ e]
  obtain ⟨h1,h2⟩:=G.ne hi hj e
  exact LEn.others (G.eng i hi) m hT (G.eng j hj) h1 h2
theorem LGrp.add {h h':Heap} {n base:Nat} {ps:List (Nat × Nat)} {E:Nat->List E3} {S:Nat->List Nat} {num:Nat->Nat} (G:LGrp h n base ps E S num) (e:Same h h') (hb:base<=h.blks.length) (l:LEn h' (h.blks.length+1) h.blks.length n (ps.length:Nat) (num ps.length) (E ps.length) (S ps.length)):LGrp h' n base (ps++[(h.blks.length+1,h.blks.length)]) E S num:=by
 refine ⟨fun j hj=>?_,fun j hj=>?_,?_⟩
 ·rcases Nat.lt_or_ge j ps.length with hl | hl
  ·simp only[List.getElem_append_left hl]
   exact (G.eng j hl).same e
  ·have:j=ps.length:=by simp at hj;omega
   subst this
   simp only[List.getElem_append_right (Nat.le_refl _),Nat.sub_self,List.getElem_cons_zero]
   exact l
 ·rcases Nat.lt_or_ge j ps.length with hl | hl
  ·simp only[List.getElem_append_left hl]
   exact G.low j hl
  ·have:j=ps.length:=by simp at hj;omega
   subst this
   simp only[List.getElem_append_right (Nat.le_refl _),Nat.sub_self,List.getElem_cons_zero]
   omega
 ·refine List.pairwise_append.2 ⟨G.sep,List.pairwise_singleton _ _,fun a ha b hb'=>?_⟩
  rw[List.mem_singleton] at hb'
  subst hb'
  obtain ⟨i,hi,rfl⟩:=List.getElem_of_mem ha
  obtain ⟨_,_,ce,_⟩:=(G.eng i hi).eng
  have h1:=ce.lt
  have h2:=(G.eng i hi).seen.lt
  constructor
  ·show ps[i].1≠h.blks.length+1;omega
  ·show ps[i].2≠h.blks.length;omega
def KpT (t:TypeId) (h h':Heap):Prop:=h.blks.length<=h'.blks.length/\∀(q:Nat) (all:List Value) (ty:TypeId),h.blks[q]?=some ⟨.cells all,ty,true⟩->ty≠t->h'.blks[q]?=h.blks[q]?
theorem KpT.trans {t:TypeId} {a b c:Heap} (h:KpT t a b) (k:KpT t b c):KpT t a c:=
 ⟨Nat.le_trans h.1 k.1,fun q all ty hb ht=>by have e:=h.2 q all ty hb ht;exact (k.2 q all ty (e.trans hb) ht).trans e⟩
theorem Same.kpT {t:TypeId} {h h':Heap} (e:Same h h'):KpT t h h':=⟨e.1,fun q all ty hb _=>e.2 q (List.getElem?_eq_some_iff.1 hb).1⟩
theorem Cells.kpT {t:TypeId} {h h':Heap} {p:Nat} {ty:TypeId} {cs:List Value} (c:Cells h p ty cs) (k:KpT t h h') (ht:ty≠t):Cells h' p ty cs:=(k.2 p cs ty c ht).trans c
theorem Acc.kpT {t:TypeId} {n0:Nat} {h h':Heap} {elem:TypeId} {es n:Nat} {v:Value} {cs:List Value} (a:Acc n0 h elem es v n cs) (k:KpT t h h') (ht:elem≠t):Acc n0 h' elem es v n cs:=
 a.keep fun b _ hb=>by obtain ⟨all,hk⟩:=a.blk hb;exact k.2 b all elem hk ht
theorem LEn.kpT {t:TypeId} {h h':Heap} {p s:Nat} {n me:Int} {num:Nat} {es:List E3} {ns:List Nat} (l:LEn h p s n me num es ns) (k:KpT t h h') (h1:90≠t) (h2:30≠t) (h3:99≠t):LEn h' p s n me num es ns:=
 let ⟨la,lc,a,b⟩:=l.eng
 ⟨⟨la,lc,a.kpT k h1,b.kpT k h3⟩,l.seen.kpT k h2,l.len⟩
theorem LGrp.kpT {t:TypeId} {h h':Heap} {n base:Nat} {ps:List (Nat × Nat)} {E:Nat->List E3} {S:Nat->List Nat} {num:Nat->Nat} (G:LGrp h n base ps E S num) (k:KpT t h h') (h1:90≠t) (h2:30≠t) (h3:99≠t):LGrp h' n base ps E S num:=
 ⟨fun i hi=>(G.eng i hi).kpT k h1 h2 h3,G.low,G.sep⟩
theorem etP:ElemT Tryz.prog 55 24 1 8 (.pointer none):=⟨by kernel_rfl,by kernel_rfl,by kernel_rfl,by kernel_rfl,by omega,rfl,rfl⟩
def ptrW (p:Nat × Nat):Value:=.pointer (some ⟨p.1,0,none⟩)
theorem mkP1 (p:Nat) (h:Heap):zAi Tryz.prog 55 1 #[(0,.pointer (some ⟨p,0,none⟩))] h=some (.slice (some ⟨h.blks.length,0,none⟩) 1 1,h.new (.cells [.pointer (some ⟨p,0,none⟩)]) 24):=by kernel_rfl
theorem app_ptr {n0:Nat} {h:Heap} (hn0:n0<=h.blks.length) {v:Value} {ps:List (Nat × Nat)} (ha:Acc n0 h 24 1 v ps.length (ps.map ptrW)) (b:Nat × Nat) (hl:ps.length<2^39) :
  ∃a c h',zBh Tryz.prog 55 (some 55) v (.slice (some ⟨h.blks.length,0,none⟩) 1 1) (h.new (.cells [.pointer (some ⟨b.1,0,none⟩)]) 24)=some (.slice a (ps++[b]).length c,h')/\Acc n0 h' 24 1 (.slice a (ps++[b]).length c) (ps++[b]).length ((ps++[b]).map ptrW)/\Keeps n0 h h'/\KpT 24 h h':=by
 have ha':Acc n0 (h.new (.cells [.pointer (some ⟨b.1,0,none⟩)]) 24) 24 1 v ps.length (ps.map ptrW):=ha.keep fun _ hb _=>Heap.new_old hb
 have hlit:Sl Tryz.prog (h.new (.cells [.pointer (some ⟨b.1,0,none⟩)]) 24) 1 (.slice (some ⟨h.blks.length,0,none⟩) 1 1) 1 [ptrW b]:=
  .mk (by simp[Heap.loadN,Heap.cells?,zBn,ptrW]) (.inr ⟨Nat.le_refl _,by unfold UNK;omega⟩)
 obtain ⟨v',h',e1,e2,e3,e4,e5⟩:=append_acc etP (t1:=some 55) (n0:=n0) (by simp[Heap.new];omega) ha' (newsV_row etP.under hlit.row) (by simp) (by omega) (by omega) rfl
 obtain ⟨a,c,rfl⟩:=e2.shape
 have el:ps.length+1=(ps++[b]).length:=by simp
 rw[el] at e1 e2
 rw[show ps.map ptrW++[ptrW b]=(ps++[b]).map ptrW by simp] at e2
 refine ⟨a,c,h',e1,e2,(Keeps.new hn0 _ _).trans e3,?_,fun q all ty hq ht=>?_⟩
 ·have:=e3.len;simp[Heap.new] at this;omega
 ·have hlt:=(List.getElem?_eq_some_iff.1 hq).1
  refine (e4 q (by simp[Heap.new];omega) fun e=>?_).trans (Heap.new_old hlt)
  obtain ⟨all',hk⟩:=Acc.blk ha e
  rw[hk] at hq
  cases hq
  exact ht rfl
theorem etPF:ElemT Tryz.prog 56 57 1 8 (.pointer none):=⟨by kernel_rfl,by kernel_rfl,by kernel_rfl,by kernel_rfl,by omega,rfl,rfl⟩
def ptrF (p:Nat):Value:=.pointer (some ⟨p,0,none⟩)
theorem mkP1F (p:Nat) (h:Heap):zAi Tryz.prog 56 1 #[(0,.pointer (some ⟨p,0,none⟩))] h=some (.slice (some ⟨h.blks.length,0,none⟩) 1 1,h.new (.cells [.pointer (some ⟨p,0,none⟩)]) 57):=by kernel_rfl
theorem app_ptrF {n0:Nat} {h:Heap} (hn0:n0<=h.blks.length) {v:Value} {ps:List Nat} (ha:Acc n0 h 57 1 v ps.length (ps.map ptrF)) (b:Nat) (hl:ps.length<2^39) :
  ∃a c h',zBh Tryz.prog 56 (some 56) v (.slice (some ⟨h.blks.length,0,none⟩) 1 1) (h.new (.cells [.pointer (some ⟨b,0,none⟩)]) 57)=some (.slice a (ps++[b]).length c,h')/\Acc n0 h' 57 1 (.slice a (ps++[b]).length c) (ps++[b]).length ((ps++[b]).map ptrF)/\Keeps n0 h h'/\KpT 57 h h':=by
 have ha':Acc n0 (h.new (.cells [.pointer (some ⟨b,0,none⟩)]) 57) 57 1 v ps.length (ps.map ptrF):=ha.keep fun _ hb _=>Heap.new_old hb
 have hlit:Sl Tryz.prog (h.new (.cells [.pointer (some ⟨b,0,none⟩)]) 57) 1 (.slice (some ⟨h.blks.length,0,none⟩) 1 1) 1 [ptrF b]:=
  .mk (by simp[Heap.loadN,Heap.cells?,zBn,ptrF]) (.inr ⟨Nat.le_refl _,by unfold UNK;omega⟩)
 obtain ⟨v',h',e1,e2,e3,e4,e5⟩:=append_acc etPF (t1:=some 56) (n0:=n0) (by simp[Heap.new];omega) ha' (newsV_row etPF.under hlit.row) (by simp) (by omega) (by omega) rfl
 obtain ⟨a,c,rfl⟩:=e2.shape
 have el:ps.length+1=(ps++[b]).length:=by simp
 rw[el] at e1 e2
 rw[show ps.map ptrF++[ptrF b]=(ps++[b]).map ptrF by simp] at e2
 refine ⟨a,c,h',e1,e2,(Keeps.new hn0 _ _).trans e3,?_,fun q all ty hq ht=>?_⟩
 ·have:=e3.len;simp[Heap.new] at this;omega
 ·have hlt:=(List.getElem?_eq_some_iff.1 hq).1
  refine (e4 q (by simp[Heap.new];omega) fun e=>?_).trans (Heap.new_old hlt)
  obtain ⟨all',hk⟩:=Acc.blk ha e
  rw[hk] at hq
  cases hq
  exact ht rfl
theorem Acc.tail {P:Program} {t elem:TypeId} {es:Nat} (hu:P.underlying t=some (.slice elem)) (hs:sizeT P elem=some es) {n0:Nat} {h:Heap} {v:Value} {n:Nat} {cs:List Value} (a:Acc n0 h elem es v (n+1) cs) :
  ∃w,sliceV P t v (some (.int .i64 1)) none none h=some w/\Acc n0 h elem es w n (cs.drop es)/\zAn w=zAn v:=by
 have nat1:natOf? (.int .i64 1)=some 1:=zBq .i64 1
 have mul:(n+1)*es=es+n*es:=by rw[Nat.add_mul,Nat.one_mul,Nat.add_comm]
 cases a with
 | full h1 h2 h3 h4 h5=>
  rename_i b o all
  have hU:n+1<UNK:=by unfold UNK;omega
  refine ⟨.slice (some (if n+1=1 then ⟨b,o,none⟩ else ⟨b,o+1*es,none⟩)) n n,?_,?_,?_⟩
  ·unfold sliceV
   simp only[hu,hs,Option.elim,nat1,Option.isSome,Bool.false_eq_true,if_false]
   rw[if_neg (by omega),if_pos ⟨by omega,by omega,hU⟩]
   simp
  ·by_cases e:n+1=1
   ·rw[if_pos e]
    obtain rfl:n=0:=by omega
    refine .full h1 (by omega) h3 (by omega) ?_
    rw[<-h5,mul,Nat.zero_mul,Nat.add_zero,List.take_zero]
    rw[List.drop_take,Nat.sub_self,List.take_zero]
   ·rw[if_neg e,Nat.one_mul]
    refine .full h1 (by omega) h3 (by omega) ?_
    rw[<-h5,mul,List.drop_take,Nat.add_sub_cancel_left,List.drop_drop]
  ·split<;>rfl
 | unk h1 h3 h4 h5=>
  rename_i b o all
  refine ⟨.slice (some ⟨b,o+1*es,none⟩) n UNK,?_,?_,rfl⟩
  ·unfold sliceV
   simp only[hu,hs,Option.elim,nat1,Option.isSome,Bool.false_eq_true,if_false]
   have he:esOf P h b=some es:=by unfold esOf;rw[h3];exact hs
   rw[if_pos trivial,if_pos ⟨by omega,by omega,he⟩]
   simp
  ·rw[Nat.one_mul]
   refine .unk h1 h3 (by omega) ?_
   rw[<-h5,mul,List.drop_take,Nat.add_sub_cancel_left,List.drop_drop]
theorem All2.snocW {α β:Type} {R:α->β->Prop} {l:List α} {m:List β} (h:All2 R l m) {a:α} {b:β} (k:R a b):All2 R (l++[a]) (m++[b]):=by
 induction h with
 | nil=>exact .cons k .nil
 | cons h _ ih=>exact .cons h ih
structure Wd where
 frm:Nat
 plc:Nat
 num:Nat
 to:Nat
 lb:List UInt8
 fb:List UInt8
def wdC (w:Wd) (lv:Value × Value):List Value:=[.int .i64 w.frm,.int .i64 w.plc,.int .u64 w.num,.int .u64 w.to,lv.1,lv.2]
structure WayV (n0:Nat) (h:Heap) (v:Value) (lvs:List (Value × Value)) (ws:List Wd):Prop where
 row:Acc n0 h 80 6 v ws.length (List.zipWith wdC ws lvs).flatten
 bts:All2 (fun lv w=>AB n0 h lv.1 w.lb/\AB n0 h lv.2 w.fb) lvs ws
theorem WayV.kp {n0:Nat} {h h':Heap} {v:Value} {lvs:List (Value × Value)} {ws:List Wd} (W:WayV n0 h v lvs ws) (k:∀(b:Nat) (all:List Value) (ty:TypeId),h.blks[b]?=some ⟨.cells all,ty,true⟩->ty=80\/ty=5->h'.blks[b]?=h.blks[b]?):WayV n0 h' v lvs ws:=
 ⟨W.row.keep fun b _ hb=>by obtain ⟨all,hk⟩:=W.row.blk hb;exact k b all _ hk (.inl rfl),W.bts.mono fun lv w a=>⟨Acc.keep a.1 fun b _ hb=>by obtain ⟨all,hk⟩:=Acc.blk a.1 hb;exact k b all _ hk (.inr rfl),Acc.keep a.2 fun b _ hb=>by obtain ⟨all,hk⟩:=Acc.blk a.2 hb;exact k b all _ hk (.inr rfl)⟩⟩
theorem WayV.same {n0:Nat} {h h':Heap} {v:Value} {lvs:List (Value × Value)} {ws:List Wd} (W:WayV n0 h v lvs ws) (e:Same h h'):WayV n0 h' v lvs ws:=W.kp fun b _ _ hb _=>e.2 b (List.getElem?_eq_some_iff.1 hb).1
theorem WayV.kpT {t:TypeId} {n0:Nat} {h h':Heap} {v:Value} {lvs:List (Value × Value)} {ws:List Wd} (W:WayV n0 h v lvs ws) (k:KpT t h h') (h1:80≠t) (h2:5≠t):WayV n0 h' v lvs ws:=W.kp fun b all ty hb ht=>k.2 b all ty hb (by rcases ht with rfl | rfl;exact h1;exact h2)
theorem WayV.nil (n0:Nat) (h:Heap):WayV n0 h (.slice none 0 0) [] []:=⟨.nil,.nil⟩
theorem etWd:ElemT Tryz.prog 70 80 6 80 (.agg #[.int .i64 0,.int .i64 0,.int .u64 0,.int .u64 0,.slice none 0 0,.slice none 0 0]):=⟨by kernel_rfl,by kernel_rfl,by kernel_rfl,by kernel_rfl,by omega,rfl,by simp[zBg,ground0]⟩
theorem AB.shapeW {n0:Nat} {h:Heap} {lv:Value} {bs:List UInt8} (a:AB n0 h lv bs):∃x c,lv=.slice x bs.length c:=Acc.shape a
theorem WayV.app {n0:Nat} {h:Heap} (hn0:n0<=h.blks.length) {v:Value} {lvs:List (Value × Value)} {ws:List Wd} (W:WayV n0 h v lvs ws) (w:Wd) {lv:Value × Value} (hb:AB n0 h lv.1 w.lb/\AB n0 h lv.2 w.fb) (hl:ws.length<2^30) :
  ∃v' h',zBh Tryz.prog 70 (some 70) v (.slice (some ⟨h.blks.length,0,none⟩) 1 1) (h.new (.cells (wdC w lv)) 80)=some (v',h')/\WayV n0 h' v' (lvs++[lv]) (ws++[w])/\Keeps n0 h h'/\KpT 80 h h' ∧
   (∀q,q<h.blks.length->zAn v≠some q->h'.blks[q]?=h.blks[q]?)/\(zAn v'=zAn v\/∃q,zAn v'=some q/\h.blks.length<=q):=by
 have ha':Acc n0 (h.new (.cells (wdC w lv)) 80) 80 6 v ws.length (List.zipWith wdC ws lvs).flatten:=W.row.keep fun _ hb _=>Heap.new_old hb
 have hlit:Sl Tryz.prog (h.new (.cells (wdC w lv)) 80) 6 (.slice (some ⟨h.blks.length,0,none⟩) 1 1) 1 (wdC w lv):=
  .mk (by simp[Heap.loadN,Heap.cells?,zBn,wdC]) (.inr ⟨Nat.le_refl _,by unfold UNK;omega⟩)
 have one:(wdC w lv).all Value.oneCell'=true:=by
  obtain ⟨x,c,e1⟩:=AB.shapeW hb.1
  obtain ⟨y,d,e2⟩:=AB.shapeW hb.2
  unfold wdC
  rw[e1,e2]
  rfl
 obtain ⟨v',h',e1,e2,e3,e4,e5⟩:=append_acc etWd (t1:=some 70) (n0:=n0) (by simp[Heap.new];omega) ha' (newsV_row etWd.under hlit.row) (by simp[wdC]) (by omega) (by omega) one
 have hl2:ws.length=lvs.length:=(All2.length_eq W.bts).symm
 have k:KpT 80 h h':=by
  refine ⟨?_,fun q all ty hq ht=>?_⟩
  ·have:=e3.len;simp[Heap.new] at this;omega
  ·have hlt:=(List.getElem?_eq_some_iff.1 hq).1
   refine (e4 q (by simp[Heap.new];omega) fun e=>?_).trans (Heap.new_old hlt)
   obtain ⟨all',hk⟩:=Acc.blk W.row e
   rw[hk] at hq
   cases hq
   exact ht rfl
 refine ⟨v',h',e1,⟨?_,?_⟩,(Keeps.new hn0 _ _).trans e3,k,fun q hq hne=>(e4 q (by simp[Heap.new];omega) hne).trans (Heap.new_old hq),?_⟩
 ·rw[List.zipWith_append hl2,List.flatten_append,List.length_append]
  simpa using e2
 ·exact All2.snocW (W.bts.mono fun lv w a=>⟨Acc.kpT a.1 k (by decide),Acc.kpT a.2 k (by decide)⟩) ⟨Acc.kpT hb.1 k (by decide),Acc.kpT hb.2 k (by decide)⟩
 ·rcases e5 with ⟨e,_⟩ | ⟨e,_⟩
  ·exact .inl (by rw[e])
  ·exact .inr ⟨_,e,by simp[Heap.new]⟩
theorem WayV.first {n0:Nat} {h:Heap} {v:Value} {lvs:List (Value × Value)} {w:Wd} {ws:List Wd} (W:WayV n0 h v lvs (w::ws)) :
  ∃b o lv lvs',lvs=lv::lvs'/\zAh Tryz.prog 70 v (.int .i64 0)=some (.pointer (some ⟨b,o,none⟩))/\h.loadN b o 6=some (wdC w lv)/\AB n0 h lv.1 w.lb/\AB n0 h lv.2 w.fb:=by
 obtain ⟨rw0,bt⟩:=W
 cases bt with
 | cons hb hr=>
  rename_i lv lvs'
  have hu:Tryz.prog.underlying 70=some (.slice 80):=by kernel_rfl
  have hs:sizeT Tryz.prog 80=some 6:=by kernel_rfl
  have r:=rw0.row
  rw[List.zipWith_cons_cons,List.flatten_cons] at r
  generalize hn:(w::ws).length=n at r
  generalize hcs:wdC w lv++(List.zipWith wdC ws lvs').flatten=cs at r
  cases r with
  | nil=>simp at hn
  | mk hld=>
   rename_i b o cp
   have n1:1<=n:=by rw[<-hn];simp
   have z:zAh Tryz.prog 70 (.slice (some ⟨b,o,none⟩) n cp) (.int .i64 ((0:Nat):Int))=some (.pointer (some ⟨b,o+0*6,none⟩)):=by
    unfold zAh
    simp only[hu,zBq,hs]
    rw[if_pos (by omega)]
   refine ⟨b,o,lv,lvs',rfl,by simpa using z,?_,hb.1,hb.2⟩
   have:=loadN_sub (i:=0) (m:=6) hld (by omega)
   rw[Nat.add_zero] at this
   rw[this,<-hcs];rfl
theorem WayV.tail {n0:Nat} {h:Heap} {v:Value} {lv:Value × Value} {lvs:List (Value × Value)} {w:Wd} {ws:List Wd} (W:WayV n0 h v (lv::lvs) (w::ws)):∃v',sliceV Tryz.prog 70 v (some (.int .i64 1)) none none h=some v'/\WayV n0 h v' lvs ws/\zAn v'=zAn v:=by
 have r:=W.row
 rw[List.length_cons] at r
 obtain ⟨v',e1,e2,e3⟩:=Acc.tail (P:=Tryz.prog) (t:=70) (by kernel_rfl) (by kernel_rfl) r
 refine ⟨v',e1,⟨?_,?_⟩,e3⟩
 ·rw[List.zipWith_cons_cons,List.flatten_cons,show 6=(wdC w lv).length from rfl,List.drop_left] at e2
  exact e2
 ·cases W.bts with
  | cons _ h=>exact h
structure Ways (h:Heap) (base bw N:Nat) (wv:Nat->Value) (lv:Nat->List (Value × Value)) (W:Nat->List Wd):Prop where
 row:Cells h bw 70 ((List.range N).map wv)
 one:∀i,i<N->WayV base h (wv i) (lv i) (W i)
 sep:∀i j,i<N->j<N->i≠j->∀b,zAn (wv i)=some b->zAn (wv j)≠some b
 low:base<=bw
theorem Ways.same {h h':Heap} {base bw N:Nat} {wv:Nat->Value} {lv:Nat->List (Value × Value)} {W:Nat->List Wd} (G:Ways h base bw N wv lv W) (e:Same h h'):Ways h' base bw N wv lv W:=⟨G.row.same e,fun i hi=>(G.one i hi).same e,G.sep,G.low⟩
theorem Ways.kpT {t:TypeId} {h h':Heap} {base bw N:Nat} {wv:Nat->Value} {lv:Nat->List (Value × Value)} {W:Nat->List Wd} (G:Ways h base bw N wv lv W) (k:KpT t h h') (h0:70≠t) (h1:80≠t) (h2:5≠t):Ways h' base bw N wv lv W:=
 ⟨G.row.kpT k h0,fun i hi=>(G.one i hi).kpT k h1 h2,G.sep,G.low⟩
theorem map_updN {α:Type} (f:Nat->α) (v:α) (N i:Nat) (hi:i<N):(List.range N).map (updN f i v)=((List.range N).map f).take i++[v]++((List.range N).map f).drop (i+1):=by
 apply List.ext_getElem?
 intro j
 simp only[List.getElem?_map,List.getElem?_append,List.length_append,List.length_take,List.length_map,List.length_range,List.length_singleton,List.getElem?_take,List.getElem?_drop,List.getElem?_range]
 rw[Nat.min_eq_left (by omega)]
 rcases Nat.lt_trichotomy j i with h | h | h
 ·rw[if_pos (by omega),if_pos h,if_pos h]
  simp only[List.getElem?_range (show j<N by omega),Option.map_some,updN_ne f v (show j≠i by omega)]
 ·subst h
  rw[if_pos (by omega),if_neg (by omega),Nat.sub_self]
  simp only[List.getElem?_range hi,Option.map_some,updN_self,List.getElem?_cons_zero]
 ·rw[if_neg (by omega)]
  rw[show i+1+(j-(i+1))=j by omega]
  by_cases hj:j<N
  ·simp only[List.getElem?_range hj,Option.map_some,updN_ne f v (show j≠i by omega)]
  ·have:(List.range N)[j]?=none:=List.getElem?_eq_none (by simp;omega)
   rw[this];rfl
theorem stWd (p o:Nat) (a:Option Addr) (n c:Nat) (h:Heap):zBc Tryz.prog 70 (.pointer (some ⟨p,o,none⟩)) (.slice a n c) h=h.storeN p o [.slice a n c]:=by kernel_rfl
theorem ldWd (p o:Nat) (h:Heap):zAw Tryz.prog 70 (.pointer (some ⟨p,o,none⟩)) h=h.load1 p o:=by kernel_rfl
theorem Ways.at {h:Heap} {base bw N:Nat} {wv:Nat->Value} {lv:Nat->List (Value × Value)} {W:Nat->List Wd} (G:Ways h base bw N wv lv W) {i:Nat} (hi:i<N):h.load1 bw i=some (wv i):=by
 rw[G.row.load i,List.getElem?_map,List.getElem?_range hi];rfl
theorem Ways.turn {h h':Heap} {base bw N:Nat} {wv:Nat->Value} {lv:Nat->List (Value × Value)} {W:Nat->List Wd} (G:Ways h base bw N wv lv W) {i:Nat} (hi:i<N) (k:KpT 80 h h') (old:∀q,q<h.blks.length->zAn (wv i)≠some q->h'.blks[q]?=h.blks[q]?)
  {v':Value} {lv':List (Value × Value)} {ws':List Wd} (w:WayV base h' v' lv' ws') (hb:zAn v'=zAn (wv i)\/∃q,zAn v'=some q/\h.blks.length<=q) :
  ∃h'',h'.storeN bw i [v']=some h''/\Ways h'' base bw N (updN wv i v') (updN lv i lv') (updN W i ws')/\KpT 70 h' h''/\(∀n0,n0<=base->n0<=h'.blks.length->∀S,In n0 S h' h''):=by
 have c':=G.row.kpT k (by decide)
 have st:=zAp c' (o:=i) (vs:=[v']) (by simp;omega)
 have e:=map_updN wv v' N i hi
 rw[List.length_singleton] at st
 rw[<-e] at st
 have kk:KpT 70 h' (h'.put bw (.cells ((List.range N).map (updN wv i v')))):=by
  refine ⟨by rw[Heap.put_len];exact Nat.le_refl _,fun q all ty hq ht=>Heap.put_other (fun e=>?_) _⟩
  subst e
  exact ht (c'.ty hq).symm
 refine ⟨_,st,⟨c'.put _,fun j hj=>?_,fun a b ha hb' hne q hq=>?_,G.low⟩,kk,fun n0 h1 h2 S=>In.put h2 (.inl (Nat.le_trans h1 G.low)) _⟩
 ·by_cases ej:j=i
  ·subst ej
   rw[updN_self,updN_self,updN_self]
   exact w.kpT kk (by decide) (by decide)
  ·rw[updN_ne _ _ ej,updN_ne _ _ ej,updN_ne _ _ ej]
   have g:=G.one j hj
   refine (⟨g.row.keep fun b hbl hb=>old b hbl fun e=>G.sep j i hj hi ej b hb e,g.bts.mono fun l x a=>⟨Acc.kpT a.1 k (by decide),Acc.kpT a.2 k (by decide)⟩⟩:WayV base h' (wv j) (lv j) (W j)).kpT kk (by decide) (by decide)
 ·have blt:∀j,j<N->∀q,zAn (wv j)=some q->q<h.blks.length:=fun j hj q hq=>by
   obtain ⟨all,hk⟩:=(G.one j hj).row.blk hq
   exact (List.getElem?_eq_some_iff.1 hk).1
  by_cases ea:a=i
  ·subst ea
   rw[updN_self] at hq
   rw[updN_ne _ _ (Ne.symm hne)]
   rcases hb with hb | ⟨q',h1,h2⟩
   ·rw[hb] at hq;exact G.sep a b ha hb' hne q hq
   ·rw[h1] at hq;cases hq
    intro hc
    have:=blt b hb' _ hc
    omega
  ·rw[updN_ne _ _ ea] at hq
   by_cases eb:b=i
   ·subst eb
    rw[updN_self]
    rcases hb with hb | ⟨q',h1,h2⟩
    ·rw[hb];exact G.sep a b ha hb' hne q hq
    ·rw[h1]
     intro hc
     cases hc
     have:=blt a ha _ hq
     omega
   ·rw[updN_ne _ _ eb]
    exact G.sep a b ha hb' hne q hq
end Go.Am
namespace Go.Am
open Go.Proofs
set_option maxRecDepth 100000
set_option linter.all false
attribute [local congr] zAf zAq zAr zAs zAj zAg
theorem send_loopZ {L:Nat} {p:Nat} {n me:Int} {rv gv:Value} {m:List (List Nat)} {g:List Nat} (ok:EnOk n me m g) {h0:Heap} (hL:L<=h0.blks.length) (E0:EnC L h0 p n me rv gv m g) (t:Nat) (tt:t<128) {to:Nat} (hto:to<2^64):∀(mm i:Nat) (h:Heap) (v:Value),t=i+mm->EnC L h p n me rv gv m g->ABs h0.blks.length h v (List.replicate i (stampM n m))->In h0.blks.length (Just p) (nm h0) h->
  ∀(Ac Ad Ae Ag Ah Ai Aj Ak Al An Ao Ap Aq Ar As Au Av Aw Az Ba Bb Bc Bd Be Bf Bg Bh Bi Bj Bk Bl Bm Bn Bo Bp Bq Br Bs Bt Bu Bv Bw:Value),
  ∃v' h',loopK Tryz.prog (evC Tryz.prog) c21_1 ⟨#[.pointer (some ⟨p,0,none⟩),.int .u64 to,Ac,Ad,Ae,v,Ag,Ah,Ai,Aj,Ak,Al,An,Ao,Ap,Aq,Ar,As,Au,Av,Aw,.int .i64 t,.int .i64 i,Az,Ba,Bb,Bc,Bd,Be,Bf,Bg,Bh,Bi,Bj,Bk,Bl,Bm,Bn,Bo,Bp,Bq,Br,Bs,Bt,Bu,Bv,Bw],h⟩ (zAu 0 (seqK Tryz.prog (evC Tryz.prog) c21_2 (zBb Tryz.f21 Tryz.prog h0))) =
   some (v',h')/\HMod (Just p) h0 h'/\(∃rv',EnC L h' p n me rv' gv (upM n m me to) g/\AM 45 h0.blks.length h' rv' (upM n m me to))/\ABs h0.blks.length h' v' (List.replicate t (stampM n m)):=by
 intro mm
 induction mm with
 | zero=>
  intro i h v hi E A hin Ac Ad Ae Ag Ah Ai Aj Ak Al An Ao Ap Aq Ar As Au Av Aw Az Ba Bb Bc Bd Be Bf Bg Bh Bi Bj Bk Bl Bm Bn Bo Bp Bq Br Bs Bt Bu Bv Bw
  obtain rfl:t=i:=by omega
  rw[zBe evC_m,c21_1_eq]
  obtain ⟨uv,h2,e2,Ac,a2⟩:=spec_MUp E.am.smV (goodM_small ok.gd) ok.m64 me to hto (n:=n)
  obtain ⟨ua,uc,rfl⟩:=a2.shape
  have E2:=E.ext Ac
  have hl:=hin.len
  have hl':h0.blks.length<=h.blks.length:=hl
  have st:=zAp E2.c (o:=2) (vs:=[.int .i64 n,.slice ua (upM n m me to).length uc]) (by simp)
  rw[show List.take 2 [Value.int .i64 n,.int .i64 me,.int .i64 n,rv,gv]++[Value.int .i64 n,.slice ua (upM n m me to).length uc]++List.drop (2+[Value.int .i64 n,.slice ua (upM n m me to).length uc].length) [Value.int .i64 n,.int .i64 me,.int .i64 n,rv,gv]=[.int .i64 n,.int .i64 me,.int .i64 n,.slice ua (upM n m me to).length uc,gv] from rfl] at st
  simp -implicitDefEqProofs (disch:=omega) only[dcT,dcF,↓c21_2_eq,faFE2,E.ldm,faFE1,mldInt,E.l1,e2,stMo,st,↓ret21,↓zAc,↓zAb,↓Option.bind_some,↓zAa,sxA]
  have am3:=(a2.up (n1:=L) (by omega)).put E2.c (by decide) (by decide) (.cells [.int .i64 n,.int .i64 me,.int .i64 n,.slice ua (upM n m me to).length uc,gv])
  have au3:=E2.au.keep (h':=h2.put p (.cells [.int .i64 n,.int .i64 me,.int .i64 n,.slice ua (upM n m me to).length uc,gv])) fun b _ hv=>Heap.put_other (fun e=>by
   subst e
   obtain ⟨all,h1⟩:=E2.au.blk hv
   have c:=E2.c
   unfold Cells at c
   rw[c] at h1
   simp only[Option.some.injEq,Blk.mk.injEq] at h1
   exact absurd h1.2.1 (by decide)) _
  exact ⟨_,_,rfl,done_mod ((hin.trans (Ac.inn hl)).trans (In.put (by have:=Ac.len;simp only[nm_blks] at *;omega) (.inr (show Just p p from rfl)) _)),⟨_,EnC.same ⟨E2.c.put _,am3,au3⟩ ⟨Nat.le_refl _,fun _ _=>rfl⟩,((a2.up (n1:=h0.blks.length) (by omega)).put E2.c (by decide) (by decide) (.cells [.int .i64 n,.int .i64 me,.int .i64 n,.slice ua (upM n m me to).length uc,gv])).kp fun _ _ _ _ _ _=>rfl⟩,((A.same Ac.same).put E2.c (by decide) (by decide) _).same ⟨Nat.le_refl _,fun _ _=>rfl⟩⟩
 | succ mm ih=>
  intro i h v hi E A hin Ac Ad Ae Ag Ah Ai Aj Ak Al An Ao Ap Aq Ar As Au Av Aw Az Ba Bb Bc Bd Be Bf Bg Bh Bi Bj Bk Bl Bm Bn Bo Bp Bq Br Bs Bt Bu Bv Bw
  rw[zBe evC_m,c21_1_eq]
  have hl:=hin.len
  have hl':h0.blks.length<=h.blks.length:=hl
  obtain ⟨sa,sc,h2,e2,Ac,a2⟩:=spec_Stamp (n:=n) E.am.smV (by have:=(goodM_small ok.gd).1;omega) ok.m64
  obtain ⟨vs,A⟩:=A.same Ac.same
  have l2:=Ac.len
  obtain ⟨a3,c3,h3,e3,A3,k3,o3⟩:=A.app (by omega) (a2.up hl') (by simp;omega)
  rw[show List.replicate i (stampM n m)++[stampM n m]=List.replicate (i+1) (stampM n m) from List.replicate_succ'.symm] at e3 A3
  have E3:=(E.ext Ac).kpT (by decide) (by decide) (by decide) o3
  have hw:IntKind.wrap .i64 ((i:Int)+1)=((i+1:Nat):Int):=by rw[wrap_i64]<;>omega
  simp -implicitDefEqProofs (disch:=omega) only[dcT,dcF,faFE2,E.ldm,e2,mkBs1,e3,hw,↓zAc,↓zAb,↓Option.bind_some,↓zAa,sxA]
  exact ih (i+1) h3 _ (by omega) E3 A3 ((hin.trans (Ac.inn hl)).trans (k3.inn)) _ _ _ _ _ _ _ _ _ _ _ _ _ _ _ _ _ _ _ _ _ _ _ _ _ _ _ _ _ _ _ _ _ _ _ _ _ _ _ _ _ _
theorem spec_ESendZ {L:Nat} {h:Heap} {p:Nat} {n me:Int} {rv gv:Value} {m:List (List Nat)} {g:List Nat} (E:EnC L h p n me rv gv m g) (hL:L<=h.blks.length) (ok:EnOk n me m g) (to:Nat) (hto:to<2^64) :
  ∃v' h',evC Tryz.prog 21 #[.pointer (some ⟨p,0,none⟩),.int .u64 to] h=some (v',h')/\HMod (Just p) h h'/\(∃rv',EnC L h' p n me rv' gv (upM n m me (toE n me to)) g/\AM 45 h.blks.length h' rv' (upM n m me (toE n me to)))/\ABs h.blks.length h' v' (List.replicate (pop (toE n me to)) (stampM n m)):=by
 rw[call21,c21_0_eq]
 have E0:=E.same (h':=nm h) ⟨Nat.le_refl _,fun _ _=>rfl⟩
 have hg:=(goodM_iff n m).1 ok.gd
 have h0:=ok.me0
 have h1:=ok.men
 obtain ⟨nn,rfl⟩:∃k:Nat,n=k:=⟨n.toNat,by omega⟩
 obtain ⟨mk,rfl⟩:∃k:Nat,me=k:=⟨me.toNat,by omega⟩
 have e1:=fun h=>spec_All nn (by omega) h
 have am1:am (nm (nm h)) (nm h)=nm h:=rfl
 have e3:=mkI1Q .i64 mk (nm h)
 have si:=litI1 (nm h) mk
 have s3:=Same.new (nm h) (.cells [.int .i64 mk]) 3
 have i3:In h.blks.length (Just p) (nm h) _:=In.new (by simp) (.cells [.int .i64 mk]) 3
 generalize (nm h).new (.cells [.int .i64 mk]) 3=g3 at *
 have e4:=spec_Of si (by simp)
 have h2:2^mk<2^64:=Nat.pow_lt_pow_right (by omega) (by omega)
 rw[show ofL [(mk:Int)]=2^mk by
  show or1 0 mk=2^mk
  unfold or1
  rw[if_pos (by omega),Int.toNat_natCast,Nat.zero_or]] at e4
 have ha:allN nn<2^64:=by unfold allN;have:2^nn<2^64:=Nat.pow_lt_pow_right (by omega) (by omega);omega
 have e5:=fun t xo yo=>andNotN t xo yo (allN nn) (2^mk) ha h2
 have e6:=fun t xo yo=>andNu t xo yo to (allN nn &&& (2^64-1-2^mk)) hto (andLtU ha)
 rw[show to &&& (allN nn &&& (2^64-1-2^mk))=toE nn mk to by unfold toE;simp] at e6
 have ht:=toE_lt nn mk to hto
 have e7:=fun h=>spec_Count (toE nn mk to) ht h
 have main:=send_loopZ ok hL E (pop (toE nn mk to)) (pop_lt _) ht _ 0 g3 (.slice none 0 0) (Nat.zero_add _).symm (E0.same s3) ⟨[],.nil,.nil⟩ i3
 rw[show ((0:Nat):Int)=0 from rfl] at main
 simp -implicitDefEqProofs (disch:=omega) only[faFE0,mldInt,E0.l0,e1,am1,nmm,faFE1,E0.l1,e3,e4,e5,e6,e7,List.append_nil,↓zAc,↓zAb,↓Option.bind_some,↓zAa,sxA]
 exact main _ _ _ _ _ _ _ _ _ _ _ _ _ _ _ _ _ _ _ _ _ _ _ _ _ _ _ _ _ _ _ _ _ _ _ _ _ _ _ _ _ _
theorem spec_ETakeZ {L:Nat} {h:Heap} {p:Nat} {n me:Int} {rv gv:Value} {m:List (List Nat)} {g:List Nat} (E:EnC L h p n me rv gv m g) (hL:L<=h.blks.length) (ok:EnOk n me m g) (from':Int) (num to:Nat) (hto:to<2^64) {b:Value} {bs:List UInt8} (sb:SB h b bs) (hb:bs.length<2^38) (hC:canFE n me g from' bs=true) :
  ∃h',evC Tryz.prog 26 #[.pointer (some ⟨p,0,none⟩),.int .i64 from',.int .u64 num,.int .u64 to,b] h=some (.bool true,h')/\HMod (Just p) h h'/\∃rv' gv',EnC L h' p n me rv' gv' (takeM n me m g from' to bs) (takeG n me g from' bs)/\AM 45 h.blks.length h' rv' (takeM n me m g from' to bs)/\AU h.blks.length h' gv' (takeG n me g from' bs):=by
 rw[call26,c26_0_eq]
 have E0:=E.same (h':=nm h) ⟨Nat.le_refl _,fun _ _=>rfl⟩
 obtain ⟨h1,e1,Ab⟩:=spec_ECan ⟨_,_,E0⟩ ok from' num sb.nm hb
 have i1:In h.blks.length (Just p) (nm h) h1:=Ab.inn (Nat.le_refl _)
 unfold takeM takeG
 cases hcan:canFE n me g from' bs with
 | false=>rw[hcan] at hC;cases hC
 | true=>
  rw[hcan] at e1
  obtain ⟨r,hr,hfrom⟩:∃r,readM n bs=some r/\0<=from'/\from'<n:=by
   unfold canFE at hcan
   cases hr:readM n bs with
   | none=>rw[hr] at hcan;cases hcan
   | some r=>
    rw[hr] at hcan
    simp only[Bool.and_eq_true,decide_eq_true_eq] at hcan
    exact ⟨r,rfl,hcan.1.1,hcan.1.2.1⟩
  have hg:=readM_good hr
  rw[hr]
  rw[show (some r).getD []=r from rfl]
  have E1:=(E.same (h':=nm h) ⟨Nat.le_refl _,fun _ _=>rfl⟩).ext Ab
  have sb1:SB h1 b bs:=sb.nm.same Ab.same
  obtain ⟨wv,h2,e2,Ac,a2⟩:=spec_Read (n:=n) (b:=b) (bs:=bs) sb1 hb
  rw[hr] at e2 a2
  rw[show (some r:Option (List (List Nat))).isSome=true from rfl,show readV n (some r)=n from rfl] at e2
  rw[show (some r).getD []=r from rfl] at a2
  have i2:=i1.trans (Ac.inn i1.len)
  obtain ⟨wa,wc,rfl⟩:=a2.shape
  have k3:=alM h2
  have k3':=mvar (h:=h2) n wa r.length wc
  have c3:=mvar_cells h2 [.int .i64 0,.slice none 0 0] [.int .i64 n,.slice wa r.length wc] 119
  have s3:=mvar_same h2 (.cells [.int .i64 0,.slice none 0 0]) (.cells [.int .i64 n,.slice wa r.length wc]) 119
  have i3:=i2.trans (show In h.blks.length (Just p) h2 _ from (In.new i2.len (.cells [.int .i64 0,.slice none 0 0]) 119).trans (In.put (Nat.le_trans i2.len (Same.new h2 (.cells [.int .i64 0,.slice none 0 0]) 119).1) (.inl i2.len) (.cells [.int .i64 n,.slice wa r.length wc])))
  have lm:p<h2.blks.length:=Nat.lt_of_lt_of_le E1.lt Ac.len
  have hne3:h2.blks.length≠p:=by omega
  have pL:h.blks.length<=h2.blks.length:=i2.len
  generalize hq:h2.blks.length=q3 at *
  generalize (h2.new (.cells [.int .i64 0,.slice none 0 0]) 119).put q3 (.cells [.int .i64 n,.slice wa r.length wc])=h3 at *
  have E3:=(E1.ext Ac).same s3
  have a3:=a2.same s3
  obtain ⟨ua,uc,h4,e4,Ae,a4⟩:=spec_Up h3 gv g E3.au.su (by have:=ok.gl;have:=(goodM_iff n m).1 ok.gd;omega) ok.g64 from'
  have i4:=i3.trans (Ae.inn i3.len)
  have E4:=E3.ext Ae
  have c4:=c3.ext Ae
  have a34:=a3.same Ae.same
  have st5:=zAp E4.c (o:=4) (vs:=[.slice ua (upV g from').1.length uc]) (by simp)
  rw[show List.take 4 [Value.int .i64 n,.int .i64 me,.int .i64 n,rv,gv]++[Value.slice ua (upV g from').1.length uc]++List.drop (4+[Value.slice ua (upV g from').1.length uc].length) [Value.int .i64 n,.int .i64 me,.int .i64 n,rv,gv]=[.int .i64 n,.int .i64 me,.int .i64 n,rv,.slice ua (upV g from').1.length uc] from rfl] at st5
  have pu:∀ {h:Heap} {v:Value} {l:List Nat} {n0 p:Nat} {cs:List Value} (body:Body),Cells h p 123 cs->AU n0 h v l->AU n0 (h.put p body) v l:=fun {h v l n0 p cs} body c a=>a.keep fun b _ hv=>Heap.put_other (fun e=>by
   subst e
   obtain ⟨all,h1⟩:=a.blk hv
   unfold Cells at c
   rw[c] at h1
   simp only[Option.some.injEq,Blk.mk.injEq] at h1
   exact absurd h1.2.1 (by decide)) _
  have l3L:L<=h3.blks.length:=Nat.le_trans hL i3.len
  have am5:=E4.am.put E4.c (by decide) (by decide) (.cells [.int .i64 n,.int .i64 me,.int .i64 n,rv,.slice ua (upV g from').1.length uc])
  have au5:=pu (.cells [.int .i64 n,.int .i64 me,.int .i64 n,rv,.slice ua (upV g from').1.length uc]) E4.c (a4.up (n1:=L) l3L)
  have au5':=pu (.cells [.int .i64 n,.int .i64 me,.int .i64 n,rv,.slice ua (upV g from').1.length uc]) E4.c (a4.up (n1:=h.blks.length) i3.len)
  have E5:EnC L (h4.put p (.cells [.int .i64 n,.int .i64 me,.int .i64 n,rv,.slice ua (upV g from').1.length uc])) p n me rv (.slice ua (upV g from').1.length uc) m (upV g from').1:=⟨E4.c.put _,am5,au5⟩
  have i5:In h.blks.length (Just p) h4 _:=In.put i4.len (.inr (show Just p p from rfl)) (.cells [.int .i64 n,.int .i64 me,.int .i64 n,rv,.slice ua (upV g from').1.length uc])
  have i5:=i4.trans i5
  have c5:=c4.keepPut (q:=p) (by omega) (.cells [.int .i64 n,.int .i64 me,.int .i64 n,rv,.slice ua (upV g from').1.length uc])
  have a5:=a34.put E4.c (by decide) (by decide) (.cells [.int .i64 n,.int .i64 me,.int .i64 n,rv,.slice ua (upV g from').1.length uc])
  generalize h4.put p (.cells [.int .i64 n,.int .i64 me,.int .i64 n,rv,.slice ua (upV g from').1.length uc])=h5 at *
  obtain ⟨jv,h6,e6,Ag,a6⟩:=spec_MUp (h:=nm h5) (n:=n) (a5.smV.nm) (goodM_small hg.1) hg.2 from' to hto
  obtain ⟨Ag',m6⟩:=Ag.amx
  have E6:=E5.ext Ag'
  have a6':AM 45 h5.blks.length (am h6 h5) jv (upM n r from' to):=a6.kp fun _ _ _ _ _ _=>rfl
  have gu:=goodM_up (n:=n) (m:=r) hg.1 from' to
  obtain ⟨ov,h7,e7,Ah,a7⟩:=spec_MJoin (n:=n) (n2:=n) E6.am.smV a6'.smV (goodM_small ok.gd) (goodM_small gu)
  rw[if_pos (okJ_of ok.gd gu),if_pos (okJ_of ok.gd gu)] at e7
  rw[if_pos (okJ_of ok.gd gu)] at a7
  obtain ⟨oa,oc,rfl⟩:=a7.shape
  have E7:=E6.ext Ah
  have i6:=i5.trans (Ag'.inn i5.len)
  have i7:=i6.trans (Ah.inn i6.len)
  have st8:=zAp E7.c (o:=2) (vs:=[.int .i64 n,.slice oa (joinM m (upM n r from' to)).length oc]) (by simp)
  rw[show List.take 2 [Value.int .i64 n,.int .i64 me,.int .i64 n,rv,.slice ua (upV g from').1.length uc]++[Value.int .i64 n,.slice oa (joinM m (upM n r from' to)).length oc]++List.drop (2+[Value.int .i64 n,.slice oa (joinM m (upM n r from' to)).length oc].length) [Value.int .i64 n,.int .i64 me,.int .i64 n,rv,.slice ua (upV g from').1.length uc]=[.int .i64 n,.int .i64 me,.int .i64 n,.slice oa (joinM m (upM n r from' to)).length oc,.slice ua (upV g from').1.length uc] from rfl] at st8
  have am8:=(a7.up (n1:=L) (Nat.le_trans hL i6.len)).put E7.c (by decide) (by decide) (.cells [.int .i64 n,.int .i64 me,.int .i64 n,.slice oa (joinM m (upM n r from' to)).length oc,.slice ua (upV g from').1.length uc])
  have am8':=(a7.up (n1:=h.blks.length) i6.len).put E7.c (by decide) (by decide) (.cells [.int .i64 n,.int .i64 me,.int .i64 n,.slice oa (joinM m (upM n r from' to)).length oc,.slice ua (upV g from').1.length uc])
  have au8':=pu (.cells [.int .i64 n,.int .i64 me,.int .i64 n,.slice oa (joinM m (upM n r from' to)).length oc,.slice ua (upV g from').1.length uc]) E7.c ((Acc.same au5' Ag'.same).same Ah.same)
  have au8:=pu (.cells [.int .i64 n,.int .i64 me,.int .i64 n,.slice oa (joinM m (upM n r from' to)).length oc,.slice ua (upV g from').1.length uc]) E7.c E7.au
  simp -implicitDefEqProofs (disch:=omega) only[dcT,dcF,e1,faFE0,mldInt,E1.l0,e2,k3,k3',faFE3,ldVv,E3.l4,e4,stVv,st5,faFE2,E5.ldm,ldM' c5,e6,e7,stMo,st8,m6,List.append_nil,↓ret26,↓zAc,↓zAb,↓Option.bind_some,↓zAa,sxA]
  exact ⟨_,rfl,done_mod (i7.trans (In.put i7.len (.inr (show Just p p from rfl)) _)),⟨_,_,EnC.same ⟨E7.c.put _,am8,au8⟩ ⟨Nat.le_refl _,fun _ _=>rfl⟩,am8'.kp fun _ _ _ _ _ _=>rfl,au8'.done⟩⟩
theorem spec_ETakeNoZ {L:Nat} {h:Heap} {p:Nat} {n me:Int} {rv gv:Value} {m:List (List Nat)} {g:List Nat} (E:EnC L h p n me rv gv m g) (ok:EnOk n me m g) (from':Int) (num to:Nat) {b:Value} {bs:List UInt8} (sb:SB h b bs) (hb:bs.length<2^38) (hC:canFE n me g from' bs=false) :
  ∃h',evC Tryz.prog 26 #[.pointer (some ⟨p,0,none⟩),.int .i64 from',.int .u64 num,.int .u64 to,b] h=some (.bool false,h')/\HExt h h':=by
 rw[call26,c26_0_eq]
 have E0:=E.same (h':=nm h) ⟨Nat.le_refl _,fun _ _=>rfl⟩
 obtain ⟨h1,e1,Ab⟩:=spec_ECan ⟨_,_,E0⟩ ok from' num sb.nm hb
 have i1:In h.blks.length No (nm h) h1:=Ab.inn (Nat.le_refl _)
 rw[hC] at e1
 refine ⟨_,?_,zAl i1⟩
 simp -implicitDefEqProofs (disch:=omega) only[e1,↓ret26,↓zAc,↓zAb,↓Option.bind_some,↓zAa,sxA]
end Go.Am
namespace Go.Am
theorem key_eq {x y:E3} (h1:¬ltE x y) (h2:¬ltE y x):x.f=y.f/\x.n=y.n:=by unfold ltE at *;omega
theorem bs_true {es:List E3} {t:E3} (h:bsF es t=true):∃z,es[bsK es t]?=some z/\z∈es/\z.f=t.f/\z.n=t.n:=by
 unfold bsF at h
 split at h
 ·rename_i z hz
  have:=(cmpE_eq _ _).1 (of_decide_eq_true h)
  exact ⟨z,hz,List.mem_of_getElem? hz,this.1,this.2⟩
 ·cases h
theorem bs_of:∀ {es:List E3} {t z:E3},Srt es->z∈es->z.f=t.f->z.n=t.n->es[bsK es t]?=some z/\bsF es t=true
 | [],t,z,_,hz,_,_=>by cases hz
 | e::es,t,z,hs,hz,hf,hn=>by
  obtain ⟨h1,h2⟩:=List.pairwise_cons.1 hs
  rcases List.mem_cons.1 hz with rfl | hz'
  ·have hc:¬cmpE z t<0:=fun h=>by have:=(cmpE_lt _ _).1 h;unfold ltE at this;omega
   have h0:bsK (z::es) t=0:=by simp[bsK,hc]
   have he:cmpE z t=0:=(cmpE_eq _ _).2 ⟨hf,hn⟩
   refine ⟨by rw[h0];rfl,?_⟩
   unfold bsF
   rw[h0]
   simp[he]
  ·have hlt:ltE e z:=h1 z hz'
   have hc:cmpE e t<0:=(cmpE_lt _ _).2 (by unfold ltE at *;omega)
   have hk:bsK (e::es) t=bsK es t+1:=by simp[bsK,hc]
   obtain ⟨g1,g2⟩:=bs_of h2 hz' hf hn
   refine ⟨by rw[hk];simpa using g1,?_⟩
   unfold bsF at g2 ⊢
   rw[hk]
   simpa using g2
theorem bs_iff {es:List E3} (hs:Srt es) (t:E3):bsF es t=true ↔ ∃z∈es,z.f=t.f/\z.n=t.n:=
 ⟨fun h=>let ⟨z,_,h1,h2,h3⟩:=bs_true h;⟨z,h1,h2,h3⟩,fun ⟨_,h1,h2,h3⟩=>(bs_of hs h1 h2 h3).2⟩
theorem mem_both {es fs:List E3} (hf:Srt fs) (x:E3):x∈bothE es fs ↔ ∃y∈es,∃z∈fs,z.f=y.f/\z.n=y.n/\x={ y with t:=y.t &&& z.t }:=by
 unfold bothE
 rw[List.mem_filterMap]
 constructor
 ·rintro ⟨y,hy,h⟩
  unfold bothF at h
  split at h
  ·rename_i hb
   obtain ⟨z,h1,h2,h3,h4⟩:=bs_true hb
   rw[List.getD_eq_getElem?_getD,h1] at h
   cases h
   exact ⟨y,hy,z,h2,h3,h4,rfl⟩
  ·cases h
 ·rintro ⟨y,hy,z,hz,h1,h2,rfl⟩
  obtain ⟨g1,g2⟩:=bs_of hf hz h1 h2
  refine ⟨y,hy,?_⟩
  unfold bothF
  rw[if_pos g2,List.getD_eq_getElem?_getD,g1]
  rfl
theorem mem_news {es fs:List E3} (hf:Srt fs) {x:E3} (h:x∈newsE es fs):x∈es/\¬∃z∈fs,z.f=x.f/\z.n=x.n:=by
 unfold newsE at h
 rw[List.mem_filter] at h
 obtain ⟨h1,h2⟩:=h
 simp only[Bool.and_eq_true,Bool.not_eq_true'] at h2
 exact ⟨h1,fun hz=>by rw[(bs_iff hf x).2 hz] at h2;cases h2.1⟩
theorem srt_both {es fs:List E3} (he:Srt es):Srt (bothE es fs):=by
 unfold bothE
 refine List.pairwise_filterMap.2 (he.imp fun {a b} hab x hx y hy=>?_)
 unfold bothF at hx hy
 split at hx
 ·split at hy
  ·cases hx;cases hy
   unfold ltE at *
   exact hab
  ·cases hy
 ·cases hx
theorem join_dist {es fs:List E3} (he:Srt es) (hf:Srt fs):(newsE es fs++newsE fs es++bothE es fs).Pairwise fun a b=>ltE a b\/ltE b a:=by
 have dif:∀ {a b:E3},¬(a.f=b.f/\a.n=b.n)->ltE a b\/ltE b a:=fun {a b} h=>by
  refine Classical.byContradiction fun hn=>h ?_
  exact key_eq (fun h1=>hn (.inl h1)) (fun h1=>hn (.inr h1))
 have n1:(newsE es fs).Pairwise fun a b=>ltE a b\/ltE b a:=(he.sublist List.filter_sublist).imp fun h=>.inl h
 have n2:(newsE fs es).Pairwise fun a b=>ltE a b\/ltE b a:=(hf.sublist List.filter_sublist).imp fun h=>.inl h
 have n3:(bothE es fs).Pairwise fun a b=>ltE a b\/ltE b a:=(srt_both he).imp fun h=>.inl h
 refine List.pairwise_append.2 ⟨List.pairwise_append.2 ⟨n1,n2,fun a ha b hb=>dif fun ⟨h1,h2⟩=>?_⟩,n3,fun a ha b hb=>dif fun ⟨h1,h2⟩=>?_⟩
 ·have g1:=mem_news hf ha
  have g2:=mem_news he hb
  exact g1.2 ⟨b,g2.1,h1.symm,h2.symm⟩
 ·obtain ⟨y,hy,z,hz,h3,h4,rfl⟩:=(mem_both hf b).1 hb
  simp only at h1 h2
  rcases List.mem_append.1 ha with h | h
  ·exact (mem_news hf h).2 ⟨z,hz,by omega,by omega⟩
  ·exact (mem_news he h).2 ⟨y,hy,by omega,by omega⟩
theorem srt_join {es fs:List E3} (hg:goodE es=true) (hg2:goodE fs=true):goodE (joinE es fs)=true:=by
 have h1:=(zBi es).1 hg
 have h2:=(zBi fs).1 hg2
 unfold joinE
 rw[if_pos ⟨hg,hg2⟩,zBi]
 refine ⟨fun e he=>?_,srtE_srt (join_dist h1.2 h2.2)⟩
 have:=(srtE_perm _).subset he
 rcases List.mem_append.1 this with h | h
 ·rcases List.mem_append.1 h with h | h
  ·exact h1.1 e (mem_news h2.2 h).1
  ·exact h2.1 e (mem_news h1.2 h).1
 ·obtain ⟨y,hy,z,hz,h3,h4,rfl⟩:=(mem_both h2.2 e).1 h
  have:=h1.1 y hy
  unfold mayE at this ⊢
  simp only[Bool.and_eq_true,decide_eq_true_eq] at this ⊢
  exact ⟨this.1,this.2.1,this.2.2.1,Nat.lt_of_le_of_lt Nat.and_le_left this.2.2.2⟩
end Go.Am
namespace Go.Am
set_option maxRecDepth 100000
set_option linter.all false
theorem purgeL_head:∀(e:E3) (l:List E3),∃x r,zBr (e::l)=x::r/\x.f=e.f
 | e,[]=>⟨e,[],rfl,rfl⟩
 | e,e'::l=>by
  rw[purgeL_two]
  split
  ·exact ⟨e,_,rfl,rfl⟩
  ·rename_i h
   obtain ⟨x,r,h1,h2⟩:=purgeL_head e' l
   exact ⟨x,r,h1,h2.trans (Classical.byContradiction fun hn=>h (.inr hn))⟩
theorem purgeL_next:∀(l:List E3) (i:Nat) (h:i+1<(zBr l).length),(zBr l)[i].t=0->(zBr l)[i+1].f≠(zBr l)[i].f
 | [],i,h=>by simp[zBr] at h
 | [e],i,h=>by simp[zBr] at h
 | e::e'::l,i,h=>by
  have key:∀(q:List E3),q=zBr (e::e'::l)->∀(h:i+1<q.length),q[i].t=0->q[i+1].f≠q[i].f:=by
   intro q hq h
   rw[purgeL_two] at hq
   split at hq
   ·rename_i hk
    subst hq
    cases i with
    | zero=>
     intro h0
     simp only[List.getElem_cons_zero,List.getElem_cons_succ] at h0 ⊢
     obtain ⟨x,r,h1,h2⟩:=purgeL_head e' l
     simp only[h1,List.getElem_cons_zero]
     rw[h2]
     exact hk.resolve_left fun hn=>hn h0
    | succ i=>
     intro h0
     simp only[List.getElem_cons_succ] at h0 ⊢
     exact purgeL_next (e'::l) i (by simpa using h) h0
   ·subst hq
    exact purgeL_next (e'::l) i h
  exact key _ rfl h
theorem purgeL_sub:∀l:List E3,(zBr l).Sublist l
 | []=>.slnil
 | [e]=>List.Sublist.refl _
 | e::e'::l=>by
  rw[purgeL_two]
  split
  ·exact (purgeL_sub (e'::l)).cons_cons e
  ·exact (purgeL_sub (e'::l)).cons e
theorem good_purge {es:List E3} (h:goodE es=true):goodE (zBr es)=true:=by
 rw[zBi] at h ⊢
 exact ⟨fun e he=>h.1 e ((purgeL_sub es).subset he),h.2.sublist (purgeL_sub es)⟩

theorem may_less {e:E3} (to:Nat) (h:mayE e=true):mayE (lessF to e)=true:=by
 unfold mayE lessF at *
 simp only[Bool.and_eq_true,decide_eq_true_eq] at h ⊢
 have:outB e.t to<=e.t:=Nat.and_le_left
 exact ⟨h.1,h.2.1,h.2.2.1,by omega⟩
theorem good_less {es:List E3} (to:Nat) (h:goodE es=true):goodE (lessE es to)=true:=by
 unfold lessE
 rw[if_pos h]
 rw[zBi] at h ⊢
 refine ⟨fun e he=>?_,?_⟩
 ·obtain ⟨x,hx,rfl⟩:=List.mem_map.1 he
  exact may_less to (h.1 x hx)
 ·exact List.pairwise_map.2 (h.2.imp fun k=>k)
theorem bsK_lo {es:List E3} {x:E3} (i:Nat) (hi:i<bsK es x) (hl:i<es.length):ltE es[i] x:=by
 have key:∀(l:List E3) (i:Nat) (hi:i<(l.takeWhile fun e=>decide (cmpE e x<0)).length) (hl:i<l.length),ltE l[i] x:=by
  intro l
  induction l with
  | nil=>intro i hi hl;simp at hl
  | cons e l ih=>
   intro i hi hl
   rw[List.takeWhile_cons] at hi
   split at hi
   ·rename_i h
    cases i with
    | zero=>exact (cmpE_lt e x).1 (of_decide_eq_true h)
    | succ i=>exact ih i (by simpa using hi) (by simpa using hl)
   ·simp at hi
 exact key es i hi hl
theorem bsK_ge {es:List E3} {x:E3} (hl:bsK es x<es.length):¬ltE es[bsK es x] x:=by
 have key:∀(l:List E3) (hl:(l.takeWhile fun e=>decide (cmpE e x<0)).length<l.length),¬ltE l[(l.takeWhile fun e=>decide (cmpE e x<0)).length] x:=by
  intro l
  induction l with
  | nil=>intro hl;simp at hl
  | cons e l ih=>
   intro hl
   by_cases h:cmpE e x<0
   ·have e1:(List.takeWhile (fun e=>decide (cmpE e x<0)) (e::l))=e::l.takeWhile fun e=>decide (cmpE e x<0):=by rw[List.takeWhile_cons,if_pos (decide_eq_true h)]
    simp only[e1,List.length_cons] at hl ⊢
    exact ih (by omega)
   ·have e1:(List.takeWhile (fun e=>decide (cmpE e x<0)) (e::l))=[]:=by rw[List.takeWhile_cons,if_neg (by rw[decide_eq_false h];decide)]
    simp only[e1,List.length_nil,List.getElem_cons_zero]
    exact fun k=>h ((cmpE_lt e x).2 k)
 exact key es hl
theorem good_add {es:List E3} {x:E3} (h:goodE es=true) (hm:mayE x=true):goodE (addE es x)=true:=by
 unfold addE
 rw[if_pos ⟨h,hm⟩]
 have hh:=(zBi es).1 h
 split
 ·rename_i hb
  have hlt:=bsF_lt hb
  have hz:cmpE es[bsK es x] x=0:=by
   unfold bsF at hb
   rw[List.getElem?_eq_getElem hlt] at hb
   exact of_decide_eq_true hb
  have hfn:es[bsK es x].f=x.f/\es[bsK es x].n=x.n:=by
   have h1:¬ltE es[bsK es x] x:=fun k=>by have:=(cmpE_lt _ _).2 k;omega
   refine key_eq h1 fun k=>?_
   unfold ltE at k
   unfold cmpE at hz
   split at hz
   ·omega
   ·split at hz
    ·omega
    ·split at hz
     ·omega
     ·split at hz
      ·omega
      ·omega
  rw[zBi]
  refine ⟨fun e he=>?_,?_⟩
  ·rcases List.mem_or_eq_of_mem_set he with he | rfl
   ·exact hh.1 e he
   ·exact hm
  ·refine List.pairwise_iff_getElem.2 fun i j hi hj hij=>?_
   have hi':i<es.length:=by simpa using hi
   have hj':j<es.length:=by simpa using hj
   have base:=List.pairwise_iff_getElem.1 hh.2 i j hi' hj' hij
   rw[List.getElem_set,List.getElem_set]
   split
   ·rename_i e1
    subst e1
    rw[if_neg (by omega)]
    unfold ltE at base ⊢
    rw[<-hfn.1,<-hfn.2]
    exact base
   ·split
    ·rename_i e2
     subst e2
     unfold ltE at base ⊢
     rw[<-hfn.1,<-hfn.2]
     exact base
    ·exact base
 ·rename_i hb
  rw[zBi]
  unfold insE
  refine ⟨fun e he=>?_,?_⟩
  ·rcases List.mem_append.1 he with he | he
   ·exact hh.1 e (List.mem_of_mem_take he)
   ·rcases List.mem_cons.1 he with rfl | he
    ·exact hm
    ·exact hh.1 e (List.mem_of_mem_drop he)
  ·have hlo:∀y∈es.take (bsK es x),ltE y x:=fun y hy=>by
    obtain ⟨i,hi,rfl⟩:=List.getElem_of_mem hy
    rw[List.length_take] at hi
    rw[List.getElem_take]
    exact bsK_lo i (by omega) (by omega)
   have hhi:∀y∈es.drop (bsK es x),ltE x y:=fun y hy=>by
    have hlt:bsK es x<es.length:=by
     rcases Nat.lt_or_ge (bsK es x) es.length with h1 | h1
     ·exact h1
     ·rw[List.drop_of_length_le h1] at hy;cases hy
    have h1:=bsK_ge hlt
    have h2:ltE x es[bsK es x]:=by
     refine Classical.byContradiction fun h2=>hb ?_
     obtain ⟨h3,h4⟩:=key_eq h1 h2
     unfold bsF
     rw[List.getElem?_eq_getElem hlt]
     simp only
     refine decide_eq_true ?_
     unfold cmpE
     rw[if_neg (by omega),if_neg (by omega),if_neg (by omega),if_neg (by omega)]
    obtain ⟨j,hj,rfl⟩:=List.getElem_of_mem hy
    rw[List.getElem_drop]
    rw[List.length_drop] at hj
    rcases Nat.eq_zero_or_pos j with h0 | h0
    ·subst h0;exact h2
    ·exact ltE_trans h2 (List.pairwise_iff_getElem.1 hh.2 _ _ hlt (by omega) (by omega))
   refine List.pairwise_append.2 ⟨hh.2.sublist (List.take_sublist _ _),List.pairwise_cons.2 ⟨hhi,hh.2.sublist (List.drop_sublist _ _)⟩,fun a ha b hb'=>?_⟩
   rcases List.mem_cons.1 hb' with rfl | hb'
   ·exact hlo a ha
   ·exact ltE_trans (hlo a ha) (hhi b hb')
structure LInv (me:Int) (es:List E3):Prop where
 good:goodE es=true
 here:∀e∈es,hasB e.t me=false
 next:∀(i:Nat) (h:i+1<es.length),es[i].t=0->es[i+1].f≠es[i].f
theorem mem_purgeE {es:List E3} {e:E3} (h:e∈purgeE es):e∈es:=(purgeE_sub es).subset h
theorem inv_purge {me:Int} {es:List E3} (h:goodE es=true) (hh:∀e∈es,hasB e.t me=false):LInv me (purgeE es):=by
 refine ⟨?_,fun e he=>hh e (mem_purgeE he),?_⟩
 ·unfold purgeE;rw[if_pos h];exact good_purge h
 ·unfold purgeE;rw[if_pos h];exact fun i hi=>purgeL_next es i hi
theorem hasB_out (t to:Nat) (me:Int) (h:hasB t me=false):hasB (outB t to) me=false:=by
 unfold hasB outB at *
 rw[Nat.testBit_and]
 cases hb:t.testBit me.toNat with
 | false=>simp
 | true=>
  rw[hb,Bool.and_true] at h
  rw[h];rfl
theorem hasB_outMe (t:Nat) (me:Int) (ht:t<2^64) (h0:0<=me) (h1:me<16):hasB (outB t (ofN me)) me=false:=by
 obtain ⟨m,rfl⟩:∃m:Nat,me=m:=⟨me.toNat,by omega⟩
 have ho:ofN (m:Int)=2^m:=by unfold ofN;rw[if_pos (by omega),Int.toNat_natCast]
 unfold hasB outB
 rw[ho,Int.toNat_natCast,Nat.testBit_and,show (2^64-1-2^m:Nat)=2^64-(2^m+1) by omega,Nat.testBit_two_pow_sub_succ (Nat.pow_lt_pow_right (by omega) (by omega)),Nat.testBit_two_pow_self]
 simp
theorem here_less {me:Int} {es:List E3} (to:Nat) (h:∀e∈es,hasB e.t me=false):∀e∈lessE es to,hasB e.t me=false:=fun e he=>by
 unfold lessE at he
 split at he
 ·obtain ⟨x,hx,rfl⟩:=List.mem_map.1 he
  exact hasB_out _ _ _ (h x hx)
 ·exact h e he
theorem inv_send {me:Int} {es:List E3} (I:LInv me es) (num t:Nat) (hme:0<=me) (hme2:me<16) (ht:t<65536) (htm:hasB t me=false):LInv me (sendLog es me num t):=by
 unfold sendLog
 have hm:mayE ⟨me,num+1,t⟩=true:=by
  unfold mayE
  simp only[Bool.and_eq_true,decide_eq_true_eq]
  exact ⟨hme,hme2,by omega,ht⟩
 refine inv_purge (good_add (good_less t I.good) hm) fun e he=>?_
 rcases mem_addE he with he | rfl
 ·exact here_less t I.here e he
 ·exact htm
theorem inv_take {me:Int} {es g:List E3} (I:LInv me es) (hg:goodE g=true) (fr:Int) (k to:Nat) (hx:mayE ⟨fr,k,to⟩=true) (hme:0<=me) (hme2:me<16):LInv me (takeLog es me fr k to g):=by
 unfold takeLog
 have h1:=good_less (ofN me) (good_add hg hx)
 have h2:=srt_join I.good h1
 generalize joinE es (lessE (addE g ⟨fr,k,to⟩) (ofN me))=J at *
 refine inv_purge (good_less _ h2) fun e he=>?_
 unfold lessE at he
 rw[if_pos h2] at he
 obtain ⟨x,hx',rfl⟩:=List.mem_map.1 he
 have:=(zBi _).1 h2
 have hm:=this.1 x hx'
 unfold mayE at hm
 simp only[Bool.and_eq_true,decide_eq_true_eq] at hm
 exact hasB_outMe x.t me (by omega) hme hme2
theorem LInv.wide {me:Int} {es:List E3} (I:LInv me es) (hn:∀e∈es,e.n<2^64):wide es:=fun e he=>by
 have hm:=((zBi es).1 I.good).1 e he
 unfold mayE at hm
 simp only[Bool.and_eq_true,decide_eq_true_eq] at hm
 exact ⟨hn e he,by omega⟩
end Go.Am
namespace Go.Am
set_option maxRecDepth 100000
set_option linter.all false
theorem filter_split {α:Type} (p:α->Bool):∀l:List α,l.length=(l.filter p).length+(l.filter fun x=>!p x).length
 | []=>rfl
 | x::l=>by
  have:=filter_split p l
  rw[List.filter_cons,List.filter_cons]
  cases p x<;>simp<;>omega
theorem dis_len:∀(n:Nat) (l:List Nat),(∀a∈l,0<a/\a<2^n)->l.Pairwise (fun a b=>a &&& b=0)->l.length<=n
 | 0,l,h,_=>by
  cases l with
  | nil=>simp
  | cons a l=>have:=h a (by simp);omega
 | n+1,l,h,hp=>by
  have h1:=filter_split (fun a:Nat=>a.testBit n) l
  have h2:(l.filter fun a:Nat=>!a.testBit n).length<=n:=by
   refine dis_len n _ (fun a ha=>?_) (hp.sublist List.filter_sublist)
   obtain ⟨ha1,ha2⟩:=List.mem_filter.1 ha
   have hb:=h a ha1
   refine ⟨hb.1,?_⟩
   rw[Bool.not_eq_true'] at ha2
   refine Nat.lt_of_not_le fun hge=>?_
   have:a.testBit n=true:=by
    rw[Nat.testBit_eq_decide_div_mod_eq]
    have e:a / 2^n=1:=by
     have hlt:a<2^n*2:=by rw[<-Nat.pow_succ];exact hb.2
     have u:a / 2^n<2:=Nat.div_lt_of_lt_mul hlt
     have v:1<=a / 2^n:=(Nat.le_div_iff_mul_le (Nat.two_pow_pos n)).2 (by omega)
     omega
    rw[e];rfl
   rw[this] at ha2;cases ha2
  have h3:(l.filter fun a:Nat=>a.testBit n).length<=1:=by
   have hq:=hp.sublist (List.filter_sublist (p:=fun a:Nat=>a.testBit n) (l:=l))
   have hm:∀a∈l.filter (fun a:Nat=>a.testBit n),a.testBit n=true:=fun a ha=>(List.mem_filter.1 ha).2
   revert hq hm
   generalize l.filter (fun a:Nat=>a.testBit n)=q
   intro hq hm
   match q,hq,hm with
   | [],_,_=>simp
   | [a],_,_=>simp
   | a::b::q,hq,hm=>
    have e:=(List.pairwise_cons.1 hq).1 b (by simp)
    have:=congrArg (fun x=>Nat.testBit x n) e
    simp only[Nat.testBit_and,hm a (by simp),hm b (by simp),Nat.zero_testBit] at this
    cases this
  omega
theorem count_f (c:Nat):∀(m:Nat) (es:List E3),(∀e∈es,0<=e.f/\e.f<m)->(∀f:Int,(es.filter fun e=>decide (e.f=f)).length<=c)->es.length<=m*c
 | 0,es,h,_=>by
  cases es with
  | nil=>simp
  | cons a l=>have:=h a (by simp);omega
 | m+1,es,h,hc=>by
  have h1:=filter_split (fun e:E3=>decide (e.f=(m:Int))) es
  have h2:=hc (m:Int)
  have h3:(es.filter fun e=>!decide (e.f=(m:Int))).length<=m*c:=by
   refine count_f c m _ (fun e he=>?_) (fun f=>?_)
   ·obtain ⟨a,b⟩:=List.mem_filter.1 he
    have:=h e a
    simp only[Bool.not_eq_true',decide_eq_false_iff_not] at b
    omega
   ·refine Nat.le_trans ?_ (hc f)
    exact (List.Sublist.filter _ List.filter_sublist).length_le
  rw[Nat.succ_mul]
  omega
structure SInv (n:Nat) (es:List E3):Prop where
 good:goodE es=true
 frm:∀e∈es,e.f<n
 wid:∀e∈es,e.t<2^n
 dis:es.Pairwise fun a b=>a.f=b.f->a.t &&& b.t=0
theorem SInv.f0 {n:Nat} {es:List E3} (s:SInv n es):∀e∈es,0<=e.f:=fun e he=>by
 have:=((zBi es).1 s.good).1 e he
 unfold mayE at this
 simp only[Bool.and_eq_true,decide_eq_true_eq] at this
 exact this.1
theorem zero_one {es:List E3} (hs:Srt es) (nx:∀(i:Nat) (h:i+1<es.length),es[i].t=0->es[i+1].f≠es[i].f) (f:Int):(es.filter fun e=>decide (e.f=f/\e.t=0)).length<=1:=by
 have key:(es.filter fun e=>decide (e.f=f/\e.t=0)).Pairwise fun a b=>False:=by
  refine List.pairwise_filter.2 (List.pairwise_iff_getElem.2 fun i j hi hj hij h1 h2=>?_)
  simp only[decide_eq_true_eq] at h1 h2
  have n1:=nx i (by omega) h1.2
  have o1:=List.pairwise_iff_getElem.1 hs i (i+1) hi (by omega) (by omega)
  rcases Nat.eq_or_lt_of_le (show i+1<=j by omega) with e | e
  ·subst e;exact n1 (h2.1.trans h1.1.symm)
  ·have o2:=List.pairwise_iff_getElem.1 hs (i+1) j (by omega) hj e
   unfold ltE at o1 o2
   omega
 revert key
 generalize es.filter (fun e=>decide (e.f=f/\e.t=0))=q
 intro key
 match q,key with
 | [],_=>simp
 | [a],_=>simp
 | a::b::q,k=>exact False.elim ((List.pairwise_cons.1 k).1 b (by simp))
theorem SInv.len {n:Nat} {es:List E3} (s:SInv n es) (nx:∀(i:Nat) (h:i+1<es.length),es[i].t=0->es[i+1].f≠es[i].f):es.length<=n*n+n:=by
 have h:=count_f (n+1) n es (fun e he=>⟨s.f0 e he,s.frm e he⟩) fun f=>?_
 ·rw[Nat.mul_succ] at h;exact h
 ·have hs:=((zBi es).1 s.good).2
  have z:=zero_one hs nx f
  have sp:=filter_split (fun e:E3=>decide (e.t=0)) (es.filter fun e=>decide (e.f=f))
  have e1:(es.filter fun e=>decide (e.f=f)).filter (fun e:E3=>decide (e.t=0))=es.filter fun e=>decide (e.f=f/\e.t=0):=by
   rw[List.filter_filter]
   refine List.filter_congr fun e _=>?_
   by_cases a:e.f=f<;>by_cases b:e.t=0<;>simp[a,b]
  rw[e1] at sp
  have d:(((es.filter fun e=>decide (e.f=f)).filter fun e:E3=>!decide (e.t=0)).map fun e=>e.t).length<=n:=by
   refine dis_len n _ (fun a ha=>?_) (List.pairwise_map.2 ?_)
   ·obtain ⟨e,he,rfl⟩:=List.mem_map.1 ha
    obtain ⟨he1,he2⟩:=List.mem_filter.1 he
    obtain ⟨he3,_⟩:=List.mem_filter.1 he1
    simp only[Bool.not_eq_true',decide_eq_false_iff_not] at he2
    exact ⟨by omega,s.wid e he3⟩
   ·have p2:(es.filter fun e=>decide (e.f=f)).Pairwise fun a b=>a.t &&& b.t=0:=by
     refine List.pairwise_filter.2 (s.dis.imp fun {a b} hab ha hb=>?_)
     simp only[decide_eq_true_eq] at ha hb
     exact hab (ha.trans hb.symm)
    exact p2.sublist List.filter_sublist
  rw[List.length_map] at d
  omega
theorem SInv.sub {n:Nat} {es fs:List E3} (s:SInv n es) (h:fs.Sublist es) (g:goodE fs=true):SInv n fs:=
 ⟨g,fun e he=>s.frm e (h.subset he),fun e he=>s.wid e (h.subset he),s.dis.sublist h⟩
theorem SInv.purge {n:Nat} {es:List E3} (s:SInv n es):SInv n (purgeE es):=by
 refine s.sub (purgeE_sub es) ?_
 unfold purgeE
 rw[if_pos s.good]
 exact good_purge s.good
theorem SInv.less {n:Nat} {es:List E3} (s:SInv n es) (to:Nat):SInv n (lessE es to):=by
 refine ⟨good_less to s.good,?_,?_,?_⟩
 all_goals unfold lessE
 all_goals rw[if_pos s.good]
 ·intro e he
  obtain ⟨x,hx,rfl⟩:=List.mem_map.1 he
  exact s.frm x hx
 ·intro e he
  obtain ⟨x,hx,rfl⟩:=List.mem_map.1 he
  exact Nat.lt_of_le_of_lt Nat.and_le_left (s.wid x hx)
 ·refine List.pairwise_map.2 (s.dis.imp fun {a b} hab hf=>?_)
  have:=hab hf
  show (a.t &&& _) &&& (b.t &&& _)=0
  apply Nat.eq_of_testBit_eq
  intro i
  have hi:=congrArg (fun x=>Nat.testBit x i) this
  simp only[Nat.testBit_and,Nat.zero_testBit] at hi ⊢
  cases ha:a.t.testBit i<;>cases hb:b.t.testBit i<;>simp_all
end Go.Am
namespace Go.Am
set_option maxRecDepth 100000
set_option linter.all false
def moreF (l:List E3) (x:E3):Bool:=l.any fun e=>decide (e.f=x.f/\x.n<e.n)
theorem last_take (es:List E3) (hs:Srt es) (f:Int):∀i,i<=es.length->(getM (lastM (es.take i)) f=none->∀e∈es.take i,e.f≠f)/\∀n,getM (lastM (es.take i)) f=some n->(∃e∈es.take i,e.f=f/\e.n=n)/\∀e∈es.take i,e.f=f->e.n<=n
 | 0,_=>by simp[lastM,getM]
 | i+1,hi=>by
  have ih:=last_take es hs f i (by omega)
  have hlt:i<es.length:=by omega
  have ht:es.take (i+1)=es.take i++[es[i]]:=by rw[List.take_succ,List.getElem?_eq_getElem hlt];rfl
  have hlo:∀e∈es.take i,ltE e es[i]:=fun e he=>by
   obtain ⟨j,hj,rfl⟩:=List.getElem_of_mem he
   rw[List.length_take] at hj
   rw[List.getElem_take]
   exact List.pairwise_iff_getElem.1 hs j i (by omega) hlt (by omega)
  rw[ht,lastM_snoc,getM_put]
  by_cases hf:f=es[i].f
  ·rw[if_pos hf]
   refine ⟨fun h=>(by cases h),fun n hn=>?_⟩
   cases hn
   refine ⟨⟨es[i],(List.mem_append_right _ (List.mem_singleton.2 rfl)),hf.symm,rfl⟩,fun e he hef=>?_⟩
   rcases List.mem_append.1 he with he | he
   ·have:=hlo e he;unfold ltE at this;omega
   ·rw[List.mem_singleton.1 he];exact Nat.le_refl _
  ·rw[if_neg hf]
   refine ⟨fun h e he=>?_,fun n hn=>?_⟩
   ·rcases List.mem_append.1 he with he | he
    ·exact ih.1 h e he
    ·rw[List.mem_singleton.1 he];exact fun h=>hf h.symm
   ·obtain ⟨⟨e,he,h1,h2⟩,h3⟩:=ih.2 n hn
    refine ⟨⟨e,List.mem_append_left _ he,h1,h2⟩,fun e' he' hf'=>?_⟩
    rcases List.mem_append.1 he' with he' | he'
    ·exact h3 e' he' hf'
    ·rw[List.mem_singleton.1 he'] at hf';exact absurd hf'.symm hf
def gA (heard:List E3) (e:E3):Option E3:=if bsF heard e=true then bothF heard e else if moreF heard e=true then none else some e
theorem key_bs {l:List E3} {x:E3} (h:bsF l x=true):∃hk:bsK l x<l.length,l[bsK l x].f=x.f/\l[bsK l x].n=x.n:=by
 obtain ⟨z,h1,_,h2,h3⟩:=bs_true h
 obtain ⟨hk,g⟩:=List.getElem?_eq_some_iff.1 h1
 exact ⟨hk,by rw[g];exact h2,by rw[g];exact h3⟩
end Go.Am
namespace Go.Am
set_option maxRecDepth 100000
set_option linter.all false
def disR (a b:E3):Prop:=a.f=b.f->a.t &&& b.t=0
theorem disR_symm {a b:E3} (h:disR a b):disR b a:=fun e=>by rw[Nat.and_comm];exact h e.symm
theorem pair_mem {α:Type} {R:α->α->Prop} (sy:∀ {a b},R a b->R b a):∀ {l:List α},l.Pairwise R->∀ {a b},a∈l->b∈l->a≠b->R a b
 | [],_,a,_,ha,_,_=>by cases ha
 | x::l,h,a,b,ha,hb,hn=>by
  obtain ⟨h1,h2⟩:=List.pairwise_cons.1 h
  rcases List.mem_cons.1 ha with e1 | ha2
  ·rcases List.mem_cons.1 hb with e2 | hb2
   ·exact absurd (e1.trans e2.symm) hn
   ·rw[e1];exact h1 b hb2
  ·rcases List.mem_cons.1 hb with e2 | hb2
   ·rw[e2];exact sy (h1 a ha2)
   ·exact pair_mem sy h2 ha2 hb2 hn
theorem addE_dis {es:List E3} {x:E3} (R:E3->E3->Prop) (sy:∀ {a b},R a b->R b a) (h:es.Pairwise R) (hx:∀e∈es,R x e):(addE es x).Pairwise R:=by
 unfold addE
 split
 ·split
  ·rename_i hb
   have hlt:=bsF_lt hb
   rw[List.set_eq_take_append_cons_drop,if_pos hlt]
   have sl:(es.take (bsK es x)++es.drop (bsK es x+1)).Sublist es:=by
    have:=(List.Sublist.refl (es.take (bsK es x))).append (List.drop_sublist_drop_left es (Nat.le_succ (bsK es x)))
    rwa [List.take_append_drop] at this
   refine (List.perm_middle.symm).pairwise (List.pairwise_cons.2 ⟨fun e he=>hx e (sl.subset he),h.sublist sl⟩) sy
  ·unfold insE
   refine (List.perm_middle.symm).pairwise ?_ sy
   rw[List.take_append_drop]
   exact List.pairwise_cons.2 ⟨hx,h⟩
 ·exact h
theorem SInv.add {n:Nat} {es:List E3} (s:SInv n es) {x:E3} (hm:mayE x=true) (hf:x.f<n) (ht:x.t<2^n) (hx:∀e∈es,x.f=e.f->x.t &&& e.t=0):SInv n (addE es x):=by
 refine ⟨good_add s.good hm,fun e he=>?_,fun e he=>?_,addE_dis disR disR_symm s.dis hx⟩
 ·rcases mem_addE he with he | rfl
  ·exact s.frm e he
  ·exact hf
 ·rcases mem_addE he with he | rfl
  ·exact s.wid e he
  ·exact ht
theorem out_and (a t:Nat):t &&& outB a t=0:=by
 unfold outB
 apply Nat.eq_of_testBit_eq
 intro i
 rw[Nat.testBit_and,Nat.testBit_and,Nat.zero_testBit]
 cases ht:t.testBit i with
 | false=>rfl
 | true=>
  by_cases hi:i<64
  ·have:(2^64-1-t).testBit i=false:=by
    by_cases hlt:t<2^64
    ·rw[show (2^64-1-t:Nat)=2^64-(t+1) by omega,Nat.testBit_two_pow_sub_succ hlt,ht];simp
    ·rw[show (2^64-1-t:Nat)=0 by omega,Nat.zero_testBit]
   rw[this];simp
  ·have:(2^64-1-t).testBit i=false:=Nat.testBit_lt_two_pow (Nat.lt_of_lt_of_le (show 2^64-1-t<2^64 by omega) (Nat.pow_le_pow_right (by omega) (by omega)))
   rw[this];simp
theorem SInv.send {n:Nat} {es:List E3} (s:SInv n es) (hn:n<=16) (me num t:Nat) (hme:me<n) (ht:t<2^n):SInv n (sendLog es (me:Int) num t):=by
 have h16:(2:Nat)^n<=2^16:=Nat.pow_le_pow_right (by omega) hn
 unfold sendLog
 refine ((s.less t).add ?_ ?_ ht fun e he hf=>?_).purge
 ·unfold mayE
  simp only[Bool.and_eq_true,decide_eq_true_eq]
  omega
 ·show (me:Int)<n;omega
 ·unfold lessE at he
  rw[if_pos s.good] at he
  obtain ⟨y,hy,rfl⟩:=List.mem_map.1 he
  exact out_and y.t t
theorem SInv.join {n:Nat} {es fs:List E3} (s:SInv n es) (s2:SInv n fs):SInv n (joinE es fs):=by
 have h1:=(zBi es).1 s.good
 have h2:=(zBi fs).1 s2.good
 have g:=srt_join s.good s2.good
 have mem:∀e∈joinE es fs,e∈newsE es fs++newsE fs es++bothE es fs:=fun e he=>by
  unfold joinE at he
  rw[if_pos ⟨s.good,s2.good⟩] at he
  exact (srtE_perm _).subset he
 have bit:∀ {a b c d:Nat},a &&& b=0->(a &&& c) &&& (b &&& d)=0:=fun {a b c d} h=>by
  apply Nat.eq_of_testBit_eq
  intro i
  have hi:=congrArg (fun x=>Nat.testBit x i) h
  simp only[Nat.testBit_and,Nat.zero_testBit] at hi ⊢
  cases ha:a.testBit i<;>cases hb:b.testBit i<;>simp_all
 refine ⟨g,fun e he=>?_,fun e he=>?_,?_⟩
 ·rcases List.mem_append.1 (mem e he) with h | h
  ·rcases List.mem_append.1 h with h | h
   ·exact s.frm e (mem_news h2.2 h).1
   ·exact s2.frm e (mem_news h1.2 h).1
  ·obtain ⟨y,hy,z,hz,h3,h4,rfl⟩:=(mem_both h2.2 e).1 h
   exact s.frm y hy
 ·rcases List.mem_append.1 (mem e he) with h | h
  ·rcases List.mem_append.1 h with h | h
   ·exact s.wid e (mem_news h2.2 h).1
   ·exact s2.wid e (mem_news h1.2 h).1
  ·obtain ⟨y,hy,z,hz,h3,h4,rfl⟩:=(mem_both h2.2 e).1 h
   exact Nat.lt_of_le_of_lt Nat.and_le_left (s.wid y hy)
 ·have p:(newsE es fs++newsE fs es++bothE es fs).Pairwise disR:=by
   have b3:(bothE es fs).Pairwise disR:=by
    unfold bothE
    refine List.pairwise_filterMap.2 (s.dis.imp fun {a b} hab x hx y hy=>?_)
    unfold bothF at hx hy
    split at hx
    ·split at hy
     ·cases hx;cases hy
      exact fun e=>bit (hab e)
     ·cases hy
    ·cases hx
   refine List.pairwise_append.2 ⟨List.pairwise_append.2 ⟨s.dis.sublist List.filter_sublist,s2.dis.sublist List.filter_sublist,fun a ha b hb hf=>?_⟩,b3,fun a ha b hb=>?_⟩
   ·exfalso
    have a1:=(mem_news h2.2 ha).1
    have b1:=(mem_news h1.2 hb).1
    unfold newsE at ha hb
    have a2:=(List.mem_filter.1 ha).2
    have b2:=(List.mem_filter.1 hb).2
    simp only[Bool.and_eq_true,decide_eq_true_eq] at a2 b2
    have la:=last_take es h1.2 a.f es.length (Nat.le_refl _)
    have lb:=last_take fs h2.2 b.f fs.length (Nat.le_refl _)
    rw[List.take_length] at la lb
    have ua:a.n<=(getM (lastM es) a.f).getD 0:=by
     cases hg:getM (lastM es) a.f with
     | none=>exact absurd rfl (la.1 hg a a1)
     | some m=>exact (la.2 m hg).2 a a1 rfl
    have ub:b.n<=(getM (lastM fs) b.f).getD 0:=by
     cases hg:getM (lastM fs) b.f with
     | none=>exact absurd rfl (lb.1 hg b b1)
     | some m=>exact (lb.2 m hg).2 b b1 rfl
    rw[<-hf] at b2 ub
    omega
   ·obtain ⟨y,hy,z,hz,h3,h4,rfl⟩:=(mem_both h2.2 b).1 hb
    intro hf
    simp only at hf
    rcases List.mem_append.1 ha with h | h
    ·have q:=mem_news h2.2 h
     have hne:a≠y:=fun e=>by subst e;exact q.2 ⟨z,hz,h3,h4⟩
     have:=pair_mem disR_symm s.dis q.1 hy hne hf
     show a.t &&& (y.t &&& z.t)=0
     rw[<-Nat.and_assoc,this,Nat.zero_and]
    ·have q:=mem_news h1.2 h
     have hne:a≠z:=fun e=>by subst e;exact q.2 ⟨y,hy,h3.symm,h4.symm⟩
     have:=pair_mem disR_symm s2.dis q.1 hz hne (hf.trans h3.symm)
     show a.t &&& (y.t &&& z.t)=0
     rw[Nat.and_comm y.t,<-Nat.and_assoc,this,Nat.zero_and]
  unfold joinE
  rw[if_pos ⟨s.good,s2.good⟩]
  exact (srtE_perm _).symm.pairwise p disR_symm
end Go.Am
namespace Go.Am
set_option maxRecDepth 100000
set_option linter.all false
theorem outB_and (a b m:Nat):outB a m &&& outB b m=outB (a &&& b) m:=by
 unfold outB
 apply Nat.eq_of_testBit_eq
 intro i
 simp only[Nat.testBit_and]
 cases a.testBit i<;>cases b.testBit i<;>cases (2^64-1-m).testBit i<;>rfl
theorem SInv.take {n:Nat} {es g:List E3} (s:SInv n es) (sg:SInv n g) (hn:n<=16) (me fr k to:Nat) (hfr:fr<n) (hk:0<k) (hto:to<2^n) (hx:∀e∈g,e.f=(fr:Int)->outB (to &&& e.t) (ofN (me:Int))=0):SInv n (takeLog es (me:Int) (fr:Int) k to g):=by
 have h16:(2:Nat)^n<=2^16:=Nat.pow_le_pow_right (by omega) hn
 have hm:mayE ⟨(fr:Int),k,to⟩=true:=by
  unfold mayE
  simp only[Bool.and_eq_true,decide_eq_true_eq]
  omega
 have gA:=good_add sg.good hm
 have H:SInv n (lessE (addE g ⟨(fr:Int),k,to⟩) (ofN (me:Int))):=by
  have mem:∀e∈lessE (addE g ⟨(fr:Int),k,to⟩) (ofN (me:Int)),∃y∈addE g ⟨(fr:Int),k,to⟩,e=lessF (ofN (me:Int)) y:=fun e he=>by
   unfold lessE at he
   rw[if_pos gA] at he
   obtain ⟨y,hy,rfl⟩:=List.mem_map.1 he
   exact ⟨y,hy,rfl⟩
  refine ⟨good_less _ gA,fun e he=>?_,fun e he=>?_,?_⟩
  ·obtain ⟨y,hy,rfl⟩:=mem e he
   rcases mem_addE hy with hy | rfl
   ·exact sg.frm y hy
   ·show (fr:Int)<n;omega
  ·obtain ⟨y,hy,rfl⟩:=mem e he
   refine Nat.lt_of_le_of_lt (Nat.and_le_left:(lessF (ofN (me:Int)) y).t<=y.t) ?_
   rcases mem_addE hy with hy | rfl
   ·exact sg.wid y hy
   ·exact hto
  ·have w:(addE g ⟨(fr:Int),k,to⟩).Pairwise fun a b=>a.f=b.f->outB (a.t &&& b.t) (ofN (me:Int))=0:=by
    refine addE_dis (fun a b=>a.f=b.f->outB (a.t &&& b.t) (ofN (me:Int))=0) (fun {a b} h e=>by rw[Nat.and_comm];exact h e.symm) (sg.dis.imp fun {a b} h e=>by rw[h e];unfold outB;rw[Nat.zero_and]) fun e he hf=>hx e he hf.symm
   unfold lessE
   rw[if_pos gA]
   refine List.pairwise_map.2 (w.imp fun {a b} h e=>?_)
   show outB a.t _ &&& outB b.t _=0
   rw[outB_and]
   exact h e
 unfold takeLog
 exact ((s.join H).less _).purge
theorem mem_less {es:List E3} {to:Nat} {e:E3} (h:e∈lessE es to):∃y∈es,y.f=e.f/\y.n=e.n:=by
 unfold lessE at h
 split at h
 ·obtain ⟨y,hy,rfl⟩:=List.mem_map.1 h
  exact ⟨y,hy,rfl,rfl⟩
 ·exact ⟨e,h,rfl,rfl⟩
theorem mem_joinE {es fs:List E3} {e:E3} (h:e∈joinE es fs):(∃y∈es,y.f=e.f/\y.n=e.n)\/∃y∈fs,y.f=e.f/\y.n=e.n:=by
 unfold joinE at h
 split at h
 ·rename_i hg
  have h2:=((zBi fs).1 hg.2).2
  have h1:=((zBi es).1 hg.1).2
  rcases List.mem_append.1 ((srtE_perm _).subset h) with h | h
  ·rcases List.mem_append.1 h with h | h
   ·exact .inl ⟨e,(mem_news h2 h).1,rfl,rfl⟩
   ·exact .inr ⟨e,(mem_news h1 h).1,rfl,rfl⟩
  ·obtain ⟨y,hy,z,hz,h3,h4,rfl⟩:=(mem_both h2 e).1 h
   exact .inl ⟨y,hy,rfl,rfl⟩
 ·exact .inl ⟨e,h,rfl,rfl⟩
def NBd (nums:List Nat) (es:List E3):Prop:=∀e∈es,e.n<=nums.getD e.f.toNat 0
theorem NBd.key {nums:List Nat} {es:List E3} (b:NBd nums es) {e:E3} (h:∃y∈es,y.f=e.f/\y.n=e.n):e.n<=nums.getD e.f.toNat 0:=by
 obtain ⟨y,hy,h1,h2⟩:=h
 rw[<-h1,<-h2]
 exact b y hy
theorem NBd.more {nums nums':List Nat} {es:List E3} (b:NBd nums es) (h:∀i,nums.getD i 0<=nums'.getD i 0):NBd nums' es:=fun e he=>Nat.le_trans (b e he) (h _)
theorem NBd.send {nums:List Nat} {es:List E3} (b:NBd nums es) (me:Nat) (num t:Nat) (h:num+1<=nums.getD me 0):NBd nums (sendLog es (me:Int) num t):=fun e he=>by
 unfold sendLog at he
 rcases mem_addE (mem_purgeE he) with he | rfl
 ·exact b.key (mem_less he)
 ·exact h
theorem NBd.take {nums:List Nat} {es g:List E3} (b:NBd nums es) (bg:NBd nums g) (me:Int) (fr k to:Nat) (h:k<=nums.getD fr 0):NBd nums (takeLog es me (fr:Int) k to g):=fun e he=>by
 unfold takeLog at he
 obtain ⟨y,hy,h1,h2⟩:=mem_less (mem_purgeE he)
 rw[<-h1,<-h2]
 rcases mem_joinE hy with hz | hz
 ·exact b.key hz
 ·obtain ⟨z,hz,h3,h4⟩:=hz
  obtain ⟨u,hu,h5,h6⟩:=mem_less hz
  rw[<-h3,<-h4,<-h5,<-h6]
  rcases mem_addE hu with hu | rfl
  ·exact bg u hu
  ·exact h
end Go.Am
namespace Go.Am
set_option maxRecDepth 100000
set_option linter.all false
structure Tr where
 c:Nat->Nat
 T:Nat->Nat->Nat
 A:Nat->Nat->Nat->Nat
structure LogOk (X:Tr) (V:Nat->Nat) (es:List E3):Prop where
 good:goodE es=true
 ent:∀e∈es,∃f:Nat,e.f=f/\e.n<=V f/\∀d,e.t.testBit d=true->(X.T f (e.n-1)).testBit d=true
 last:∀f:Nat,0<V f->∃e∈es,e.f=(f:Int)/\e.n=V f
def Cov (X:Tr) (V:Nat->Nat) (tk:Nat->Nat->Nat) (es:List E3) (D:Nat->Prop):Prop:=
 ∀f j d,j<V f->D d->(X.T f j).testBit d=true->(∃e∈es,e.f=(f:Int)/\e.n=j+1/\e.t.testBit d=true)\/j<tk d f\/∃f' j',j'<V f'/\(X.T f' j').testBit d=true/\j<X.A f' j' f
theorem may_of {es:List E3} (g:goodE es=true) {e:E3} (he:e∈es):0<=e.f/\e.f<16/\0<e.n/\e.t<65536:=by
 have:=((zBi es).1 g).1 e he
 unfold mayE at this
 simp only[Bool.and_eq_true,decide_eq_true_eq] at this
 exact this
theorem LogOk.pos {X:Tr} {V:Nat->Nat} {es:List E3} (l:LogOk X V es) {e:E3} (he:e∈es):0<e.n:=(may_of l.good he).2.2.1
theorem outB_bit (a m d:Nat) (ha:a<2^64) (hm:m<2^64):(outB a m).testBit d=(a.testBit d && !m.testBit d):=by
 unfold outB
 rw[Nat.testBit_and]
 by_cases hd:d<64
 ·rw[show (2^64-1-m:Nat)=2^64-(m+1) by omega,Nat.testBit_two_pow_sub_succ hm];simp[hd]
 ·have:a.testBit d=false:=Nat.testBit_lt_two_pow (Nat.lt_of_lt_of_le ha (Nat.pow_le_pow_right (by omega) (by omega)))
  rw[this];simp
theorem mem_lessE {es:List E3} (g:goodE es=true) (m:Nat) {e:E3}:e∈lessE es m ↔ ∃y∈es,e=lessF m y:=by
 unfold lessE
 rw[if_pos g]
 rw[List.mem_map]
 exact ⟨fun ⟨y,a,b⟩=>⟨y,a,b.symm⟩,fun ⟨y,a,b⟩=>⟨y,a,b.symm⟩⟩
theorem LogOk.less {X:Tr} {V:Nat->Nat} {es:List E3} (l:LogOk X V es) (m:Nat) (hm:m<2^64):LogOk X V (lessE es m):=by
 refine ⟨good_less m l.good,fun e he=>?_,fun f hf=>?_⟩
 ·obtain ⟨y,hy,rfl⟩:=(mem_lessE l.good m).1 he
  obtain ⟨f,h1,h2,h3⟩:=l.ent y hy
  have ty:=may_of l.good hy
  refine ⟨f,h1,h2,fun d hd=>h3 d ?_⟩
  have:(outB y.t m).testBit d=true:=hd
  rw[outB_bit _ _ _ (by omega) hm,Bool.and_eq_true] at this
  exact this.1
 ·obtain ⟨e,he,h1,h2⟩:=l.last f hf
  exact ⟨lessF m e,(mem_lessE l.good m).2 ⟨e,he,rfl⟩,h1,h2⟩
theorem Cov.less {X:Tr} {V:Nat->Nat} {tk:Nat->Nat->Nat} {es:List E3} {D:Nat->Prop} (c:Cov X V tk es D) (g:goodE es=true) (m:Nat) (hm:m<2^64):Cov X V tk (lessE es m) fun d=>D d/\m.testBit d=false:=fun f j d hj hD ht=>by
 rcases c f j d hj hD.1 ht with ⟨e,he,h1,h2,h3⟩ | h | h
 ·refine .inl ⟨lessF m e,(mem_lessE g m).2 ⟨e,he,rfl⟩,h1,h2,?_⟩
  have ty:=may_of g he
  show (outB e.t m).testBit d=true
  rw[outB_bit _ _ _ (by omega) hm,h3,hD.2];rfl
 ·exact .inr (.inl h)
 ·exact .inr (.inr h)
theorem purgeL_keep:∀(es:List E3),Srt es->∀e∈es,(e.t≠0\/∀x∈es,x.f=e.f->x.n<=e.n)->e∈zBr es
 | [],_,e,he,_=>by cases he
 | [a],_,e,he,_=>by rw[List.mem_singleton] at he;subst he;simp[zBr]
 | a::b::l,hs,e,he,hk=>by
  rw[purgeL_two]
  obtain ⟨s1,s2⟩:=List.pairwise_cons.1 hs
  rcases List.mem_cons.1 he with h | h
  ·subst h
   have:e.t≠0\/b.f≠e.f:=by
    rcases hk with h | h
    ·exact .inl h
    ·refine .inr fun hf=>?_
     have h1:=h b (by simp) hf
     have h2:=s1 b (by simp)
     unfold ltE at h2
     omega
   rw[if_pos this]
   exact List.mem_cons_self
  ·have ih:=purgeL_keep (b::l) s2 e h (hk.imp id fun k x hx=>k x (List.mem_cons_of_mem _ hx))
   split
   ·exact List.mem_cons_of_mem _ ih
   ·exact ih
theorem LogOk.max {X:Tr} {V:Nat->Nat} {es:List E3} (l:LogOk X V es) {e:E3} (he:e∈es) {f:Nat} (hf:e.f=f):e.n<=V f:=by
 obtain ⟨f',h1,h2,_⟩:=l.ent e he
 have:f=f':=by omega
 subst this
 exact h2
theorem LogOk.purge {X:Tr} {V:Nat->Nat} {es:List E3} (l:LogOk X V es):LogOk X V (purgeE es):=by
 have e1:purgeE es=zBr es:=by unfold purgeE;rw[if_pos l.good]
 rw[e1]
 refine ⟨good_purge l.good,fun e he=>l.ent e ((purgeL_sub es).subset he),fun f hf=>?_⟩
 obtain ⟨e,he,h1,h2⟩:=l.last f hf
 refine ⟨e,purgeL_keep es ((zBi es).1 l.good).2 e he (.inr fun x hx hxf=>?_),h1,h2⟩
 rw[h2]
 exact l.max hx (hxf.trans h1)
theorem Cov.purge {X:Tr} {V:Nat->Nat} {tk:Nat->Nat->Nat} {es:List E3} {D:Nat->Prop} (c:Cov X V tk es D) (g:goodE es=true):Cov X V tk (purgeE es) D:=fun f j d hj hD ht=>by
 have e1:purgeE es=zBr es:=by unfold purgeE;rw[if_pos g]
 rw[e1]
 rcases c f j d hj hD ht with ⟨e,he,h1,h2,h3⟩ | h
 ·exact .inl ⟨e,purgeL_keep es ((zBi es).1 g).2 e he (.inl fun h0=>by rw[h0] at h3;simp at h3),h1,h2,h3⟩
 ·exact .inr h
def upV1 (V:Nat->Nat) (p:Nat):Nat->Nat:=fun a=>if a=p then V a+1 else V a
theorem upV1_self (V:Nat->Nat) (p:Nat):upV1 V p p=V p+1:=if_pos rfl
theorem upV1_ne (V:Nat->Nat) {p a:Nat} (h:a≠p):upV1 V p a=V a:=if_neg h
theorem upV1_le (V:Nat->Nat) (p a:Nat):V a<=upV1 V p a:=by unfold upV1;split<;>omega
theorem mem_addN {X:Tr} {V:Nat->Nat} {es:List E3} (l:LogOk X V es) {P t:Nat} (hm:mayE ⟨(P:Nat),V P+1,t⟩=true) (e:E3):e∈addE es ⟨(P:Nat),V P+1,t⟩ ↔ e∈es\/e=⟨(P:Nat),V P+1,t⟩:=by
 refine ⟨mem_addE,fun h=>?_⟩
 unfold addE
 rw[if_pos ⟨l.good,hm⟩]
 have hb:¬bsF es ⟨(P:Nat),V P+1,t⟩=true:=fun hb=>by
  obtain ⟨hk,h1,h2⟩:=key_bs hb
  have:=l.max (List.getElem_mem hk) h1
  simp only at h2
  omega
 rw[if_neg hb]
 unfold insE
 rcases h with h | rfl
 ·rw[<-List.take_append_drop (bsK es ⟨(P:Nat),V P+1,t⟩) es] at h
  rcases List.mem_append.1 h with h | h
  ·exact List.mem_append_left _ h
  ·exact List.mem_append_right _ (List.mem_cons_of_mem _ h)
 ·exact List.mem_append_right _ List.mem_cons_self
theorem LogOk.add {X:Tr} {V:Nat->Nat} {es:List E3} (l:LogOk X V es) {P t:Nat} (hm:mayE ⟨(P:Nat),V P+1,t⟩=true) (ht:∀d,t.testBit d=true->(X.T P (V P)).testBit d=true):LogOk X (upV1 V P) (addE es ⟨(P:Nat),V P+1,t⟩):=by
 refine ⟨good_add l.good hm,fun e he=>?_,fun f hf=>?_⟩
 ·rcases (mem_addN l hm e).1 he with he | rfl
  ·obtain ⟨f,h1,h2,h3⟩:=l.ent e he
   exact ⟨f,h1,Nat.le_trans h2 (upV1_le V P f),h3⟩
  ·exact ⟨P,rfl,by rw[upV1_self];exact Nat.le_refl _,ht⟩
 ·by_cases e:f=P
  ·subst e
   exact ⟨_,(mem_addN l hm _).2 (.inr rfl),rfl,(upV1_self V f).symm⟩
  ·rw[upV1_ne V e] at hf ⊢
   obtain ⟨x,hx,h1,h2⟩:=l.last f hf
   exact ⟨x,(mem_addN l hm x).2 (.inl hx),h1,h2⟩
theorem Cov.add {X:Tr} {V:Nat->Nat} {tk:Nat->Nat->Nat} {es:List E3} {D:Nat->Prop} (c:Cov X V tk es D) (l:LogOk X V es) {P t:Nat} (hm:mayE ⟨(P:Nat),V P+1,t⟩=true) (hT:X.T P (V P)=t) (hA:∀f,X.A P (V P) f=V f) :
  Cov X (upV1 V P) tk (addE es ⟨(P:Nat),V P+1,t⟩) fun d=>D d\/t.testBit d=true:=fun f j d hj hD ht=>by
 by_cases hn:f=P/\j=V P
 ·obtain ⟨rfl,rfl⟩:=hn
  exact .inl ⟨_,(mem_addN l hm _).2 (.inr rfl),rfl,rfl,by rw[hT] at ht;exact ht⟩
 ·have hjV:j<V f:=by
   by_cases e:f=P
   ·subst e;rw[upV1_self] at hj;omega
   ·rw[upV1_ne V e] at hj;exact hj
  by_cases hb:t.testBit d=true
  ·exact .inr (.inr ⟨P,V P,by rw[upV1_self];omega,by rw[hT];exact hb,by rw[hA];exact hjV⟩)
  ·rcases c f j d hjV (hD.resolve_right hb) ht with ⟨e,he,h1,h2,h3⟩ | h | ⟨f',j',h1,h2,h3⟩
   ·exact .inl ⟨e,(mem_addN l hm e).2 (.inl he),h1,h2,h3⟩
   ·exact .inr (.inl h)
   ·exact .inr (.inr ⟨f',j',Nat.lt_of_lt_of_le h1 (upV1_le V P f'),h2,h3⟩)
def maxV (V B:Nat->Nat):Nat->Nat:=fun a=>Nat.max (V a) (B a)
theorem maxV_l (V B:Nat->Nat) (a:Nat):V a<=maxV V B a:=Nat.le_max_left ..
theorem maxV_r (V B:Nat->Nat) (a:Nat):B a<=maxV V B a:=Nat.le_max_right ..
theorem last_get {X:Tr} {V:Nat->Nat} {es:List E3} (l:LogOk X V es) (f:Nat):(getM (lastM es) (f:Int)).getD 0=V f:=by
 have hs:=((zBi es).1 l.good).2
 have la:=last_take es hs (f:Int) es.length (Nat.le_refl _)
 rw[List.take_length] at la
 cases hg:getM (lastM es) (f:Int) with
 | none=>
  rcases Nat.eq_zero_or_pos (V f) with h | h
  ·rw[h];rfl
  ·obtain ⟨e,he,h1,_⟩:=l.last f h
   exact absurd h1 (la.1 hg e he)
 | some m=>
  obtain ⟨⟨e,he,h1,h2⟩,h3⟩:=la.2 m hg
  have h4:=l.max he h1
  have h5:=l.pos he
  obtain ⟨x,hx,h6,h7⟩:=l.last f (by omega)
  have h8:=h3 x hx h6
  show m=V f
  omega
theorem bsF_no {es:List E3} {x:E3} (h:¬∃z∈es,z.f=x.f/\z.n=x.n):bsF es x=false:=by
 cases hb:bsF es x with
 | false=>rfl
 | true=>
  obtain ⟨hk,h1,h2⟩:=key_bs hb
  exact absurd ⟨_,List.getElem_mem hk,h1,h2⟩ h
theorem news_of {X:Tr} {B:Nat->Nat} {es fs:List E3} (lf:LogOk X B fs) {e:E3} (he:e∈es) {f:Nat} (hf:e.f=f) (hn:B f<e.n):e∈newsE es fs:=by
 unfold newsE
 refine List.mem_filter.2 ⟨he,?_⟩
 have h1:bsF fs e=false:=bsF_no fun ⟨z,hz,h1,h2⟩=>by
  have:=lf.max hz (h1.trans hf)
  omega
 rw[h1,hf,last_get lf f,decide_eq_true hn]
 rfl
theorem mem_join {es fs:List E3} (g1:goodE es=true) (g2:goodE fs=true) (e:E3):e∈joinE es fs ↔ e∈newsE es fs\/e∈newsE fs es\/e∈bothE es fs:=by
 unfold joinE
 rw[if_pos ⟨g1,g2⟩,(srtE_perm _).mem_iff,List.mem_append,List.mem_append,or_assoc]
theorem LogOk.join {X:Tr} {V B:Nat->Nat} {es fs:List E3} (l:LogOk X V es) (lf:LogOk X B fs):LogOk X (maxV V B) (joinE es fs):=by
 have h1:=((zBi es).1 l.good).2
 have h2:=((zBi fs).1 lf.good).2
 refine ⟨srt_join l.good lf.good,fun e he=>?_,fun f hf=>?_⟩
 ·rcases (mem_join l.good lf.good e).1 he with h | h | h
  ·obtain ⟨f,a,b,c⟩:=l.ent e (mem_news h2 h).1
   exact ⟨f,a,Nat.le_trans b (maxV_l V B f),c⟩
  ·obtain ⟨f,a,b,c⟩:=lf.ent e (mem_news h1 h).1
   exact ⟨f,a,Nat.le_trans b (maxV_r V B f),c⟩
  ·obtain ⟨y,hy,z,hz,h3,h4,rfl⟩:=(mem_both h2 e).1 h
   obtain ⟨f,a,b,c⟩:=l.ent y hy
   refine ⟨f,a,Nat.le_trans b (maxV_l V B f),fun d hd=>c d ?_⟩
   have hd:(y.t &&& z.t).testBit d=true:=hd
   rw[Nat.testBit_and,Bool.and_eq_true] at hd
   exact hd.1
 ·rcases Nat.lt_trichotomy (V f) (B f) with h | h | h
  ·have e0:maxV V B f=B f:=Nat.max_eq_right (by omega)
   obtain ⟨e,he,a,b⟩:=lf.last f (by omega)
   rw[e0]
   exact ⟨e,(mem_join l.good lf.good e).2 (.inr (.inl (news_of l he a (by omega)))),a,b⟩
  ·have e0:maxV V B f=V f:=Nat.max_eq_left (by omega)
   rw[e0] at hf ⊢
   obtain ⟨e,he,a,b⟩:=l.last f hf
   obtain ⟨z,hz,a2,b2⟩:=lf.last f (by omega)
   exact ⟨{ e with t:=e.t &&& z.t },(mem_join l.good lf.good _).2 (.inr (.inr ((mem_both h2 _).2 ⟨e,he,z,hz,a2.trans a.symm,by omega,rfl⟩))),a,b⟩
  ·have e0:maxV V B f=V f:=Nat.max_eq_left (by omega)
   obtain ⟨e,he,a,b⟩:=l.last f (by omega)
   rw[e0]
   exact ⟨e,(mem_join l.good lf.good e).2 (.inl (news_of lf he a (by omega))),a,b⟩
theorem Cov.join {X:Tr} {V B:Nat->Nat} {tk:Nat->Nat->Nat} {es fs:List E3} {D:Nat->Prop} (c:Cov X V tk es D) (cf:Cov X B tk fs D) (l:LogOk X V es) (lf:LogOk X B fs):Cov X (maxV V B) tk (joinE es fs) D:=fun f j d hj hD ht=>by
 have h1:=((zBi es).1 l.good).2
 have h2:=((zBi fs).1 lf.good).2
 have upl:(∃f' j',j'<V f'/\(X.T f' j').testBit d=true/\j<X.A f' j' f)->∃f' j',j'<maxV V B f'/\(X.T f' j').testBit d=true/\j<X.A f' j' f:=fun ⟨f',j',a,b⟩=>⟨f',j',Nat.lt_of_lt_of_le a (maxV_l V B f'),b⟩
 have upr:(∃f' j',j'<B f'/\(X.T f' j').testBit d=true/\j<X.A f' j' f)->∃f' j',j'<maxV V B f'/\(X.T f' j').testBit d=true/\j<X.A f' j' f:=fun ⟨f',j',a,b⟩=>⟨f',j',Nat.lt_of_lt_of_le a (maxV_r V B f'),b⟩
 by_cases hV:j<V f
 ·rcases c f j d hV hD ht with ⟨e,he,a1,a2,a3⟩ | h | h
  ·by_cases hB:j<B f
   ·rcases cf f j d hB hD ht with ⟨z,hz,b1,b2,b3⟩ | h | h
    ·refine .inl ⟨{ e with t:=e.t &&& z.t },(mem_join l.good lf.good _).2 (.inr (.inr ((mem_both h2 _).2 ⟨e,he,z,hz,b1.trans a1.symm,b2.trans a2.symm,rfl⟩))),a1,a2,?_⟩
     show (e.t &&& z.t).testBit d=true
     rw[Nat.testBit_and,a3,b3];rfl
    ·exact .inr (.inl h)
    ·exact .inr (.inr (upr h))
   ·exact .inl ⟨e,(mem_join l.good lf.good e).2 (.inl (news_of lf he a1 (by omega))),a1,a2,a3⟩
  ·exact .inr (.inl h)
  ·exact .inr (.inr (upl h))
 ·have hB:j<B f:=by
   have hj:j<max (V f) (B f):=hj
   omega
  rcases cf f j d hB hD ht with ⟨z,hz,b1,b2,b3⟩ | h | h
  ·exact .inl ⟨z,(mem_join l.good lf.good z).2 (.inr (.inl (news_of l hz b1 (by omega)))),b1,b2,b3⟩
  ·exact .inr (.inl h)
  ·exact .inr (.inr (upr h))
end Go.Am
namespace Go.Am
set_option maxRecDepth 100000
set_option linter.all false
theorem nodup_lenP {α:Type} [DecidableEq α]:∀ {l K:List α},l.Nodup->(∀x∈l,x∈K)->l.length<=K.length
 | [],_,_,_=>Nat.zero_le _
 | x::l,K,hn,h=>by
  obtain ⟨h1,h2⟩:=List.nodup_cons.1 hn
  have hx:=h x (by simp)
  have:=nodup_lenP (l:=l) (K:=K.erase x) h2 fun y hy=>(List.mem_erase_of_ne (fun e=>h1 (by rw[<-e];exact hy))).2 (h y (by simp[hy]))
  rw[List.length_erase_of_mem hx] at this
  have:0<K.length:=List.length_pos_of_mem hx
  simp only[List.length_cons]
  omega
def keyE (e:E3):Int × Nat:=(e.f,e.n)
def KB (K:List (Int × Nat)) (es:List E3):Prop:=∀e∈es,keyE e∈K
theorem KB.len {K:List (Int × Nat)} {es:List E3} (b:KB K es) (g:goodE es=true):es.length<=K.length:=by
 have hs:=((zBi es).1 g).2
 have nd:(es.map keyE).Nodup:=List.pairwise_map.2 (hs.imp fun {a b} h e=>by
  unfold ltE at h
  unfold keyE at e
  have e1:=congrArg Prod.fst e
  have e2:=congrArg Prod.snd e
  simp only at e1 e2
  omega)
 have:=nodup_lenP nd fun x hx=>by obtain ⟨e,he,rfl⟩:=List.mem_map.1 hx;exact b e he
 rwa [List.length_map] at this
theorem KB.key {K:List (Int × Nat)} {es:List E3} (b:KB K es) {e:E3} (h:∃y∈es,y.f=e.f/\y.n=e.n):keyE e∈K:=by
 obtain ⟨y,hy,h1,h2⟩:=h
 have:=b y hy
 unfold keyE at this ⊢
 rwa [h1,h2] at this
theorem KB.more {K K':List (Int × Nat)} {es:List E3} (b:KB K es) (h:∀x∈K,x∈K'):KB K' es:=fun e he=>h _ (b e he)
theorem KB.send {K:List (Int × Nat)} {es:List E3} (b:KB K es) (me:Int) (num t:Nat):KB ((me,num+1)::K) (sendLog es me num t):=fun e he=>by
 unfold sendLog at he
 rcases mem_addE (mem_purgeE he) with he | rfl
 ·exact List.mem_cons_of_mem _ (b.key (mem_less he))
 ·exact List.mem_cons_self
theorem KB.take {K K2:List (Int × Nat)} {es g:List E3} (b:KB K es) (b2:KB K2 g) (me fr:Int) (k to:Nat):KB ((fr,k)::(K2++K)) (takeLog es me fr k to g):=fun e he=>by
 unfold takeLog at he
 obtain ⟨y,hy,h1,h2⟩:=mem_less (mem_purgeE he)
 have:keyE e=keyE y:=by unfold keyE;rw[h1,h2]
 rw[this]
 rcases mem_joinE hy with hz | hz
 ·exact List.mem_cons_of_mem _ (List.mem_append_right _ (b.key hz))
 ·obtain ⟨z,hz,h3,h4⟩:=hz
  have e1:keyE y=keyE z:=by unfold keyE;rw[h3,h4]
  rw[e1]
  obtain ⟨u,hu,h5,h6⟩:=mem_less hz
  have e2:keyE z=keyE u:=by unfold keyE;rw[h5,h6]
  rw[e2]
  rcases mem_addE hu with hu | rfl
  ·exact List.mem_cons_of_mem _ (List.mem_append_left _ (b2 u hu))
  ·exact List.mem_cons_self
def Told (K:List (Int × Nat)) (b:List UInt8):Prop:=∃g,b=logB g/\goodE g=true/\wide g/\KB K g
theorem Told.more {K K':List (Int × Nat)} {b:List UInt8} (t:Told K b) (h:∀x∈K,x∈K'):Told K' b:=let ⟨g,e,a,w,k⟩:=t;⟨g,e,a,w,k.more h⟩
theorem good_fP {es:List E3} (g:goodE es=true):∀e∈es,0<=e.f/\e.f<2^63:=fun e he=>by
 have:=((zBi es).1 g).1 e he
 unfold mayE at this
 simp only[Bool.and_eq_true,decide_eq_true_eq] at this
 omega
theorem Told.get {K:List (Int × Nat)} {b:List UInt8} (t:Told K b) (hK:K.length<=2^20):∃g,getP b=some g/\goodE g=true/\wide g/\KB K g/\b.length<2^26:=by
 obtain ⟨g,rfl,hg,w,k⟩:=t
 have hl:=k.len hg
 have le:=encL_le g (fun e he=>(good_fP hg e he).2) w
 have pl:=putL_le g.length (by omega)
 exact ⟨g,get_put hg w (by omega),hg,w,k,by unfold logB;rw[List.length_append];omega⟩
end Go.Am
