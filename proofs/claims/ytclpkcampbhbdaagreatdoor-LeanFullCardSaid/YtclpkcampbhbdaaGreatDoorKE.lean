/- What the functions answer, in the machine. -/
import Derived.Test.YtclpkcampbhbdaaGreatDoorKD
import Derived.Test.YtclpkcampbhbdaaGreatDoorChecked
import Derived.KernelRfl
import Derived.Lib.TrailingZeros
import Derived.Sort.AssemblyPlain
set_option linter.all false
namespace Go.Am
open Go.Proofs
def sizeN (n:Nat):Nat:=if n<128 then 1 else sizeN (n / 128)+1
theorem sizeN_le (n:Nat):∀k,n<2^(7*k)->1<=k->sizeN n<=k:=by
 induction n using Nat.strongRecOn with
 | _ n ih=>
  intro k hk h1
  rw[sizeN]
  split
  ·omega
  ·rename_i h
   obtain ⟨k,rfl⟩:∃j,k=j+1:=⟨k-1,by omega⟩
   have:1<=k:=by
    rcases Nat.eq_zero_or_pos k with rfl | h'
    ·simp at hk;omega
    ·exact h'
   have:=ih (n / 128) (by omega) k (by
    rw[Nat.div_lt_iff_lt_mul (by omega)]
    have e:2^(7*(k+1))=2^(7*k)*128:=by rw[Nat.mul_add,Nat.pow_add]
    omega) this
   omega
theorem fdiv_128 (n:Nat):Int.fdiv (n:Int) 128=((n / 128:Nat):Int):=by
 rw[Int.fdiv_eq_ediv_of_nonneg _ (by omega)];omega
theorem size_loop (h0 h:Heap) (n:Nat):∀(k:Nat) (Ab Ac Ae Af Ag Ah Ai Aj Ak:Value),k+sizeN n<1000->0<k->
  loopK Tryz.prog (evC Tryz.prog) c113_1 ⟨#[.int .u64 n,Ab,Ac,.int .i64 k,Ae,Af,Ag,Ah,Ai,Aj,Ak],h⟩ (zAu 0 (seqK Tryz.prog (evC Tryz.prog) c113_2 (zBb Tryz.f113 Tryz.prog h0))) =
   fin h0 (some (.int .i64 ((k-1+sizeN n:Nat):Int))) h:=by
 induction n using Nat.strongRecOn with
 | _ n ih=>
  intro k Ab Ac Ae Af Ag Ah Ai Aj Ak hk hk0
  rw[zBe evC_m,c113_1_eq]
  simp only[bin_geq,Option.bind_some,cnd_dec]
  split
  ·rename_i hge
   have hge:128<=n:=by omega
   rw[bin_shr _ _ _ _ _ _ _ (by omega)]
   simp only[Option.bind_some,bin_add,againK_normal]
   have e3:sizeN n=sizeN (n / 128)+1:=by rw[sizeN,if_neg (by omega)]
   have e1:Int.fdiv (n:Int) (2^min (Int.toNat 7) IntKind.u64.bits)=((n / 128:Nat):Int):=fdiv_128 n
   have e2:IntKind.wrap .i64 ((k:Int)+1)=((k+1:Nat):Int):=by rw[wrap_i64]<;>omega
   rw[e1,e2,ih (n / 128) (by omega) (k+1) _ _ _ _ _ _ _ _ _ (by omega) (by omega)]
   have e4:k+1-1+sizeN (n / 128)=k-1+sizeN n:=by omega
   rw[e4]
  ·rename_i hlt
   have hlt:n<128:=by omega
   simp only[againK_exit,blockK_same,seqK_normal]
   rw[c113_2_eq,ret113]
   have e3:k-1+sizeN n=k:=by rw[sizeN,if_pos hlt];omega
   rw[e3]
theorem spec_Size (n:Nat) (hn:n<2^64) (h:Heap):evC Tryz.prog 113 #[.int .u64 n] h=some (.int .i64 (sizeN n),h):=by
 rw[call113,c113_0_eq]
 have:=size_loop h (nm h) n 1 undef (Go.Value.int Go.IntKind.i64 0) undef undef undef undef undef undef undef (by have:=sizeN_le n 10 (by omega) (by omega);omega) (by omega)
 simp only[Nat.sub_self,Nat.zero_add] at this
 exact this.trans (fin_same _ _)
end Go.Am
namespace Go.Am
open Go.Proofs
def putL (n:Nat):List UInt8:=if n<128 then [UInt8.ofNat n] else UInt8.ofNat (n % 128+128)::putL (n / 128)
theorem putL_len (n:Nat):(putL n).length=sizeN n:=by
 induction n using Nat.strongRecOn with
 | _ n ih=>
  rw[putL,sizeN]
  split
  ·rfl
  ·rw[List.length_cons,ih (n / 128) (by omega)]
theorem etB:ElemT Tryz.prog 35 5 1 1 (.int .u8 0):=⟨by kernel_rfl,by kernel_rfl,by kernel_rfl,by kernel_rfl,by omega,rfl,rfl⟩
theorem bs1 (k:IntKind) (m:Int) (h:Heap):zAi Tryz.prog 35 1 #[(0,.int k m)] h=some (.slice (some ⟨h.blks.length,0,none⟩) 1 1,h.new (.cells [.int k m]) 5):=by kernel_rfl
theorem conv_22_5 (k:IntKind) (n:Int) (h:Heap):convV Tryz.prog 30 5 (.int k n) h=some (.int .u8 (IntKind.wrap .u8 n),h):=conv_int (ks:=.u64) (by kernel_rfl) (by kernel_rfl) k n h
theorem or128 (x:Fin 256):(IntKind.wrap .u8 ((BitVec.ofInt 8 (x.val:Int) ||| BitVec.ofInt 8 128).toNat:Int))=((x.val % 128+128:Nat):Int):=by
 revert x;decide +kernel
theorem bin_or (P:Program) (t:TypeId) (xo yo:Operand) (k:IntKind) (a b:Int):zBk P .or t xo yo (.int k a) (.int k b)=some (.int k (k.wrap ((BitVec.ofInt k.bits a ||| BitVec.ofInt k.bits b).toNat))):=
 bin_int t xo yo k k a b .or rfl (by simp[eqGuard,Go.binOp,Op.intBits])
theorem wrap8 (n:Nat):IntKind.wrap .u8 (n:Int)=((n % 256:Nat):Int):=by simp only[IntKind.wrap,IntKind.bits,IntKind.signed];simp
theorem or_byte (t:TypeId) (xo yo:Operand) (n:Nat):zBk Tryz.prog .or t xo yo (.int .u8 (IntKind.wrap .u8 (n:Int))) (.int .u8 128)=some (byteV (UInt8.ofNat (n % 128+128))):=by
 rw[bin_or,wrap8]
 have:=or128 ⟨n % 256,by omega⟩
 simp only at this
 show some (Value.int .u8 (IntKind.wrap .u8 ((BitVec.ofInt 8 ((n % 256:Nat):Int) ||| BitVec.ofInt 8 128).toNat)))=_
 rw[this]
 unfold byteV
 have e:(UInt8.ofNat (n % 128+128)).toNat=n % 256 % 128+128:=by simp;omega
 rw[e]
theorem small_byte (n:Nat):Value.int .u8 (IntKind.wrap .u8 (n:Int))=byteV (UInt8.ofNat n):=by
 rw[wrap8];unfold byteV
 have e:(UInt8.ofNat n).toNat=n % 256:=by simp
 rw[e]
theorem app1 {n0:Nat} {h:Heap} (hn0:n0<=h.blks.length) {v:Value} {n:Nat} {cs:List Value} (ha:Acc n0 h 5 1 v n cs) (hn:n<2^40) (b:UInt8) :
  ∃v' h',zBh Tryz.prog 35 (some 35) v (.slice (some ⟨h.blks.length,0,none⟩) 1 1) (h.new (.cells [byteV b]) 5)=some (v',h')/\Acc n0 h' 5 1 v' (n+1) (cs++[byteV b])/\Keeps n0 h h':=by
 have ha':Acc n0 (h.new (.cells [byteV b]) 5) 5 1 v n cs:=ha.keep fun b hb _=>Heap.new_old hb
 have hr:Row (h.new (.cells [byteV b]) 5) 1 (.slice (some ⟨h.blks.length,0,none⟩) 1 1) 1 [byteV b]:=.mk (by simp[Heap.loadN,Heap.cells?,Heap.new])
 obtain ⟨v',h',h1,h2,h3,h4,h5⟩:=append_acc etB (t1:=some 35) (n0:=n0) (by simp[Heap.new];omega) ha' (newsV_row etB.under hr) (by simp) (by omega) (by omega) (by simp[byteV,Value.oneCell'])
 exact ⟨v',h',h1,h2,(Keeps.new hn0 _ _).trans h3⟩
theorem put_loop (h0:Heap) (n:Nat):∀(h:Heap) (v:Value) (k:Nat) (cs:List Value) (Aa Ac Ad Ae Ag Ah Ai Aj Ak Al An Ao Ap Aq Ar As Au Av Aw Ax Ay:Value),
  k+sizeN n<2^40->Keeps h0.blks.length (nm h0) h->Acc h0.blks.length h 5 1 v k cs->
  ∃v' h',loopK Tryz.prog (evC Tryz.prog) c99_1 ⟨#[Aa,.int .u64 n,Ac,Ad,Ae,v,Ag,Ah,Ai,Aj,Ak,Al,An,Ao,Ap,Aq,Ar,As,Au,Av,Aw,Ax,Ay],h⟩ (zAu 0 (seqK Tryz.prog (evC Tryz.prog) c99_2 (zBb Tryz.f99 Tryz.prog h0))) =
   some (v',h')/\HExt h0 h'/\Acc h0.blks.length h' 5 1 v' (k+sizeN n) (cs++(putL n).map byteV):=by
 induction n using Nat.strongRecOn with
 | _ n ih=>
  intro h v k cs Aa Ac Ad Ae Ag Ah Ai Aj Ak Al An Ao Ap Aq Ar As Au Av Aw Ax Ay hk hkeep ha
  have hle:h0.blks.length<=h.blks.length:=hkeep.len
  rw[zBe evC_m,c99_1_eq]
  simp only[bin_geq,Option.bind_some,cnd_dec]
  by_cases hge:128<=n
  ·rw[if_pos (by omega)]
   simp only[conv_22_5,zAa,or_byte,Option.bind_some]
   obtain ⟨v',h',e1,e2,e3⟩:=app1 hle ha (by omega) (UInt8.ofNat (n % 128+128))
   rw[show byteV (UInt8.ofNat (n % 128+128))=.int .u8 ((UInt8.ofNat (n % 128+128)).toNat:Int) from rfl] at e1
   rw[show byteV (UInt8.ofNat (n % 128+128))=.int .u8 ((UInt8.ofNat (n % 128+128)).toNat:Int) from rfl,bs1]
   simp only[zAa]
   rw[e1,bin_shr _ _ _ _ _ _ _ (by omega)]
   simp only[zAa,Option.bind_some,againK_normal]
   have f1:Int.fdiv (n:Int) (2^min (Int.toNat 7) IntKind.u64.bits)=((n / 128:Nat):Int):=fdiv_128 n
   have f3:sizeN n=sizeN (n / 128)+1:=by rw[sizeN,if_neg (by omega)]
   rw[f1]
   obtain ⟨v2,h2,g1,g2,g3⟩:=ih (n / 128) (by omega) h' v' (k+1) _ Aa Ac Ad Ae Ag Ah _ _ _ _ _ _ _ _ _ _ _ _ _ _ _ (by omega) (hkeep.trans e3) e2
   refine ⟨v2,h2,g1,g2,?_⟩
   have f4:k+sizeN n=k+1+sizeN (n / 128):=by omega
   have f5:cs++(putL n).map byteV=cs++[byteV (UInt8.ofNat (n % 128+128))]++(putL (n / 128)).map byteV:=by
    rw[putL,if_neg (by omega)];simp
   rw[f4,f5];exact g3
  ·rw[if_neg (by omega)]
   simp only[againK_exit,blockK_same,seqK_normal]
   rw[c99_2_eq]
   simp only[conv_22_5,zAa,bs1]
   obtain ⟨v',h',e1,e2,e3⟩:=app1 hle ha (by omega) (UInt8.ofNat n)
   rw[<-small_byte n] at e1 e2
   rw[e1]
   simp only[zAa]
   rw[ret99,zBj]
   refine ⟨_,_,rfl,done_ext (hkeep.trans e3),?_⟩
   have f3:sizeN n=1:=by rw[sizeN,if_pos (by omega)]
   have f5:(putL n).map byteV=[byteV (UInt8.ofNat n)]:=by rw[putL,if_pos (by omega)];rfl
   rw[f3,f5,<-small_byte n]
   exact e2.keep fun _ _ _=>rfl
theorem spec_Put (n:Nat) (hn:n<2^64) (h:Heap) (b:Value) (k:Nat) (cs:List Value) (hb:Row h 1 b k cs) (hk:k<2^39) (hone:cs.all Value.oneCell'=true) :
  ∃v' h',evC Tryz.prog 99 #[b,.int .u64 n] h=some (v',h')/\HExt h h'/\Acc h.blks.length h' 5 1 v' (k+sizeN n) (cs++(putL n).map byteV):=by
 rw[call99,c99_0_eq]
 have hs:=sizeN_le n 10 (by omega) (by omega)
 have hr:Row (nm h) 1 b k cs:=hb.keep fun _ _ _=>rfl
 obtain ⟨v',h',h1,h2,h3,h4,h5⟩:=append_acc etB (t1:=some 35) (n0:=h.blks.length) (h:=nm h) (Nat.le_refl _) .nil (newsV_row etB.under hr) (by simpa using hr.len) (by omega) (by omega) hone
 rw[h1]
 simp only[zAa]
 obtain ⟨v2,h2',g1,g2,g3⟩:=put_loop h n h' v' (0+k) _ b undef undef (Go.Value.slice Option.none 0 0) b v' undef undef undef undef undef undef undef undef undef undef undef undef undef undef undef (by omega) h3 h2
 exact ⟨v2,h2',g1,g2,by simpa using g3⟩
end Go.Am
namespace Go.Am
open Go.Proofs
def getLoop (n i:Nat):List UInt8->Nat × Nat
 | []=>(0,0)
 | c::l=>
  if i=10 then (0,0)
  else
   let n':=n ||| (c.toNat % 128*2^(7*i)) % 2^64
   if c.toNat<128 then (if sizeN n'≠i+1\/(i=9/\c.toNat>1) then (0,0) else (n',i+1)) else getLoop n' (i+1) l
def getL (l:List UInt8):Nat × Nat:=getLoop 0 0 l
theorem wrap64 (n:Nat):IntKind.wrap .u64 (n:Int)=((n % 2^64:Nat):Int):=by simp only[IntKind.wrap,IntKind.bits,IntKind.signed];simp
theorem or64 (P:Program) (t:TypeId) (xo yo:Operand) (a b:Nat) (ha:a<2^64) (hb:b<2^64):zBk P .or t xo yo (.int .u64 a) (.int .u64 b)=some (.int .u64 ((a ||| b:Nat):Int)):=by
 rw[bin_or]
 have e:(BitVec.ofInt IntKind.u64.bits (a:Int) ||| BitVec.ofInt IntKind.u64.bits (b:Int)).toNat=a ||| b:=by
  show (BitVec.ofInt 64 (a:Int) ||| BitVec.ofInt 64 (b:Int)).toNat=a ||| b
  rw[BitVec.toNat_or]
  simp
  rw[Nat.mod_eq_of_lt ha,Nat.mod_eq_of_lt hb]
 rw[e,wrap64,Nat.mod_eq_of_lt (Nat.or_lt_two_pow ha hb)]
theorem and127 (x:Fin 256):(IntKind.wrap .u8 ((BitVec.ofInt 8 (x.val:Int) &&& BitVec.ofInt 8 127).toNat:Int))=((x.val % 128:Nat):Int):=by
 revert x;decide +kernel
theorem bin_and (P:Program) (t:TypeId) (xo yo:Operand) (k:IntKind) (a b:Int):zBk P .and t xo yo (.int k a) (.int k b)=some (.int k (k.wrap ((BitVec.ofInt k.bits a &&& BitVec.ofInt k.bits b).toNat))):=
 bin_int t xo yo k k a b .and rfl (by simp[eqGuard,Go.binOp,Op.intBits])
theorem and_byte (P:Program) (t:TypeId) (xo yo:Operand) (c:UInt8):zBk P .and t xo yo (byteV c) (.int .u8 127)=some (.int .u8 ((c.toNat % 128:Nat):Int)):=by
 unfold byteV
 rw[bin_and]
 have:=and127 ⟨c.toNat,UInt8.toNat_lt c⟩
 simp only at this
 show some (Value.int .u8 (IntKind.wrap .u8 ((BitVec.ofInt 8 (c.toNat:Int) &&& BitVec.ofInt 8 127).toNat)))=_
 rw[this]
theorem conv_5_22 (n:Nat) (hn:n<256) (h:Heap):convV Tryz.prog 5 30 (.int .u8 n) h=some (.int .u64 n,h):=by
 rw[conv_int (ks:=.u8) (kd:=.u64) (by kernel_rfl) (by kernel_rfl),wrap64,Nat.mod_eq_of_lt (by omega)]
theorem shl64 (a i:Nat) (hi:i<=9):IntKind.wrap .u64 ((a:Int)*2^min ((7*i:Nat):Int).toNat IntKind.u64.bits)=((a*2^(7*i) % 2^64:Nat):Int):=by
 have e:min ((7*i:Nat):Int).toNat IntKind.u64.bits=7*i:=by
  show min ((7*i:Nat):Int).toNat 64=7*i
  omega
 have e2:(a:Int)*2^(7*i)=((a*2^(7*i):Nat):Int):=by push_cast;rfl
 rw[e,e2,wrap64]
theorem get_loop (h0 h:Heap) (v:Value) (bs:List UInt8) (hr:Row h 1 v bs.length (bs.map byteV)) (hk:Keeps h0.blks.length (nm h0) h) (hb:bs.length<2^40):∀(m i n:Nat),bs.length-i=m->i<=bs.length->n<2^64->i<=10->
  ∀(Aa Ab Ad Ae Af Aj Ak Al An Ao Ap Aq Ar As Au Av Aw Ax Ay Az Ba Bb Bc Bd Be Bf Bg Bh Bi Bj Bk Bl Bm Bn Bo Bp Bq Br:Value),
  loopK Tryz.prog (evC Tryz.prog) c96_1 ⟨#[Aa,Ab,.int .u64 n,Ad,Ae,Af,v,.int .i64 bs.length,.int .i64 i,Aj,Ak,Al,An,Ao,Ap,Aq,Ar,As,Au,Av,Aw,Ax,Ay,Az,Ba,Bb,Bc,Bd,Be,Bf,Bg,Bh,Bi,Bj,Bk,Bl,Bm,Bn,Bo,Bp,Bq,Br],h⟩ (zAu 0 (seqK Tryz.prog (evC Tryz.prog) c96_2 (zBb Tryz.f96 Tryz.prog h0))) =
   some (.tuple #[.int .u64 (getLoop n i (bs.drop i)).1,.int .i64 (getLoop n i (bs.drop i)).2],done h0 h):=by
 intro m
 induction m with
 | zero=>
  intro i n hm hi hn hi10 Aa Ab Ad Ae Af Aj Ak Al An Ao Ap Aq Ar As Au Av Aw Ax Ay Az Ba Bb Bc Bd Be Bf Bg Bh Bi Bj Bk Bl Bm Bn Bo Bp Bq Br
  rw[zBe evC_m,c96_1_eq]
  simp only[bin_lss,Option.bind_some,cnd_dec]
  rw[if_neg (by omega)]
  simp only[againK_exit,blockK_same,seqK_normal]
  rw[c96_2_eq,ret96,zBj,List.drop_of_length_le (by omega)]
  rfl
 | succ m ih=>
  intro i n hm hi hn hi10 Aa Ab Ad Ae Af Aj Ak Al An Ao Ap Aq Ar As Au Av Aw Ax Ay Az Ba Bb Bc Bd Be Bf Bg Bh Bi Bj Bk Bl Bm Bn Bo Bp Bq Br
  have hlt:i<bs.length:=by omega
  rw[zBe evC_m,c96_1_eq]
  simp only[bin_lss,Option.bind_some,cnd_dec]
  rw[if_pos (by omega)]
  obtain ⟨a,e1,e2,_⟩:=hr.at1 etB.under etB.size (by kernel_rfl) hlt .i64
  have e3:(bs.map byteV)[i]?=some (byteV bs[i]):=by simp[hlt]
  rw[e3] at e2
  have ed:bs.drop i=bs[i]::bs.drop (i+1):=List.drop_eq_getElem_cons hlt
  rw[e1]
  simp only[Option.bind_some,e2,bin_eql,cnd_dec]
  generalize bs[i]=c at *
  by_cases h10:i=10
  ·rw[if_pos (by omega)]
   simp only[againK_exit,blockK_same,seqK_normal]
   rw[c96_2_eq,ret96,zBj,ed,getLoop,if_pos h10]
   rfl
  ·rw[if_neg (by omega)]
   have hc:=UInt8.toNat_lt c
   have hm7:IntKind.wrap .i64 (7*(i:Int))=((7*i:Nat):Int):=by rw[wrap_i64]<;>omega
   have hsh:=shl64 (c.toNat % 128) i (by omega)
   have hn':n ||| (c.toNat % 128*2^(7*i)) % 2^64<2^64:=Nat.or_lt_two_pow hn (Nat.mod_lt _ (by omega))
   have hl1:IntKind.wrap .i64 ((i:Int)+1)=((i+1:Nat):Int):=by rw[wrap_i64]<;>omega
   simp only[and_byte,Option.bind_some,conv_5_22 _ (show c.toNat % 128<256 by omega),zAa,bin_mul,hm7,bin_shl _ _ _ _ _ _ _ (show (0:Int)<=((7*i:Nat):Int) by omega),hsh,
    or64 _ _ _ _ _ _ hn (Nat.mod_lt (c.toNat % 128*2^(7*i)) (show 0<2^64 by omega))]
   simp only[byteV,bin_lss,Option.bind_some,cnd_dec]
   rw[ed,getLoop,if_neg h10]
   simp only[]
   generalize n ||| (c.toNat % 128*2^(7*i)) % 2^64=n' at *
   by_cases h128:c.toNat<128
   ·rw[if_pos (by omega),if_pos h128]
    rw[spec_Size n' hn' h]
    simp only[zAa,bin_add,Option.bind_some,hl1,bin_neq]
    by_cases hs:sizeN n'=i+1
    ·have hd:decide (((sizeN n':Nat):Int)≠((i+1:Nat):Int))=false:=decide_eq_false (by omega)
     rw[hd]
     simp only[wt_ff]
     simp only[gd_true,gdV_true]
     rw[bin_eql,Option.bind_some]
     by_cases h9:i=9
     ·have hd9:decide ((i:Int)=9)=true:=decide_eq_true (by omega)
      rw[hd9]
      simp only[wt_tt]
      simp only[gd_true,gdV_true]
      rw[bin_gtr,Option.bind_some]
      by_cases hc1:c.toNat>1
      ·have hdc:decide ((c.toNat:Int)>1)=true:=decide_eq_true (by omega)
       simp only[hdc,pickV_true,pickV_false,zAc,Option.bind_some,againK_exit,blockK_same,seqK_normal]
       rw[c96_2_eq,ret96,zBj,if_pos (.inr ⟨h9,hc1⟩)]
       rfl
      ·have hdc:decide ((c.toNat:Int)>1)=false:=decide_eq_false (by omega)
       simp only[hdc,pickV_true,pickV_false,zAb,Option.bind_some,againK_ret,blockK_ret,seqK_ret,bin_add,hl1]
       rw[ret96,zBj,if_neg (by omega)]
     ·have hd9:decide ((i:Int)=9)=false:=decide_eq_false (by omega)
      simp only[hd9,wt_ft,gd_false,gdV_false,pickV_true,pickV_false,zAb,Option.bind_some,againK_ret,blockK_ret,seqK_ret,bin_add,hl1]
      rw[ret96,zBj,if_neg (by omega)]
    ·have hd:decide (((sizeN n':Nat):Int)≠((i+1:Nat):Int))=true:=decide_eq_true (by omega)
     simp only[hd,wt_tf,wt_undef,gd_false,gdV_false,pickV_true,zAc,Option.bind_some,againK_exit,blockK_same,seqK_normal]
     rw[c96_2_eq,ret96,zBj,if_pos (.inl hs)]
     rfl
   ·rw[if_neg (by omega),if_neg h128]
    simp only[bin_add,Option.bind_some,hl1,againK_normal]
    exact ih (i+1) n' (by omega) (by omega) hn' (by omega) _ _ _ _ _ _ _ _ _ _ _ _ _ _ _ _ _ _ _ _ _ _ _ _ _ _ _ _ _ _ _ _ _ _ _ _ _ _
theorem spec_Get (h:Heap) (v:Value) (bs:List UInt8) (hr:Row h 1 v bs.length (bs.map byteV)) (hb:bs.length<2^40) :
  evC Tryz.prog 96 #[v] h=some (.tuple #[.int .u64 (getL bs).1,.int .i64 (getL bs).2],h):=by
 rw[call96,c96_0_eq,(show Row (nm h) 1 v bs.length (bs.map byteV) from hr.keep fun _ _ _=>rfl).len_eq etB.under]
 simp only[Option.bind_some]
 have:=get_loop h (nm h) v bs (hr.keep fun _ _ _=>rfl) (Keeps.refl (Nat.le_refl _)) hb bs.length 0 0 (by omega) (by omega) (by omega) (by omega) v undef (Go.Value.int Go.IntKind.i64 0) undef undef undef undef undef undef undef undef undef undef undef undef undef undef undef undef undef undef undef undef undef undef undef undef undef undef undef undef undef undef undef undef undef undef undef
 exact this
end Go.Am
namespace Go.Am
open Go.Proofs
theorem ldB (p o:Nat) (h:Heap):zAw Tryz.prog 35 (.pointer (some ⟨p,o,none⟩)) h=h.load1 p o:=by kernel_rfl
theorem ldBool (p o:Nat) (h:Heap):zAw Tryz.prog 4 (.pointer (some ⟨p,o,none⟩)) h=h.load1 p o:=by kernel_rfl
theorem ldInt (p o:Nat) (h:Heap):zAw Tryz.prog 3 (.pointer (some ⟨p,o,none⟩)) h=h.load1 p o:=by kernel_rfl
theorem stB (p o:Nat) (a:Option Addr) (n c:Nat) (h:Heap):zBc Tryz.prog 35 (.pointer (some ⟨p,o,none⟩)) (.slice a n c) h=h.storeN p o [.slice a n c]:=by kernel_rfl
theorem stBool (p o:Nat) (b:Bool) (h:Heap):zBc Tryz.prog 4 (.pointer (some ⟨p,o,none⟩)) (.bool b) h=h.storeN p o [.bool b]:=by kernel_rfl
theorem nilB (xo yo:Operand):zBk Tryz.prog .eql 35 xo yo (.slice none 0 0) (.slice none 0 0)=some (.bool true):=by kernel_rfl
theorem mkB0 (h:Heap):zAi Tryz.prog 35 0 #[] h=some (.slice (some ⟨h.blks.length,0,none⟩) 0 0,h.new (.cells []) 5):=by kernel_rfl
theorem cvI64 (n:Int) (h:Heap) (h0:0<=n) (h1:n<2^63):convV Tryz.prog 3 30 (.int .i64 n) h=some (.int .u64 n,h):=conv_u64 (ks:=.i64) (by kernel_rfl) (by kernel_rfl) _ _ _ h0 (by omega)
theorem cvU64 (n:Int) (h:Heap) (h0:0<=n) (h1:n<2^63):convV Tryz.prog 30 3 (.int .u64 n) h=some (.int .i64 n,h):=conv_i64 (ks:=.u64) (by kernel_rfl) (by kernel_rfl) _ _ _ (by omega) h1
abbrev SB (h:Heap) (v:Value) (bs:List UInt8):Prop:=Sl Tryz.prog h 1 v bs.length (bs.map byteV)
abbrev AB (n0:Nat) (h:Heap) (v:Value) (bs:List UInt8):Prop:=Acc n0 h 5 1 v bs.length (bs.map byteV)
theorem AB.sb {n0:Nat} {h:Heap} {v:Value} {bs:List UInt8} (a:AB n0 h v bs):SB h v bs:=a.sl etB.size
theorem bytes_one (bs:List UInt8):(bs.map byteV).all Value.oneCell'=true:=by
 rw[List.all_map,List.all_eq_true];intro x _;rfl
theorem AB.empty (n0:Nat) (h:Heap) (hn:n0<=h.blks.length):AB n0 (h.new (.cells []) 5) (.slice (some ⟨h.blks.length,0,none⟩) 0 0) []:=.full (all:=[]) hn (by omega) (zBn _ _ _) (by simp) rfl
theorem app_bytes {n0:Nat} {h:Heap} (hn0:n0<=h.blks.length) {v x:Value} {bs cs:List UInt8} (ha:AB n0 h v bs) (hx:SB h x cs) (hl:bs.length+cs.length<2^44) :
  ∃a c h',zBh Tryz.prog 35 (some 35) v x h=some (.slice a (bs++cs).length c,h')/\AB n0 h' (.slice a (bs++cs).length c) (bs++cs)/\Keeps n0 h h'/\(∀b,b<h.blks.length->zAn v≠some b->h'.blks[b]?=h.blks[b]?) ∧
   (.slice a (bs++cs).length c=v/\h'=h\/zAn (.slice a (bs++cs).length c)=some h.blks.length/\h.blks.length<h'.blks.length):=by
 obtain ⟨v',h',e1,e2,e3,e4,e5⟩:=append_acc etB (t1:=some 35) hn0 ha (newsV_row etB.under hx.row) (by simpa using hx.len) (by omega) (by omega) (bytes_one cs)
 obtain ⟨a,c,rfl⟩:=e2.shape
 rw[<-List.length_append] at e1 e2 e5
 rw[<-List.map_append] at e2
 exact ⟨a,c,h',e1,e2,e3,e4,e5⟩
theorem sl_mid {h:Heap} {v:Value} {bs:List UInt8} (s:SB h v bs) {i j:Nat} (hij:i<=j) (hj:j<=bs.length) {lo hi:Option Value} (hlo:lo.elim (some 0) natOf?=some i) (hhi:hi.elim (some bs.length) natOf?=some j) :
  ∃a c,sliceV Tryz.prog 35 v lo hi none h=some (.slice a ((bs.drop i).take (j-i)).length c)/\SB h (.slice a ((bs.drop i).take (j-i)).length c) ((bs.drop i).take (j-i))/\zAn (.slice a ((bs.drop i).take (j-i)).length c)=zAn v:=by
 obtain ⟨v3,e3,s3,b3⟩:=s.sub etB.under etB.size hij hj hlo hhi
 obtain ⟨a4,c4,rfl⟩:=s3.shape
 have el:((bs.drop i).take (j-i)).length=j-i:=by simp;omega
 rw[Nat.mul_one,Nat.mul_one,<-List.map_drop,<-List.map_take] at s3
 refine ⟨a4,c4,?_⟩
 unfold SB
 rw[el]
 exact ⟨e3,s3,b3⟩
theorem sl_drop {h:Heap} {v:Value} {bs:List UInt8} (s:SB h v bs) {i:Nat} (hi:i<=bs.length) (k:IntKind) :
  ∃a c,sliceV Tryz.prog 35 v (some (.int k i)) none none h=some (.slice a (bs.drop i).length c)/\SB h (.slice a (bs.drop i).length c) (bs.drop i)/\zAn (.slice a (bs.drop i).length c)=zAn v:=by
 have:=sl_mid s (i:=i) (j:=bs.length) hi (Nat.le_refl _) (lo:=some (.int k i)) (hi:=none) (zBq k _) rfl
 rwa [List.take_of_length_le (by simp)] at this
theorem spec_Clone (h:Heap) (x:Value) (bs:List UInt8) (hx:SB h x bs) (hl:bs.length<2^43) :
  ∃a c h',evC Tryz.prog 95 #[x] h=some (.slice a bs.length c,h')/\HExt h h'/\AB h.blks.length h' (.slice a bs.length c) bs:=by
 rw[call95,c95_0_eq]
 rcases hx.inv with ⟨rfl,_,h3⟩ | ⟨b,o,c,rfl,_,_⟩
 ·have:bs=[]:=by simpa using h3
  subst this
  simp -implicitDefEqProofs only[nilB,↓zAc,↓zAb,↓Option.bind_some,↓zAa,sxA]
  rw[ret95,zBj]
  exact ⟨none,0,h,by simp,HExt.refl h,.nil⟩
 ·simp -implicitDefEqProofs only[bin_nil_some (P:=Tryz.prog) (t:=35) etB.under,mkB0,↓zAc,↓zAb,↓Option.bind_some,↓zAa,sxA]
  obtain ⟨a,c',h',e1,e2,e3,e4,e5⟩:=app_bytes (n0:=h.blks.length) (by simp[Heap.new]) (AB.empty h.blks.length (nm h) (by simp)) (hx.nm.keepNew _ _) (by simp;omega)
  rw[e1]
  simp only[zAa]
  rw[ret95,zBj]
  exact ⟨a,c',_,rfl,zAl ((In.new (S:=No) (by simp) _ _).trans e3.inn),e2.done⟩
theorem spec_PutB (n:Nat) (hn:n<2^64) (h:Heap) (b:Value) (bs:List UInt8) (hb:SB h b bs) (hk:bs.length<2^39) :
  ∃a c h',evC Tryz.prog 99 #[b,.int .u64 n] h=some (.slice a (bs++putL n).length c,h')/\HExt h h'/\AB h.blks.length h' (.slice a (bs++putL n).length c) (bs++putL n):=by
 obtain ⟨v,h',e1,e2,e3⟩:=spec_Put n hn h b _ _ hb.row hk (bytes_one bs)
 obtain ⟨a,c,rfl⟩:=e3.shape
 rw[<-putL_len,<-List.length_append] at e1 e3
 rw[<-List.map_append] at e3
 exact ⟨a,c,h',e1,e2,e3⟩
end Go.Am
namespace Go.Am
open Go.Proofs
set_option maxRecDepth 100000
theorem etU:ElemT Tryz.prog 29 30 1 8 (.int .u64 0):=⟨by kernel_rfl,by kernel_rfl,by kernel_rfl,by kernel_rfl,by omega,rfl,rfl⟩
theorem vld64 (p o:Nat) (h:Heap):zAw Tryz.prog 30 (.pointer (some ⟨p,o,none⟩)) h=h.load1 p o:=by kernel_rfl
theorem vst64 (p o:Nat) (k:IntKind) (n:Int) (h:Heap):zBc Tryz.prog 30 (.pointer (some ⟨p,o,none⟩)) (.int k n) h=h.storeN p o [.int k n]:=by kernel_rfl
abbrev SU (h:Heap) (v:Value) (ns:List Nat):Prop:=Sl Tryz.prog h 1 v ns.length (ns.map u64V)
abbrev AU (n0:Nat) (h:Heap) (v:Value) (ns:List Nat):Prop:=Acc n0 h 30 1 v ns.length (ns.map u64V)
theorem AU.su {n0:Nat} {h:Heap} {v:Value} {ns:List Nat} (a:AU n0 h v ns):SU h v ns:=a.sl etU.size
theorem nums_one (ns:List Nat):(ns.map u64V).all Value.oneCell'=true:=by
 rw[List.all_map,List.all_eq_true];intro x _;rfl
theorem AU.lit {n0:Nat} {h:Heap} (hn:n0<=h.blks.length) (ns:List Nat) (hl:ns.length<2^62):AU n0 (h.new (.cells (ns.map u64V)) 30) (.slice (some ⟨h.blks.length,0,none⟩) ns.length ns.length) ns:=
 .full hn hl (zBn _ _ _) (by simp) (by rw[List.drop_zero,List.take_of_length_le (by simp)])
theorem app_nums {t t1:TypeId} (et:ElemT Tryz.prog t 30 1 8 (.int .u64 0)) (et1:Tryz.prog.underlying t1=some (.slice 30)) {n0:Nat} {h:Heap} (hn0:n0<=h.blks.length) {v x:Value} {bs cs:List Nat} (ha:AU n0 h v bs) (hx:SU h x cs) (hl:bs.length+cs.length<2^40) :
  ∃a c h',zBh Tryz.prog t (some t1) v x h=some (.slice a (bs++cs).length c,h')/\AU n0 h' (.slice a (bs++cs).length c) (bs++cs)/\Keeps n0 h h'/\(∀b,b<h.blks.length->zAn v≠some b->h'.blks[b]?=h.blks[b]?):=by
 obtain ⟨v',h',e1,e2,e3,e4,e5⟩:=append_acc et (t1:=some t1) hn0 ha (newsV_row et1 hx.row) (by simp) (by omega) (by omega) (nums_one cs)
 obtain ⟨a,c,rfl⟩:=e2.shape
 rw[<-List.length_append] at e1 e2
 rw[<-List.map_append] at e2
 exact ⟨a,c,h',e1,e2,e3,e4⟩
theorem getD_lt (ns:List Nat) (h:∀n∈ns,n<2^64) (i:Nat):ns.getD i 0<2^64:=by
 rw[List.getD_eq_getElem?_getD]
 cases e:ns[i]? with
 | none=>simp
 | some x=>exact h x (List.mem_of_getElem? e)
theorem map_get (ns:List Nat) {i:Nat} (hi:i<ns.length):(ns.map u64V)[i]?=some (.int .u64 (ns.getD i 0:Nat)):=by
 rw[List.getElem?_map,List.getElem?_eq_getElem hi,List.getD_eq_getElem?_getD,List.getElem?_eq_getElem hi];rfl
theorem su_at {h:Heap} {v:Value} {ns:List Nat} (s:SU h v ns) {t:TypeId} (ht:Tryz.prog.underlying t=some (.slice 30)) {i:Nat} (hi:i<ns.length) :
  ∃a,zAh Tryz.prog t v (.int .i64 i)=some (.pointer (some a))/\zAw Tryz.prog 30 (.pointer (some a)) h=some (.int .u64 (ns.getD i 0:Nat)):=by
 obtain ⟨a,e1,e2,_⟩:=s.row.at1 ht etU.size (by kernel_rfl) hi .i64
 rw[map_get ns hi] at e2
 exact ⟨a,e1,e2⟩
end Go.Am
namespace Go.Am
open Go.Proofs
set_option maxRecDepth 100000
set_option linter.all false
attribute [local congr] zAf zAq zAr zAs zAj zAg
theorem vmaxI (a b:Int) (h:Heap):builtinV Tryz.prog .max #[3,3] #[.int .i64 a,.int .i64 b] h=some (.int .i64 (max a b),h):=by
 have e:builtinV Tryz.prog .max #[3,3] #[.int .i64 a,.int .i64 b] h=some (.int .i64 (if b>a then b else a),h):=by kernel_rfl
 rw[e]
 have:(if b>a then b else a)=max a b:=by split<;>omega
 rw[this]
theorem vminI (a b:Int) (h:Heap):builtinV Tryz.prog .min #[3,3] #[.int .i64 a,.int .i64 b] h=some (.int .i64 (min a b),h):=by
 have e:builtinV Tryz.prog .min #[3,3] #[.int .i64 a,.int .i64 b] h=some (.int .i64 (if b<a then b else a),h):=by kernel_rfl
 rw[e]
 have:(if b<a then b else a)=min a b:=by split<;>omega
 rw[this]
theorem In.same0 {h0 h:Heap} (k:In h0.blks.length No (nm h0) h):Same h0 h:=⟨k.len,fun b hb=>k.old b hb id⟩
def hasB (s:Nat) (p:Int):Bool:=decide (0<=p/\p<64) && s.testBit p.toNat
theorem shrN (t:TypeId) (xo yo:Operand) (yk:IntKind) (s p:Nat) (hs:s<2^64) (hp:p<64):zBk Tryz.prog .shr t xo yo (.int .u64 s) (.int yk p)=some (.int .u64 ((s / 2^p:Nat):Int)):=by
 rw[bin_shr64 _ _ _ _ _ _ (by omega) (by omega) (by omega),Int.toNat_natCast,Int.toNat_natCast]
theorem and1 (t:TypeId) (xo yo:Operand) (q:Nat) (hq:q<2^64):zBk Tryz.prog .and t xo yo (.int .u64 q) (.int .u64 1)=some (.int .u64 ((q % 2:Nat):Int)):=by
 rw[bin_and64 _ _ _ _ _ (by omega) (by omega) (by omega) (by omega),Int.toNat_natCast,show (1:Int).toNat=1 from rfl,Nat.and_one_is_mod]
theorem hasB_nat (s p:Nat) (hp:p<64):decide (((s / 2^p % 2:Nat):Int)=1)=hasB s p:=by
 unfold hasB
 rw[decide_eq_true (show 0<=(p:Int)/\(p:Int)<64 by omega),Bool.true_and,Int.toNat_natCast,Nat.testBit_eq_decide_div_mod_eq]
 congr 1
 apply propext
 omega
theorem spec_Has (s:Nat) (hs:s<2^64) (p:Int) (h:Heap):evC Tryz.prog 48 #[.int .u64 s,.int .i64 p] h=some (.bool (hasB s p),h):=by
 rw[call48,c48_0_eq]
 by_cases hc:0<=p/\p<64
 ·obtain ⟨p,rfl⟩:∃m:Nat,p=m:=⟨p.toNat,by omega⟩
  have hq:s / 2^p<2^64:=Nat.lt_of_le_of_lt (Nat.div_le_self ..) hs
  have e1:=fun t xo yo=>shrN t xo yo .i64 s p hs (by omega)
  have e2:=fun t xo yo=>and1 t xo yo (s / 2^p) hq
  simp -implicitDefEqProofs (disch:=omega) only[dcT,dcF,e1,e2,hasB_nat,↓ret48,↓zAc,↓zAb,↓Option.bind_some,↓zAa,sxA]
 ·have e:hasB s p=false:=by unfold hasB;rw[decide_eq_false hc];rfl
  rw[e]
  by_cases h0:0<=p
  ·simp -implicitDefEqProofs (disch:=omega) only[dcT,dcF,↓ret48,↓zAc,↓zAb,↓Option.bind_some,↓zAa,sxA]
  ·simp -implicitDefEqProofs (disch:=omega) only[dcT,dcF,↓ret48,↓zAc,↓zAb,↓Option.bind_some,↓zAa,sxA]
theorem cvUint (n:Int) (h:Heap) (h0:0<=n) (h1:n<2^63):convV Tryz.prog 3 66 (.int .i64 n) h=some (.int .u64 n,h):=conv_u64 (ks:=.i64) (by kernel_rfl) (by kernel_rfl) _ _ _ h0 (by omega)
theorem spec_In (s:Nat) (hs:s<2^64) (p:Int) (h:Heap):evC Tryz.prog 50 #[.int .u64 s,.int .i64 p] h=some (.bool (hasB s p),h):=by
 rw[call50,c50_0_eq]
 by_cases hc:0<=p/\p<64
 ·obtain ⟨p,rfl⟩:∃m:Nat,p=m:=⟨p.toNat,by omega⟩
  have hq:s / 2^p<2^64:=Nat.lt_of_le_of_lt (Nat.div_le_self ..) hs
  have e1:=fun t xo yo=>shrN t xo yo .u64 s p hs (by omega)
  have e2:=fun t xo yo=>and1 t xo yo (s / 2^p) hq
  simp -implicitDefEqProofs (disch:=omega) only[dcT,dcF,cvUint,e1,e2,hasB_nat,↓ret50,↓zAc,↓zAb,↓Option.bind_some,↓zAa,sxA]
 ·have e:hasB s p=false:=by unfold hasB;rw[decide_eq_false hc];rfl
  rw[e]
  by_cases h0:0<=p
  ·simp -implicitDefEqProofs (disch:=omega) only[dcT,dcF,↓ret50,↓zAc,↓zAb,↓Option.bind_some,↓zAa,sxA]
  ·simp -implicitDefEqProofs (disch:=omega) only[dcT,dcF,↓ret50,↓zAc,↓zAb,↓Option.bind_some,↓zAa,sxA]
theorem shl1 (t:TypeId) (xo yo:Operand) (p:Nat) (hp:p<64):zBk Tryz.prog .shl t xo yo (.int .u64 1) (.int .i64 p)=some (.int .u64 ((2^p:Nat):Int)):=by
 have h2:2^p<2^64:=Nat.pow_lt_pow_right (by omega) hp
 rw[bin_shl64 _ _ _ _ _ _ (by omega) (by omega) (by omega),Int.toNat_natCast,show (1:Int).toNat=1 from rfl,Nat.one_mul,Nat.mod_eq_of_lt h2]
def allN (n:Nat):Nat:=2^n-1
theorem spec_All (n:Nat) (hn:n<64) (h:Heap):evC Tryz.prog 31 #[.int .i64 n] h=some (.int .u64 (allN n:Nat),h):=by
 rw[call31,c31_0_eq]
 have hm:min (max (n:Int) 0) 64=n:=by omega
 have e1:=fun t xo yo=>shl1 t xo yo n hn
 have e2:∀t xo yo,zBk Tryz.prog .sub t xo yo (.int .u64 ((2^n:Nat):Int)) (.int .u64 1)=some (.int .u64 (allN n:Nat)):=fun t xo yo=>by
  have h2:2^n<2^64:=Nat.pow_lt_pow_right (by omega) hn
  have h1:1<=2^n:=Nat.one_le_two_pow
  rw[bin_sub,show ((2^n:Nat):Int)-1=(allN n:Nat) by unfold allN;omega,wrap_u64_nat,Nat.mod_eq_of_lt (by unfold allN;omega)]
 simp -implicitDefEqProofs only[vmaxI,vminI,hm,e1,e2,↓ret31,↓zAc,↓zAb,↓Option.bind_some,↓zAa,sxA]
theorem HExt.amx {h h':Heap} (e:HExt (nm h) h'):HExt h (am h' h)/\h'.mods=[]:=⟨⟨e.len,e.old,by rw[am_mods,e.mods];rfl⟩,e.mods⟩
theorem Acc.blk {n0:Nat} {h:Heap} {elem:TypeId} {es n:Nat} {v:Value} {cs:List Value} (a:Acc n0 h elem es v n cs) {b:Nat} (hb:zAn v=some b):∃all,h.blks[b]?=some ⟨.cells all,elem,true⟩:=by
 cases a with
 | nil=>cases hb
 | full _ _ h1 _ _=>cases hb;exact ⟨_,h1⟩
 | unk _ h1 _ _=>cases hb;exact ⟨_,h1⟩
end Go.Am
namespace Go.Am
open Go.Proofs
set_option maxRecDepth 100000
set_option linter.all false
theorem All2.length_eq {α β:Type} {R:α->β->Prop} {l:List α} {m:List β} (h:All2 R l m):l.length=m.length:=by
 induction h with
 | nil=>rfl
 | cons _ _ ih=>simp[ih]
theorem app_out {t eo:TypeId} (et:ElemT Tryz.prog t eo 1 24 (.slice none 0 0)) {n0:Nat} {h:Heap} (hn0:n0<=h.blks.length) {w:Value} {cs:List Value} (ac:Acc n0 h eo 1 w cs.length cs) (a:Option Addr) (l c:Nat) (hl:cs.length<2^38) :
  ∃a' c' h',zBh Tryz.prog t (some t) w (.slice (some ⟨h.blks.length,0,none⟩) 1 1) (h.new (.cells [.slice a l c]) eo)=some (.slice a' (cs++[Value.slice a l c]).length c',h')/\Acc n0 h' eo 1 (.slice a' (cs++[Value.slice a l c]).length c') (cs++[Value.slice a l c]).length (cs++[Value.slice a l c])/\Keeps n0 h h'/\(∀p ty cs,Cells h p ty cs->ty≠eo->Cells h' p ty cs):=by
 have A2:Acc n0 (h.new (.cells [.slice a l c]) eo) eo 1 w cs.length cs:=ac.keep fun b hb _=>Heap.new_old hb
 have hrow:Row (h.new (.cells [.slice a l c]) eo) 1 (.slice (some ⟨h.blks.length,0,none⟩) 1 1) 1 [.slice a l c]:=.mk (loadN_blk (zBn _ _ _) rfl)
 obtain ⟨v',h',e1,e2,e3,e4,e5⟩:=append_acc et (t1:=some t) (n0:=n0) (by simp[Heap.new];omega) A2 (newsV_row et.under hrow) (by simp) (by omega) (by omega) (by simp[Value.oneCell'])
 obtain ⟨a',c',rfl⟩:=e2.shape
 have el:cs.length+1=(cs++[Value.slice a l c]).length:=by simp
 rw[el] at e1 e2
 refine ⟨a',c',h',e1,e2,(Keeps.new hn0 _ _).trans e3,fun p ty cs' hp ht=>?_⟩
 have hp':Cells (h.new (.cells [.slice a l c]) eo) p ty cs':=hp.keepNew _ _
 refine (e4 p hp'.lt fun e=>?_).trans hp'
 obtain ⟨all,x⟩:=A2.blk e
 unfold Cells at hp'
 rw[hp'] at x
 simp only[Option.some.injEq,Blk.mk.injEq] at x
 exact ht x.2.1
variable {L:Nat} {h h':Heap}
theorem etBs:ElemT Tryz.prog 34 35 1 24 (.slice none 0 0):=⟨by kernel_rfl,by kernel_rfl,by kernel_rfl,by kernel_rfl,by omega,rfl,rfl⟩
theorem mkBs1 (a:Option Addr) (n c:Nat) (h:Heap):zAi Tryz.prog 34 1 #[(0,.slice a n c)] h=some (.slice (some ⟨h.blks.length,0,none⟩) 1 1,h.new (.cells [.slice a n c]) 35):=by kernel_rfl
structure ABv (n0:Nat) (h:Heap) (v:Value) (vs:List Value) (l:List (List UInt8)):Prop where
 out:Acc n0 h 35 1 v l.length vs
 rows:All2 (AB n0 h) vs l
def ABs (n0:Nat) (h:Heap) (v:Value) (l:List (List UInt8)):Prop:=∃vs,ABv n0 h v vs l
theorem ABv.kp {n0:Nat} {v:Value} {vs:List Value} {l:List (List UInt8)} (a:ABv n0 h v vs l) (k:∀b all ty,h.blks[b]?=some ⟨.cells all,ty,true⟩->ty=35\/ty=5->n0<=b->h'.blks[b]?=h.blks[b]?):ABv n0 h' v vs l:=
 ⟨a.out.keep fun b _ hv=>by obtain ⟨all,h1⟩:=a.out.blk hv;exact k b all _ h1 (.inl rfl) (a.out.ge hv),a.rows.mono fun _ _ x=>x.keep fun b _ hv=>by obtain ⟨all,h1⟩:=x.blk hv;exact k b all _ h1 (.inr rfl) (x.ge hv)⟩
theorem ABv.same {n0:Nat} {v:Value} {vs:List Value} {l:List (List UInt8)} (a:ABv n0 h v vs l) (s:Same h h'):ABv n0 h' v vs l:=a.kp fun b _ _ hb _ _=>s.2 b (List.getElem?_eq_some_iff.1 hb).1
theorem ABs.same {n0:Nat} {v:Value} {l:List (List UInt8)} (a:ABs n0 h v l) (s:Same h h'):ABs n0 h' v l:=let ⟨_,x⟩:=a;⟨_,x.same s⟩
theorem ABs.up {n0 n1:Nat} {v:Value} {l:List (List UInt8)} (a:ABs n0 h v l) (hn:n1<=n0):ABs n1 h v l:=let ⟨_,x⟩:=a;⟨_,x.out.up hn,x.rows.mono fun _ _ y=>y.up hn⟩
theorem ABs.put {n0:Nat} {v:Value} {l:List (List UInt8)} (a:ABs n0 h v l) {p:Nat} {ty:TypeId} {cs:List Value} (c:Cells h p ty cs) (h1:ty≠35) (h2:ty≠5) (body:Body):ABs n0 (h.put p body) v l:=
 let ⟨vs,x⟩:=a
 ⟨vs,x.kp fun b all t hb ht _=>Heap.put_other (fun e=>by
  subst e
  unfold Cells at c
  rw[hb] at c
  simp only[Option.some.injEq,Blk.mk.injEq] at c
  rcases ht with ht | ht
  ·exact h1 (c.2.1.symm.trans ht)
  ·exact h2 (c.2.1.symm.trans ht)) _⟩
theorem ABs.at {n0:Nat} {v:Value} {l:List (List UInt8)} (a:ABs n0 h v l) {i:Nat} (hi:i<l.length) :
  ∃ad x,zAh Tryz.prog 34 v (.int .i64 i)=some (.pointer (some ad))/\zAw Tryz.prog 35 (.pointer (some ad)) h=some x/\SB h x (l.getD i []):=by
 obtain ⟨vs,x⟩:=a
 obtain ⟨ad,e1,e2,_⟩:=(x.out.sl etBs.size).row.at1 etBs.under etBs.size (by kernel_rfl) hi .i64
 obtain ⟨y,hy,ay⟩:=x.rows.get' (i:=i) (b:=l[i]) (List.getElem?_eq_getElem hi)
 rw[hy] at e2
 refine ⟨ad,y,e1,e2,?_⟩
 rw[List.getD_eq_getElem?_getD,List.getElem?_eq_getElem hi]
 exact ay.sl etB.size
theorem ABs.len {n0:Nat} {v:Value} {l:List (List UInt8)} (a:ABs n0 h v l):lenV Tryz.prog 34 v h=some (.int .i64 l.length):=let ⟨_,x⟩:=a;(x.out.sl etBs.size).row.len_eq etBs.under
theorem ABv.app {n0:Nat} (hn:n0<=h.blks.length) {v:Value} {vs:List Value} {l:List (List UInt8)} (A:ABv n0 h v vs l) {a:Option Addr} {c:Nat} {r:List UInt8} (ax:AB n0 h (.slice a r.length c) r) (hl:l.length<2^38) :
  ∃a' c' h',zBh Tryz.prog 34 (some 34) v (.slice (some ⟨h.blks.length,0,none⟩) 1 1) (h.new (.cells [.slice a r.length c]) 35)=some (.slice a' (l++[r]).length c',h')/\ABs n0 h' (.slice a' (l++[r]).length c') (l++[r])/\Keeps n0 h h'/\(∀p ty cs,Cells h p ty cs->ty≠35->Cells h' p ty cs):=by
 have hlen:vs.length=l.length:=A.rows.length_eq
 have ac:=A.out
 rw[<-hlen] at ac
 obtain ⟨a',c',h',e1,a1,k1,o1⟩:=app_out etBs hn ac a r.length c (by omega)
 have el:(vs++[Value.slice a r.length c]).length=(l++[r]).length:=by simp[hlen]
 rw[el] at e1 a1
 have kk:∀b,n0<=b->∀all,h.blks[b]?=some ⟨.cells all,5,true⟩->h'.blks[b]?=h.blks[b]?:=fun b _ all hb=>(o1 b _ all hb (by decide)).trans hb.symm
 refine ⟨a',c',h',e1,⟨_,a1,(A.rows.mono fun x y s=>?_).append (.cons ?_ .nil)⟩,k1,o1⟩
 ·exact s.keep fun b _ hv=>by obtain ⟨all,h1⟩:=s.blk hv;exact kk b (s.ge hv) all h1
 ·exact ax.keep fun b _ hv=>by obtain ⟨all,h1⟩:=ax.blk hv;exact kk b (ax.ge hv) all h1
end Go.Am
namespace Go.Am
def listW (s:Nat):List Nat:=if h:s=0 then [] else Lib.ctz 64 s::listW (s &&& (s-1))
termination_by s
decreasing_by
 have:s &&& (s-1)<=s-1:=Nat.and_le_right
 omega
theorem low_bit (s:Nat) (h0:s≠0) (hs:s<2^64):∃k m,Lib.ctz 64 s=k/\k<64/\s=2^(k+1)*m+2^k/\s &&& (s-1)=2^(k+1)*m:=by
 obtain ⟨m,h1,h2⟩:=Lib.ctzFrom_spec 64 s (by omega) hs
 have hc:Lib.ctz 64 s=Lib.ctzFrom 64 s:=by unfold Lib.ctz;rw[if_neg h0]
 generalize Lib.ctzFrom 64 s=k at h1 h2 hc
 have e1:s=2^(k+1)*m+2^k:=by rw[h1,Nat.pow_succ,Nat.mul_add,Nat.mul_one,Nat.mul_assoc]
 have p:0<2^k:=Nat.two_pow_pos k
 have hk:2^k<2^(k+1):=by rw[Nat.pow_succ];omega
 refine ⟨k,m,hc,h2,e1,?_⟩
 have e2:s-1=2^(k+1)*m+(2^k-1):=by omega
 have b0:=fun i=>Nat.testBit_two_pow_mul_add m (by omega:0<2^(k+1)) i
 simp only[Nat.add_zero] at b0
 apply Nat.eq_of_testBit_eq
 intro i
 rw[Nat.testBit_and,e2,e1,Nat.testBit_two_pow_mul_add _ hk,Nat.testBit_two_pow_mul_add _ (by omega:2^k-1<2^(k+1)),b0]
 by_cases hi:i<k+1
 ·simp only[hi,if_true,Nat.zero_testBit]
  rw[Nat.testBit_two_pow,Nat.testBit_two_pow_sub_one]
  by_cases e:k=i
  ·subst e;simp
  ·simp[e]
 ·simp only[hi,if_false,Bool.and_self]
def bitsL (s:Nat):List Nat:=(List.range 64).filter fun i=>s.testBit i
theorem listW_bits:∀s:Nat,s<2^64->listW s=bitsL s:=by
 intro s
 induction s using Nat.strongRecOn with
 | _ s ih=>
  intro hs
  by_cases h0:s=0
  ·subst h0
   unfold listW bitsL
   rw[dif_pos rfl,List.filter_eq_nil_iff.2]
   intro i _;simp
  ·obtain ⟨k,m,h1,h2,h3,h4⟩:=low_bit s h0 hs
   have p:0<2^k:=Nat.two_pow_pos k
   have hk:2^k<2^(k+1):=by rw[Nat.pow_succ];omega
   rw[listW,dif_neg h0,h1,h4,ih (2^(k+1)*m) (by omega) (by omega)]
   unfold bitsL
   have hr:List.range 64=List.range k++(k::List.range' (k+1) (63-k)):=by
    rw[List.range_eq_range',List.range_eq_range',show (k::List.range' (k+1) (63-k))=List.range' k (64-k) by rw[show 64-k=(63-k)+1 by omega,List.range'_succ]]
    rw[show (64:Nat)=k+(64-k) by omega,<-List.range'_append_1]
    simp
   have b1:∀i,s.testBit i=if i<k+1 then decide (k=i) else m.testBit (i-(k+1)):=fun i=>by
    rw[h3,Nat.testBit_two_pow_mul_add _ hk,Nat.testBit_two_pow]
   have b2:∀i,(2^(k+1)*m).testBit i=if i<k+1 then false else m.testBit (i-(k+1)):=fun i=>by
    have:=Nat.testBit_two_pow_mul_add m (by omega:0<2^(k+1)) i
    rw[Nat.add_zero] at this
    rw[this,Nat.zero_testBit]
   rw[hr,List.filter_append,List.filter_append,List.filter_cons,List.filter_cons]
   have n1:(List.range k).filter (fun i=>s.testBit i)=[]:=List.filter_eq_nil_iff.2 fun i hi=>by
    rw[List.mem_range] at hi
    rw[b1,if_pos (by omega)];simp;omega
   have n2:(List.range k).filter (fun i=>(2^(k+1)*m).testBit i)=[]:=List.filter_eq_nil_iff.2 fun i hi=>by
    rw[List.mem_range] at hi
    rw[b2,if_pos (by omega)];simp
   have n3:(List.range' (k+1) (63-k)).filter (fun i=>(2^(k+1)*m).testBit i)=(List.range' (k+1) (63-k)).filter (fun i=>s.testBit i):=List.filter_congr fun i hi=>by
    rw[List.mem_range'] at hi
    obtain ⟨j,_,rfl⟩:=hi
    rw[b1,b2,if_neg (by omega),if_neg (by omega)]
   rw[n1,n2,n3,b1 k,b2 k,if_pos (Nat.lt_succ_self k),if_pos (Nat.lt_succ_self k)]
   simp
theorem listW_len (s:Nat) (hs:s<2^64):(listW s).length<=64:=by
 rw[listW_bits s hs]
 unfold bitsL
 have:=List.length_filter_le (fun i=>s.testBit i) (List.range 64)
 rw[List.length_range] at this
 exact this
theorem listW_succ (s:Nat) (h0:s≠0):listW s=Lib.ctz 64 s::listW (s &&& (s-1)):=by
 rw[listW,dif_neg h0]
theorem listW_zero:listW 0=[]:=by rw[listW,dif_pos rfl]
end Go.Am
namespace Go.Am
open Go.Proofs
set_option maxRecDepth 100000
set_option linter.all false
def entV (e:E3):Value:=.agg #[.int .i64 e.f,.int .u64 e.n,.int .u64 e.t]
theorem bxE (a b c:Value) (h:Heap):boxV Tryz.prog 99 (.agg #[a,b,c]) h=some (.pointer (some ⟨h.blks.length,0,none⟩),h.new (.cells [a,b,c]) 99):=by kernel_rfl
theorem faE0 (p o:Nat):zAe Tryz.prog 99 (.pointer (some ⟨p,o,none⟩)) 0=some (.pointer (some ⟨p,o,none⟩)):=by kernel_rfl
theorem faE1 (p o:Nat):zAe Tryz.prog 99 (.pointer (some ⟨p,o,none⟩)) 1=some (.pointer (some ⟨p,o+1,none⟩)):=by kernel_rfl
theorem faE2 (p o:Nat):zAe Tryz.prog 99 (.pointer (some ⟨p,o,none⟩)) 2=some (.pointer (some ⟨p,o+2,none⟩)):=by kernel_rfl
theorem ldI (p o:Nat) (h:Heap):zAw Tryz.prog 3 (.pointer (some ⟨p,o,none⟩)) h=h.load1 p o:=by kernel_rfl
theorem ldU (p o:Nat) (h:Heap):zAw Tryz.prog 30 (.pointer (some ⟨p,o,none⟩)) h=h.load1 p o:=by kernel_rfl
theorem ldS (p o:Nat) (h:Heap):zAw Tryz.prog 39 (.pointer (some ⟨p,o,none⟩)) h=h.load1 p o:=by kernel_rfl
theorem lsI2' (x y:Int) (h:Heap):zAi Tryz.prog 68 2 #[(0,.int .i64 x),(1,.int .i64 y)] h=some (.slice (some ⟨h.blks.length,0,none⟩) 2 2,h.new (.cells [.int .i64 x,.int .i64 y]) 3):=by kernel_rfl
theorem lnI (a:Option Addr) (n c:Nat) (h:Heap):lenV Tryz.prog 68 (.slice a n c) h=some (.int .i64 n):=by kernel_rfl
theorem iaI0 (p c:Nat):zAh Tryz.prog 68 (.slice (some ⟨p,0,none⟩) 2 c) (.int .i64 0)=some (.pointer (some ⟨p,0,none⟩)):=by kernel_rfl
theorem iaI1 (p c:Nat):zAh Tryz.prog 68 (.slice (some ⟨p,0,none⟩) 2 c) (.int .i64 1)=some (.pointer (some ⟨p,1,none⟩)):=by kernel_rfl
end Go.Am
namespace Go.Am
open Go.Proofs
set_option maxRecDepth 100000
set_option linter.all false
attribute [local congr] zAf zAq zAr zAs zAj zAg
theorem spec_isNaNI (a:Int) (h:Heap):evC Tryz.prog 114 #[.int .i64 a] h=some (.bool false,h):=by
 rw[call114]
 simp -implicitDefEqProofs only[↓c114_0_eq,eq_self,ne_eq,not_true_eq_false,decide_false,↓ret114,↓zAc,↓zAb,↓Option.bind_some,↓zAa,sxB,Nat.reduceBEq]
theorem spec_isNaNW (a:Int) (h:Heap):evC Tryz.prog 115 #[.int .u64 a] h=some (.bool false,h):=by
 rw[call115]
 simp -implicitDefEqProofs only[↓c115_0_eq,eq_self,ne_eq,not_true_eq_false,decide_false,↓ret115,↓zAc,↓zAb,↓Option.bind_some,↓zAa,sxB,Nat.reduceBEq]
def cmpI (a b:Int):Int:=if a<b then -1 else if b<a then 1 else 0
theorem spec_CmpI (a b:Int) (h:Heap):evC Tryz.prog 101 #[.int .i64 a,.int .i64 b] h=some (.int .i64 (cmpI a b),h):=by
 rw[call101]
 have e1:=fun h=>spec_isNaNI a h
 have e2:=fun h=>spec_isNaNI b h
 unfold cmpI
 by_cases h1:a<b
 ·rw[if_pos h1]
  simp -implicitDefEqProofs (disch:=omega) only[↓c101_0_eq,dcT,dcF,e1,e2,↓ret101,↓zAc,↓zAb,↓Option.bind_some,↓zAa,sxB,Nat.reduceBEq]
 ·rw[if_neg h1]
  by_cases h2:b<a
  ·rw[if_pos h2]
   simp -implicitDefEqProofs (disch:=omega) only[↓c101_0_eq,dcT,dcF,e1,e2,↓ret101,↓zAc,↓zAb,↓Option.bind_some,↓zAa,sxB,Nat.reduceBEq]
  ·rw[if_neg h2]
   simp -implicitDefEqProofs (disch:=omega) only[↓c101_0_eq,dcT,dcF,e1,e2,↓ret101,↓zAc,↓zAb,↓Option.bind_some,↓zAa,sxB,Nat.reduceBEq]
theorem spec_CmpW (a b:Int) (h:Heap):evC Tryz.prog 102 #[.int .u64 a,.int .u64 b] h=some (.int .i64 (cmpI a b),h):=by
 rw[call102]
 have e1:=fun h=>spec_isNaNW a h
 have e2:=fun h=>spec_isNaNW b h
 unfold cmpI
 by_cases h1:a<b
 ·rw[if_pos h1]
  simp -implicitDefEqProofs (disch:=omega) only[↓c102_0_eq,dcT,dcF,e1,e2,↓ret102,↓zAc,↓zAb,↓Option.bind_some,↓zAa,sxB,Nat.reduceBEq]
 ·rw[if_neg h1]
  by_cases h2:b<a
  ·rw[if_pos h2]
   simp -implicitDefEqProofs (disch:=omega) only[↓c102_0_eq,dcT,dcF,e1,e2,↓ret102,↓zAc,↓zAb,↓Option.bind_some,↓zAa,sxB,Nat.reduceBEq]
  ·rw[if_neg h2]
   simp -implicitDefEqProofs (disch:=omega) only[↓c102_0_eq,dcT,dcF,e1,e2,↓ret102,↓zAc,↓zAb,↓Option.bind_some,↓zAa,sxB,Nat.reduceBEq]
theorem spec_Or {h:Heap} {p c:Nat} (a b:Int) (hc:Cells h p 3 [.int .i64 a,.int .i64 b]):evC Tryz.prog 100 #[.slice (some ⟨p,0,none⟩) 2 c] h=some (.int .i64 (if a=0 then b else a),h):=by
 rw[call100]
 have l0:(nm h).load1 p 0=some (.int .i64 a):=hc.nm.load 0
 have l1:(nm h).load1 p 1=some (.int .i64 b):=hc.nm.load 1
 have w1:IntKind.i64.wrap (0+1)=1:=rfl
 have w2:IntKind.i64.wrap (1+1)=2:=rfl
 by_cases h1:a=0
 ·rw[if_pos h1]
  by_cases h2:b=0
  ·simp -implicitDefEqProofs (disch:=omega) only[↓c100_0_eq,↓c100_1_eq,↓c100_2_eq,↓zBe evC_m,dcT,dcF,lnI,iaI0,iaI1,ldI,l0,l1,w1,w2,↓ret100,↓zAc,↓zAb,↓Option.bind_some,↓zAa,sxB,Nat.reduceBEq]
   rw[h2]
  ·simp -implicitDefEqProofs (disch:=omega) only[↓c100_0_eq,↓c100_1_eq,↓c100_2_eq,↓zBe evC_m,dcT,dcF,lnI,iaI0,iaI1,ldI,l0,l1,w1,w2,↓ret100,↓zAc,↓zAb,↓Option.bind_some,↓zAa,sxB,Nat.reduceBEq]
 ·rw[if_neg h1]
  simp -implicitDefEqProofs (disch:=omega) only[↓c100_0_eq,↓c100_1_eq,↓c100_2_eq,↓zBe evC_m,dcT,dcF,lnI,iaI0,iaI1,ldI,l0,l1,w1,w2,↓ret100,↓zAc,↓zAb,↓Option.bind_some,↓zAa,sxB,Nat.reduceBEq]
theorem cmpE_or (x y:E3):(if cmpI x.f y.f=0 then cmpI x.n y.n else cmpI x.f y.f)=cmpE x y:=by
 unfold cmpE cmpI
 by_cases h1:x.f<y.f
 ·simp[h1]
 ·by_cases h2:y.f<x.f
  ·simp[h1,h2]
  ·have:(x.n:Int)<y.n ↔ x.n<y.n:=Int.ofNat_lt
   have:(y.n:Int)<x.n ↔ y.n<x.n:=Int.ofNat_lt
   simp[h1,h2]
theorem spec_order (x y:E3) (h:Heap):∃h',evC Tryz.prog 78 #[entV x,entV y] h=some (.int .i64 (cmpE x y),h')/\HExt h h':=by
 rw[call78]
 have c1:Cells (((nm h).new (.cells [.int .i64 x.f,.int .u64 x.n,.int .u64 x.t]) 99).new (.cells [.int .i64 y.f,.int .u64 y.n,.int .u64 y.t]) 99) (nm h).blks.length 99 [.int .i64 x.f,.int .u64 x.n,.int .u64 x.t]:=(Cells.new _ _ _).keepNew _ _
 have c2:=Cells.new ((nm h).new (.cells [.int .i64 x.f,.int .u64 x.n,.int .u64 x.t]) 99) 99 [.int .i64 y.f,.int .u64 y.n,.int .u64 y.t]
 have k2:In h.blks.length No (nm h) (((nm h).new (.cells [.int .i64 x.f,.int .u64 x.n,.int .u64 x.t]) 99).new (.cells [.int .i64 y.f,.int .u64 y.n,.int .u64 y.t]) 99):=
  In.trans (In.new (h:=nm h) (Nat.le_refl h.blks.length) _ _) (In.new (by simp[Heap.new]) _ _)
 generalize hp1:((nm h).new (.cells [.int .i64 x.f,.int .u64 x.n,.int .u64 x.t]) 99).blks.length=p1 at c2
 generalize hp0:(nm h).blks.length=p0 at c1
 generalize hh2:((nm h).new (.cells [.int .i64 x.f,.int .u64 x.n,.int .u64 x.t]) 99).new (.cells [.int .i64 y.f,.int .u64 y.n,.int .u64 y.t]) 99=h2 at c1 c2 k2
 have la:h2.load1 p0 0=some (.int .i64 x.f):=c1.load 0
 have lb:h2.load1 p0 1=some (.int .u64 x.n):=c1.load 1
 have lc:h2.load1 p1 0=some (.int .i64 y.f):=c2.load 0
 have ld:h2.load1 p1 1=some (.int .u64 y.n):=c2.load 1
 have k3:=k2.trans (In.new (Nat.le_trans k2.le k2.len) (.cells [.int .i64 (cmpI x.f y.f),.int .i64 (cmpI x.n y.n)]) 3)
 have e3:=spec_Or (c:=2) _ _ (Cells.new h2 3 [.int .i64 (cmpI x.f y.f),.int .i64 (cmpI x.n y.n)])
 rw[cmpE_or] at e3
 refine ⟨_,?_,zAl k3⟩
 simp -implicitDefEqProofs (disch:=omega) only[↓c78_0_eq,entV,bxE,hp0,hp1,hh2,faE0,faE1,ldI,ldU,la,lb,lc,ld,spec_CmpI,spec_CmpW,am_nm,nm_load1,nm_mods,List.nil_append,List.append_nil,lsI2',e3,↓ret78,↓zAc,↓zAb,↓Option.bind_some,↓zAa,sxB,Nat.reduceBEq]
end Go.Am
namespace Go.Am
open Go.Proofs
set_option maxRecDepth 100000
set_option linter.all false
theorem entL_app (a b:List E3):entL (a++b)=entL a++entL b:=by
 induction a with
 | nil=>rfl
 | cons e a ih=>simp only[List.cons_append,entL,ih]
theorem entL_at:∀(es:List E3) (i:Nat) (hi:i<es.length),((entL es).drop (i*3)).take 3=entC es[i]
 | e::es,0,_=>rfl
 | e::es,i+1,hi=>by
  rw[show (i+1)*3=i*3+1+1+1 by omega]
  simp only[entL,List.drop_succ_cons]
  exact entL_at es i (by simpa using hi)
abbrev SE (h:Heap) (v:Value) (es:List E3):Prop:=Sl Tryz.prog h 3 v es.length (entL es)
abbrev AE (n0:Nat) (h:Heap) (v:Value) (es:List E3):Prop:=Acc n0 h 99 3 v es.length (entL es)
abbrev AR (n0:Nat) (h:Heap) (v:Value) (es:List E3):Prop:=Acc n0 h 87 3 v es.length (entL es)
theorem etE:ElemT Tryz.prog 49 99 3 24 (.agg #[.int .i64 0,.int .u64 0,.int .u64 0]):=⟨by kernel_rfl,by kernel_rfl,by kernel_rfl,by kernel_rfl,by omega,rfl,by simp[zBg,ground0]⟩
theorem etR:ElemT Tryz.prog 31 87 3 24 (.agg #[.int .i64 0,.int .u64 0,.int .u64 0]):=⟨by kernel_rfl,by kernel_rfl,by kernel_rfl,by kernel_rfl,by omega,rfl,by simp[zBg,ground0]⟩
theorem AE.se {n0:Nat} {h:Heap} {v:Value} {es:List E3} (a:AE n0 h v es):SE h v es:=a.sl etE.size
theorem AR.se {n0:Nat} {h:Heap} {v:Value} {es:List E3} (a:AR n0 h v es):SE h v es:=a.sl etR.size
theorem SE.nil (h:Heap):SE h (.slice none 0 0) []:=Sl.nil
theorem AE.nil (n0:Nat) (h:Heap):AE n0 h (.slice none 0 0) []:=Acc.nil
theorem AR.nil (n0:Nat) (h:Heap):AR n0 h (.slice none 0 0) []:=Acc.nil
theorem SE.at' {h:Heap} {v:Value} {es:List E3} (s:SE h v es) {t el:TypeId} (hu:Tryz.prog.underlying t=some (.slice el)) (hs:sizeT Tryz.prog el=some 3) {i:Nat} (hi:i<es.length) :
  ∃b o,zAn v=some b/\b<h.blks.length/\(∀k,zAh Tryz.prog t v (.int k i)=some (.pointer (some ⟨b,o,none⟩))) ∧
   ∀h':Heap,h'.blks[b]?=h.blks[b]? -> h'.loadN b o 3=some (entC es[i])/\h'.load1 b o=some (.int .i64 es[i].f)/\h'.load1 b (o+1)=some (.int .u64 es[i].n)/\h'.load1 b (o+2)=some (.int .u64 es[i].t):=by
 rcases s.inv with ⟨rfl,h2,_⟩ | ⟨b,o,c,rfl,hl,_⟩
 ·omega
 ·refine ⟨b,o+i*3,rfl,loadN_lt hl,fun k=>?_,fun h' hb=>?_⟩
  ·unfold zAh
   simp only[hu,zBq,hs]
   rw[if_pos hi]
  ·have h1:h'.loadN b (o+i*3) 3=some (entC es[i]):=by
    rw[loadN_of hb,loadN_sub hl (by omega),entL_at es i hi]
   exact ⟨h1,loadN_get (i:=0) h1 (by omega),loadN_get (i:=1) h1 (by omega),loadN_get (i:=2) h1 (by omega)⟩
theorem ldE (p o:Nat) (h:Heap):zAw Tryz.prog 99 (.pointer (some ⟨p,o,none⟩)) h=(h.loadN p o 3).map fun cs=>.agg cs.toArray:=by kernel_rfl
theorem ldR (p o:Nat) (h:Heap):zAw Tryz.prog 87 (.pointer (some ⟨p,o,none⟩)) h=(h.loadN p o 3).map fun cs=>.agg cs.toArray:=by kernel_rfl
theorem entA (e:E3):Value.agg (entC e).toArray=entV e:=rfl
theorem alE (h:Heap):zBp Tryz.prog 99 h=some (.pointer (some ⟨h.blks.length,0,none⟩),h.new (.cells [.int .i64 0,.int .u64 0,.int .u64 0]) 99):=by kernel_rfl
theorem stE (p:Nat) (e:E3) (h:Heap):zBc Tryz.prog 99 (.pointer (some ⟨p,0,none⟩)) (entV e) h=h.storeN p 0 (entC e):=by kernel_rfl
theorem var_ent {n0:Nat} {h:Heap} (hn:n0<=h.blks.length) (e:E3):∃hA h',zBp Tryz.prog 99 h=some (.pointer (some ⟨h.blks.length,0,none⟩),hA)/\zBc Tryz.prog 99 (.pointer (some ⟨h.blks.length,0,none⟩)) (entV e) hA=some h' ∧
  Cells h' h.blks.length 99 (entC e)/\(∀S,In n0 S h h')/\Same h h'/\zAw Tryz.prog 99 (.pointer (some ⟨h.blks.length,0,none⟩)) h'=some (entV e):=by
 have c:=Cells.new h 99 [.int .i64 0,.int .u64 0,.int .u64 0]
 have c':Cells ((h.new (.cells [.int .i64 0,.int .u64 0,.int .u64 0]) 99).put h.blks.length (.cells (entC e))) h.blks.length 99 (entC e):=c.put _
 refine ⟨_,_,alE h,?_,c',fun S=>(In.new hn _ _).trans (In.put (by simp[Heap.new];omega) (.inl hn) _),(Same.new h _ _).put (Nat.le_refl _) _,?_⟩
 ·rw[stE,zAp c (by simp[entC])];rfl
 ·rw[ldE,c'.loadN (n:=3) rfl];rfl
theorem bsE (e:E3) (h:Heap):zAi Tryz.prog 49 1 #[(0,entV e)] h=some (.slice (some ⟨h.blks.length,0,none⟩) 1 1,h.new (.cells (entC e)) 99):=by kernel_rfl
theorem bsR (e:E3) (h:Heap):zAi Tryz.prog 31 1 #[(0,entV e)] h=some (.slice (some ⟨h.blks.length,0,none⟩) 1 1,h.new (.cells (entC e)) 87):=by kernel_rfl
theorem app_ents {t t1 el:TypeId} (et:ElemT Tryz.prog t el 3 24 (.agg #[.int .i64 0,.int .u64 0,.int .u64 0])) (et1:Tryz.prog.underlying t1=some (.slice el)) {n0:Nat} {h:Heap} (hn0:n0<=h.blks.length) {v x:Value} {bs cs:List E3}
  (ha:Acc n0 h el 3 v bs.length (entL bs)) (hx:SE h x cs) (hl:bs.length+cs.length<2^40) :
  ∃a c h',zBh Tryz.prog t (some t1) v x h=some (.slice a (bs++cs).length c,h')/\Acc n0 h' el 3 (.slice a (bs++cs).length c) (bs++cs).length (entL (bs++cs))/\Keeps n0 h h'/\(∀b,b<h.blks.length->zAn v≠some b->h'.blks[b]?=h.blks[b]?) ∧
   (.slice a (bs++cs).length c=v/\h'=h\/zAn (.slice a (bs++cs).length c)=some h.blks.length/\h.blks.length<h'.blks.length):=by
 obtain ⟨v',h',e1,e2,e3,e4,e5⟩:=append_acc et (t1:=some t1) hn0 ha (newsV_row et1 hx.row) (by rw[entL_len]) (by omega) (by omega) (entL_one cs)
 obtain ⟨a,c,rfl⟩:=e2.shape
 rw[<-List.length_append] at e1 e2 e5
 rw[<-entL_app] at e2
 exact ⟨a,c,h',e1,e2,e3,e4,e5⟩
theorem lit_ent (el:TypeId) (hs:sizeT Tryz.prog el=some 3) (e:E3) (h:Heap):SE (h.new (.cells (entC e)) el) (.slice (some ⟨h.blks.length,0,none⟩) 1 1) [e]:=
 .mk (by simp[Heap.loadN,Heap.cells?,zBn,entC,entL]) (.inr ⟨Nat.le_refl _,by unfold UNK;omega⟩)
theorem app_ent {t el:TypeId} (et:ElemT Tryz.prog t el 3 24 (.agg #[.int .i64 0,.int .u64 0,.int .u64 0])) {n0:Nat} {h:Heap} (hn0:n0<=h.blks.length) {v:Value} {bs:List E3}
  (ha:Acc n0 h el 3 v bs.length (entL bs)) (e:E3) (hl:bs.length<2^39) :
  ∃a c h',zBh Tryz.prog t (some t) v (.slice (some ⟨h.blks.length,0,none⟩) 1 1) (h.new (.cells (entC e)) el)=some (.slice a (bs++[e]).length c,h')/\Acc n0 h' el 3 (.slice a (bs++[e]).length c) (bs++[e]).length (entL (bs++[e]))/\Keeps n0 h h' ∧
   (∀q,q<h.blks.length->zAn v≠some q->h'.blks[q]?=h.blks[q]?):=by
 have ha':Acc n0 (h.new (.cells (entC e)) el) el 3 v bs.length (entL bs):=ha.keep fun _ hb _=>Heap.new_old hb
 obtain ⟨a,c,h',e1,e2,e3,e4,_⟩:=app_ents et et.under (n0:=n0) (h:=h.new (.cells (entC e)) el) (by simp[Heap.new];omega) ha' (lit_ent el et.size e h) (by simp;omega)
 exact ⟨a,c,h',e1,e2,(Keeps.new hn0 _ _).trans e3,fun q hq hne=>(e4 q (by simp[Heap.new];omega) hne).trans (Heap.new_old hq)⟩
end Go.Am
namespace Go.Am
open Go.Proofs
def numP:Option (List UInt8)->Nat->Nat × Option (List UInt8)
 | none,_=>(0,none)
 | some bs,most=>if (getL bs).2=0\/most<(getL bs).1 then (0,none) else ((getL bs).1,some (bs.drop (getL bs).2))
def endP:Option (List UInt8)->Bool
 | some []=>true
 | _=>false
theorem getLoop_le:∀(l:List UInt8) (n i:Nat),n<2^64->(getLoop n i l).1<2^64/\(getLoop n i l).2<=i+l.length
 | [],n,i,h=>by simp[getLoop]
 | c::l,n,i,h=>by
  rw[getLoop]
  have hn':n ||| (c.toNat % 128*2^(7*i)) % 2^64<2^64:=Nat.or_lt_two_pow h (Nat.mod_lt _ (by omega))
  split
  ·simp
  ·simp only[]
   split
   ·split
    ·simp
    ·refine ⟨hn',?_⟩
     simp only[List.length_cons];omega
   ·have:=getLoop_le l _ (i+1) hn'
    simp only[List.length_cons]
    exact ⟨this.1,by omega⟩
theorem getL_lt (l:List UInt8):(getL l).1<2^64:=(getLoop_le l 0 0 (by omega)).1
theorem getL_len (l:List UInt8):(getL l).2<=l.length:=by have:=(getLoop_le l 0 0 (by omega)).2;unfold getL;omega
def rbs (r:Option (List UInt8)):List UInt8:=r.getD []
def Wr (n0:Nat) (h:Heap) (p:Nat) (bs:List UInt8):Prop:=∃a c,Cells h p 176 [.slice a bs.length c]/\AB n0 h (.slice a bs.length c) bs/\zAn (.slice a bs.length c)≠some p
def LoP (v:Value) (L p:Nat):Prop:=∀b,zAn v=some b->L<=b/\b<p
theorem LoP.ne {v:Value} {L p:Nat} (l:LoP v L p):zAn v≠some p:=fun e=>by have:=(l p e).2;omega
theorem LoP.to {v w:Value} {L p:Nat} (l:LoP v L p) (e:zAn w=zAn v):LoP w L p:=fun b hb=>l b (by rw[<-e];exact hb)
theorem LoP.nil (L p:Nat):LoP (.slice none 0 0) L p:=fun b hb=>by cases hb
def RdrL (L:Nat) (h:Heap) (p:Nat) (r:Option (List UInt8)):Prop:=∃a c,Cells h p 169 [.slice a (rbs r).length c,.bool r.isNone]/\SB h (.slice a (rbs r).length c) (rbs r)/\LoP (.slice a (rbs r).length c) L p
theorem Wr.lt {n0:Nat} {h:Heap} {p:Nat} {bs:List UInt8} (w:Wr n0 h p bs):p<h.blks.length:=let ⟨_,_,c,_⟩:=w;c.lt
abbrev Rdr (h:Heap) (p:Nat) (r:Option (List UInt8)):Prop:=RdrL 0 h p r
theorem RdrL.dn {L:Nat} {h:Heap} {p:Nat} {r:Option (List UInt8)} (w:RdrL L h p r):Rdr h p r:=let ⟨a,c,x,y,z⟩:=w;⟨a,c,x,y,fun b hb=>⟨Nat.zero_le _,(z b hb).2⟩⟩
theorem RdrL.lt {L:Nat} {h:Heap} {p:Nat} {r:Option (List UInt8)} (w:RdrL L h p r):p<h.blks.length:=let ⟨_,_,c,_⟩:=w;c.lt
theorem faW (p:Nat):zAe Tryz.prog 176 (.pointer (some ⟨p,0,none⟩)) 0=some (.pointer (some ⟨p,0,none⟩)):=by kernel_rfl
theorem faR0 (p:Nat):zAe Tryz.prog 169 (.pointer (some ⟨p,0,none⟩)) 0=some (.pointer (some ⟨p,0,none⟩)):=by kernel_rfl
theorem faR1 (p:Nat):zAe Tryz.prog 169 (.pointer (some ⟨p,0,none⟩)) 1=some (.pointer (some ⟨p,1,none⟩)):=by kernel_rfl
theorem bdW:buildV Tryz.prog 176 #[]=some (.agg #[.slice none 0 0]):=by kernel_rfl
theorem bxW (x:Value) (h:Heap):boxV Tryz.prog 176 (.agg #[x]) h=some (.pointer (some ⟨h.blks.length,0,none⟩),h.new (.cells [x]) 176):=by kernel_rfl
theorem bdR (a:Option Addr) (n c:Nat):buildV Tryz.prog 169 #[(0,.slice a n c)]=some (.agg #[.slice a n c,.bool false]):=by kernel_rfl
theorem bxR (x y:Value) (h:Heap):boxV Tryz.prog 169 (.agg #[x,y]) h=some (.pointer (some ⟨h.blks.length,0,none⟩),h.new (.cells [x,y]) 169):=by kernel_rfl
theorem spec_NewWriter (h:Heap):∃h',evC Tryz.prog 71 #[] h=some (.pointer (some ⟨h.blks.length,0,none⟩),h')/\HExt h h'/\Wr h.blks.length h' h.blks.length []/\h'.blks.length=h.blks.length+1:=by
 rw[call71,c71_0_eq]
 simp -implicitDefEqProofs only[bdW,bxW,↓zAc,↓zAb,↓Option.bind_some,↓zAa,sxA]
 rw[ret71,zBj]
 exact ⟨_,rfl,zAl (In.new (S:=No) (by simp) _ _),⟨none,0,(Cells.new (nm h) _ _).done,.nil,by simp[zAn]⟩,by simp[Heap.new]⟩
theorem Wr.put {n0:Nat} {h:Heap} {p:Nat} {a:Option Addr} {bs:List UInt8} {c:Nat} {cs:List Value} (hc:Cells h p 176 cs) (ha:AB n0 h (.slice a bs.length c) bs) (hb:zAn (.slice a bs.length c)≠some p) :
  Wr n0 (h.put p (.cells [.slice a bs.length c])) p bs:=⟨a,c,hc.put _,ha.keepPut hb _,hb⟩
theorem Wr.nm {n0:Nat} {h:Heap} {p:Nat} {bs:List UInt8} (w:Wr n0 h p bs):Wr n0 (Am.nm h) p bs:=let ⟨a,c,x,y,z⟩:=w;⟨a,c,x,y.keep fun _ _ _=>rfl,z⟩
theorem Wr.done {n0:Nat} {h0 h:Heap} {p:Nat} {bs:List UInt8} (w:Wr n0 h p bs):Wr n0 (Am.done h0 h) p bs:=let ⟨a,c,x,y,z⟩:=w;⟨a,c,x.done,y.done,z⟩
theorem Wr.same {n0:Nat} {h h':Heap} {p:Nat} {bs:List UInt8} (w:Wr n0 h p bs) (e:Same h h'):Wr n0 h' p bs:=let ⟨a,c,x,y,z⟩:=w;⟨a,c,x.same e,y.same e,z⟩
theorem Wr.ext {n0:Nat} {h h':Heap} {p:Nat} {bs:List UInt8} (w:Wr n0 h p bs) (e:HExt h h'):Wr n0 h' p bs:=let ⟨a,c,x,y,z⟩:=w;⟨a,c,x.ext e,y.keep fun b hb _=>e.old b hb,z⟩
theorem Wr.up {n0 n1:Nat} {h:Heap} {p:Nat} {bs:List UInt8} (w:Wr n0 h p bs) (hn:n1<=n0):Wr n1 h p bs:=let ⟨a,c,x,y,z⟩:=w;⟨a,c,x,y.up hn,z⟩
theorem spec_WNum {n0:Nat} {h:Heap} {p:Nat} {bs:List UInt8} (w:Wr n0 h p bs) (hn0:n0<=h.blks.length) (n:Nat) (hn:n<2^64) (hl:bs.length<2^39) :
  ∃h',evC Tryz.prog 72 #[.pointer (some ⟨p,0,none⟩),.int .u64 n] h=some (.tuple #[],h')/\HMod (Just p) h h'/\Wr h.blks.length h' p (bs++putL n):=by
 rw[call72,c72_0_eq]
 obtain ⟨a,c,hc,ha,hne⟩:=w
 obtain ⟨a2,c2,h2,e2,Ac,ab⟩:=spec_PutB n hn (nm h) _ bs ha.sb.nm hl
 simp -implicitDefEqProofs only[faW,ldB,hc.nm.load,List.getElem?_cons_zero,e2,stB,zAp (hc.nm.ext Ac) (o:=0) (vs:=[.slice a2 (bs++putL n).length c2]) (by simp),↓zAc,↓zAb,↓Option.bind_some,↓zAa,sxA]
 rw[retn72,zBj]
 refine ⟨_,rfl,done_mod ((Ac.inn (by simp)).trans (In.put (by have:=Ac.len;simpa using this) (.inr (show Just p p from rfl)) _)),?_⟩
 simp only[List.take_zero,List.nil_append,List.length_singleton,Nat.zero_add,List.drop_succ_cons,List.drop_nil,List.append_nil]
 exact (Wr.put (hc.nm.ext Ac) ab (ab.ne hc.lt)).done
theorem spec_WDone {n0:Nat} {h:Heap} {p:Nat} {bs:List UInt8} (w:Wr n0 h p bs) (hl:bs.length<2^43) :
  ∃a c h',evC Tryz.prog 74 #[.pointer (some ⟨p,0,none⟩)] h=some (.slice a bs.length c,h')/\HExt h h'/\AB h.blks.length h' (.slice a bs.length c) bs:=by
 rw[call74,c74_0_eq]
 obtain ⟨a,c,hc,ha,hne⟩:=w
 obtain ⟨a2,c2,h2,e2,Ac,ab⟩:=spec_Clone (nm h) _ bs ha.sb.nm hl
 simp -implicitDefEqProofs only[faW,ldB,hc.nm.load,List.getElem?_cons_zero,e2,↓zAc,↓zAb,↓Option.bind_some,↓zAa,sxA]
 rw[ret74,zBj]
 exact ⟨a2,c2,_,rfl,zAl (Ac.inn (by simp)),ab.done⟩
theorem spec_NewReaderL {h:Heap} {x:Value} {bs:List UInt8} (hx:SB h x bs) (hl:bs.length<2^43) :
  ∃h' p,evC Tryz.prog 65 #[x] h=some (.pointer (some ⟨p,0,none⟩),h')/\HExt h h'/\RdrL h.blks.length h' p (some bs)/\h.blks.length<=p:=by
 rw[call65,c65_0_eq]
 obtain ⟨a2,c2,h2,e2,Ac,ab⟩:=spec_Clone (nm h) _ bs hx.nm hl
 simp -implicitDefEqProofs only[e2,bdR,bxR,↓zAc,↓zAb,↓Option.bind_some,↓zAa,sxA]
 rw[ret65,zBj]
 exact ⟨_,_,rfl,zAl ((Ac.inn (by simp)).trans (In.new Ac.len _ _)),⟨a2,c2,(Cells.new h2 _ _).done,(ab.sb.keepNew _ _).done,fun b e=>⟨ab.ge e,ab.sb.lt e⟩⟩,Ac.len⟩
theorem spec_NewReader {h:Heap} {x:Value} {bs:List UInt8} (hx:SB h x bs) (hl:bs.length<2^43) :
  ∃h' p,evC Tryz.prog 65 #[x] h=some (.pointer (some ⟨p,0,none⟩),h')/\HExt h h'/\Rdr h' p (some bs)/\h.blks.length<=p:=by
 obtain ⟨h',p,e,x,r,l⟩:=spec_NewReaderL hx hl
 exact ⟨h',p,e,x,r.dn,l⟩
theorem RdrL.nm {L:Nat} {h:Heap} {p:Nat} {r:Option (List UInt8)} (w:RdrL L h p r):RdrL L (Am.nm h) p r:=let ⟨a,c,x,y,z⟩:=w;⟨a,c,x,y.nm,z⟩
theorem RdrL.done {L:Nat} {h0 h:Heap} {p:Nat} {r:Option (List UInt8)} (w:RdrL L h p r):RdrL L (Am.done h0 h) p r:=let ⟨a,c,x,y,z⟩:=w;⟨a,c,x.done,y.done,z⟩
theorem RdrL.same {L:Nat} {h h':Heap} {p:Nat} {r:Option (List UInt8)} (w:RdrL L h p r) (e:Same h h'):RdrL L h' p r:=let ⟨a,c,x,y,z⟩:=w;⟨a,c,x.same e,y.same e,z⟩
theorem RdrL.keepPut {L:Nat} {h:Heap} {p q:Nat} {r:Option (List UInt8)} (w:RdrL L h p r) (hq:p<q) (body:Body):RdrL L (h.put q body) p r:=
 let ⟨a,c,x,y,z⟩:=w;⟨a,c,x.keepPut (by omega) _,y.keepPut (fun e=>by have:=(z _ e).2;omega) _,z⟩
theorem RdrL.ext {L:Nat} {h h':Heap} {p:Nat} {r:Option (List UInt8)} (w:RdrL L h p r) (e:HExt h h'):RdrL L h' p r:=let ⟨a,c,x,y,z⟩:=w;⟨a,c,x.ext e,y.ext e,z⟩
theorem spec_spoil {L:Nat} {h:Heap} {p:Nat} {r:Option (List UInt8)} (w:RdrL L h p r) (b:Bool) :
  ∃h',evC Tryz.prog 97 #[.pointer (some ⟨p,0,none⟩),.bool b] h=some (.bool (b || r.isNone),h')/\HMod (Just p) h h'/\RdrL L h' p (if b then none else r):=by
 rw[call97,c97_0_eq]
 obtain ⟨a,c,hc,ha,hne⟩:=w
 cases b with
 | true=>
  have hc1:=hc.nm.put [Value.slice none 0 0,.bool r.isNone]
  have hc2:=hc1.put [Value.slice none 0 0,.bool true]
  simp -implicitDefEqProofs only[faR0,faR1,stB,stBool,zAp hc.nm (o:=0) (vs:=[.slice none 0 0]) (by simp),List.take_zero,List.nil_append,List.length_singleton,Nat.zero_add,List.drop_succ_cons,List.drop_zero,List.cons_append,List.singleton_append,
   zAp hc1 (o:=1) (vs:=[.bool true]) (by simp),List.take_succ_cons,List.drop_nil,Nat.reduceAdd,List.append_nil,c97_1_eq,ldBool,hc2.load,List.getElem?_cons_zero,List.getElem?_cons_succ,↓zAc,↓zAb,↓Option.bind_some,↓zAa,sxA]
  rw[ret97,zBj]
  exact ⟨_,rfl,done_mod ((In.put (by simp) (.inr (show Just p p from rfl)) _).trans (In.put (by rw[Heap.put_len];simp) (.inr (show Just p p from rfl)) _)),⟨none,0,hc2.done,.nil,LoP.nil _ _⟩⟩
 | false=>
  simp -implicitDefEqProofs only[c97_1_eq,faR1,ldBool,hc.nm.load,List.getElem?_cons_zero,List.getElem?_cons_succ,↓zAc,↓zAb,↓Option.bind_some,↓zAa,sxA]
  rw[ret97,zBj]
  exact ⟨_,by simp,done_mod (In.refl (by simp)),⟨a,c,hc.nm.done,ha.nm.done,hne⟩⟩
theorem RdrL.put {L:Nat} {h:Heap} {p:Nat} {a:Option Addr} {r:Option (List UInt8)} {c:Nat} {cs:List Value} (hc:Cells h p 169 cs) (ha:SB h (.slice a (rbs r).length c) (rbs r)) (hb:LoP (.slice a (rbs r).length c) L p) :
  RdrL L (h.put p (.cells [.slice a (rbs r).length c,.bool r.isNone])) p r:=⟨a,c,hc.put _,ha.keepPut hb.ne _,hb⟩
theorem spec_RNum {L:Nat} {h:Heap} {p:Nat} {r:Option (List UInt8)} (w:RdrL L h p r) (most:Nat) (hm:most<2^64) (hl:(rbs r).length<2^40) :
  ∃h',evC Tryz.prog 66 #[.pointer (some ⟨p,0,none⟩),.int .u64 most] h=some (.int .u64 (numP r most).1,h')/\HMod (Just p) h h'/\RdrL L h' p (numP r most).2:=by
 rw[call66,c66_0_eq]
 have w0:=w
 obtain ⟨a,c,hc,ha,hne⟩:=w
 obtain ⟨bs,hbs⟩:∃bs,rbs r=bs:=⟨_,rfl⟩
 rw[hbs] at hl hc ha hne
 have hg:=spec_Get (Am.nm h) _ bs ha.nm.row hl
 have h64:=getL_lt bs
 have hle:=getL_len bs
 simp -implicitDefEqProofs only[faR0,faR1,ldB,hc.nm.load,List.getElem?_cons_zero,hg,↓zAc,↓zAb,↓Option.bind_some,↓zAa,sxA]
 by_cases hbad:(getL bs).2=0\/most<(getL bs).1
 ·obtain ⟨h2,e2,Ac,w2⟩:=spec_spoil w0.nm true
  have hp:numP r most=(0,none):=by
   cases r with
   | none=>rfl
   | some bs'=>
          have:bs'=bs:=hbs
          subst this
          simp only[numP];exact if_pos hbad
  rw[hp]
  by_cases h1:(getL bs).2=0
  ·simp -implicitDefEqProofs only[h1,Int.natCast_zero,decide_true,e2,Bool.true_or,↓zAc,↓zAb,↓Option.bind_some,↓zAa,sxA]
   rw[ret66,zBj]
   exact ⟨_,rfl,done_mod (Ac.inn (by simp) fun _ _ h=>h),w2.done⟩
  ·have h3:most<(getL bs).1:=by omega
   simp -implicitDefEqProofs (disch:=omega) only[dcF,dcT,e2,Bool.true_or,↓zAc,↓zAb,↓Option.bind_some,↓zAa,sxA]
   rw[ret66,zBj]
   exact ⟨_,rfl,done_mod (Ac.inn (by simp) fun _ _ h=>h),w2.done⟩
 ·obtain rfl:r=some bs:=by
   cases r with
   | none=>
        have:[]=bs:=hbs
        subst this
        exact absurd (.inl rfl) hbad
   | some bs'=>
          have:bs'=bs:=hbs
          rw[this]
  have hp:numP (some bs) most=((getL bs).1,some (bs.drop (getL bs).2)):=by simp only[numP];exact if_neg hbad
  rw[hp]
  obtain ⟨h2,e2,Ac,w2⟩:=spec_spoil w0.nm false
  obtain ⟨a2,c2,hc2,ha2,hne2⟩:=w2
  simp only[Bool.false_eq_true,if_false,rbs,Option.getD_some] at hc2 ha2 hne2
  obtain ⟨v3,e3,s3,b3⟩:=ha2.sub etB.under etB.size (i:=(getL bs).2) (j:=bs.length) (lo:=some (.int .i64 ((getL bs).2:Nat))) (hi:=none) hle (Nat.le_refl _) (zBq .i64 _) rfl
  obtain ⟨a4,c4,rfl⟩:=s3.shape
  have s4:SB h2 (.slice a4 (bs.drop (getL bs).2).length c4) (bs.drop (getL bs).2):=by
   have el:(bs.drop (getL bs).2).length=bs.length-(getL bs).2:=by simp
   unfold SB
   rw[el]
   rw[Nat.mul_one,Nat.mul_one,<-List.map_drop,List.take_of_length_le (by simp)] at s3
   exact s3
  have el:bs.length-(getL bs).2=(bs.drop (getL bs).2).length:=by simp
  rw[el] at e3 b3
  simp -implicitDefEqProofs (disch:=omega) only[dcF,dcT,e2,Bool.false_or,Option.isNone_some,faR0,ldB,hc2.load,List.getElem?_cons_zero,e3,stB,zAp hc2 (o:=0) (vs:=[.slice a4 (bs.drop (getL bs).2).length c4]) (by simp),↓zAc,↓zAb,↓Option.bind_some,↓zAa,sxA]
  rw[ret66,zBj]
  refine ⟨_,rfl,done_mod ((Ac.inn (by simp) fun _ _ h=>h).trans (In.put (by have:=Ac.len;simpa using this) (.inr (show Just p p from rfl)) _)),?_⟩
  exact (RdrL.put (r:=some (bs.drop (getL bs).2)) hc2 s4 (hne2.to b3)).done
theorem numP_le (r:Option (List UInt8)) (most:Nat):(numP r most).1<=most/\(numP r most).1<2^64/\(rbs (numP r most).2).length<=(rbs r).length/\((numP r most).2=none->(numP r most).1=0):=by
 cases r with
 | none=>simp[numP]
 | some bs=>
  simp only[numP]
  split
  ·simp[rbs]
  ·rename_i h
   have:=getL_lt bs
   refine ⟨by omega,by omega,by simp[rbs],by simp⟩
theorem spec_REnd {L:Nat} {h:Heap} {p:Nat} {r:Option (List UInt8)} (w:RdrL L h p r) :
  evC Tryz.prog 68 #[.pointer (some ⟨p,0,none⟩)] h=some (.bool (endP r),h):=by
 rw[call68,c68_0_eq]
 obtain ⟨a,c,hc,ha,hne⟩:=w
 cases r with
 | none=>
  simp -implicitDefEqProofs only[faR0,faR1,ldB,ldBool,hc.nm.load,List.getElem?_cons_zero,List.getElem?_cons_succ,Option.isNone_none,↓zAc,↓zAb,↓Option.bind_some,↓zAa,sxA]
  rw[ret68,zBj]
  rfl
 | some bs=>
  simp -implicitDefEqProofs only[faR0,faR1,ldB,ldBool,hc.nm.load,List.getElem?_cons_zero,List.getElem?_cons_succ,Option.isNone_some,ha.nm.row.len_eq etB.under,↓zAc,↓zAb,↓Option.bind_some,↓zAa,sxA]
  rw[ret68,zBj]
  cases bs with
  | nil=>rfl
  | cons b bs=>
   have:decide (((rbs (some (b::bs))).length:Int)=0)=false:=decide_eq_false (by simp[rbs];omega)
   rw[this];rfl
end Go.Am
namespace Go.Am
theorem sizeN_pos (n:Nat):1<=sizeN n:=by rw[sizeN];split<;>omega
theorem sizeN_ge (n:Nat):∀k,2^(7*k)<=n->k+1<=sizeN n:=by
 induction n using Nat.strongRecOn with
 | _ n ih=>
  intro k hk
  cases k with
  | zero=>have:=sizeN_pos n;omega
  | succ k=>
   have e:2^(7*(k+1))=2^(7*k)*128:=by rw[Nat.mul_add,Nat.pow_add]
   have hp:0<2^(7*k):=Nat.two_pow_pos _
   rw[sizeN,if_neg (by omega)]
   have:=ih (n / 128) (by omega) k (by rw[Nat.le_div_iff_mul_le (by omega)];omega)
   omega
end Go.Am
namespace Go.Am
open Go.Proofs
theorem sizeN_add (acc c i:Nat) (hi:i<=9) (ha:acc<2^(7*i)) (hc:c<128) (h0:0<c\/i=0):sizeN (acc+c*2^(7*i))=i+1:=by
 have hp:0<2^(7*i):=Nat.two_pow_pos _
 have e:2^(7*(i+1))=128*2^(7*i):=by rw[Nat.mul_add,Nat.pow_add,Nat.mul_comm]
 have h1:acc+c*2^(7*i)<2^(7*(i+1)):=by
  have:c*2^(7*i)<=127*2^(7*i):=Nat.mul_le_mul_right _ (by omega)
  omega
 have h2:=sizeN_le _ _ h1 (by omega)
 rcases h0 with h0 | rfl
 ·have h3:2^(7*i)<=acc+c*2^(7*i):=by
   have:1*2^(7*i)<=c*2^(7*i):=Nat.mul_le_mul_right _ h0
   omega
  have:=sizeN_ge _ _ h3
  omega
 ·have:=sizeN_pos (acc+c*2^(7*0))
  omega
theorem or_add (acc c i:Nat) (ha:acc<2^(7*i)):acc ||| c*2^(7*i)=acc+c*2^(7*i):=by
 have:=Nat.two_pow_add_eq_or_of_lt ha c
 rw[Nat.mul_comm,Nat.or_comm,<-this,Nat.add_comm]
theorem getLoop_step (acc i:Nat) (c:UInt8) (l:List UInt8) (hi:i<10) (ha:acc<2^(7*i)) :
  getLoop acc i (c::l)=if i=9/\1<c.toNat then (0,0) else if c.toNat<128 then (if c.toNat=0/\0<i then (0,0) else (acc+c.toNat % 128*2^(7*i),i+1)) else getLoop (acc+c.toNat % 128*2^(7*i)) (i+1) l:=by
 have hc:=UInt8.toNat_lt c
 by_cases h9:i=9/\1<c.toNat
 ·rw[if_pos h9,getLoop,if_neg (by omega)]
  simp only[]
  by_cases h128:c.toNat<128
  ·rw[if_pos h128,if_pos (.inr ⟨h9.1,h9.2⟩)]
  ·rw[if_neg h128]
   cases l with
   | nil=>rfl
   | cons d l=>rw[getLoop,if_pos (by omega)]
 ·rw[if_neg h9,getLoop,if_neg (by omega)]
  simp only[]
  have hlt:c.toNat % 128*2^(7*i)<2^64:=by
   have h3:(2:Nat)^(7*i)<=2^63:=Nat.pow_le_pow_right (by omega) (by omega)
   by_cases h:i=9
   ·subst h
    have:c.toNat % 128<=1:=by omega
    have:c.toNat % 128*2^(7*9)<=1*2^(7*9):=Nat.mul_le_mul_right _ this
    omega
   ·have h3:(2:Nat)^(7*i)<=2^56:=Nat.pow_le_pow_right (by omega) (by omega)
    have:c.toNat % 128*2^(7*i)<=127*2^56:=Nat.mul_le_mul (by omega) h3
    omega
  rw[Nat.mod_eq_of_lt hlt,or_add _ _ _ ha]
  by_cases h128:c.toNat<128
  ·rw[if_pos h128,if_pos h128]
   by_cases h0:c.toNat=0/\0<i
   ·rw[if_pos h0,if_pos]
    left
    have:=sizeN_le acc i (by omega) h0.2
    rw[h0.1]
    simp only[Nat.zero_mod,Nat.zero_mul,Nat.add_zero]
    omega
   ·rw[if_neg h0,if_neg]
    rw[Nat.mod_eq_of_lt h128]
    rintro (h | h)
    ·exact h (sizeN_add acc c.toNat i (by omega) ha h128 (by omega))
    ·exact h9 ⟨h.1,h.2⟩
  ·rw[if_neg h128,if_neg h128]
end Go.Am
namespace Go.Am
open Go.Proofs
def WrR (n0:Nat) (h:Heap) (p:Nat) (bs:List UInt8):Prop:=∃a c,Cells h p 153 [.slice a bs.length c]/\AB n0 h (.slice a bs.length c) bs/\zAn (.slice a bs.length c)≠some p
theorem WrR.lt {n0:Nat} {h:Heap} {p:Nat} {bs:List UInt8} (w:WrR n0 h p bs):p<h.blks.length:=let ⟨_,_,c,_⟩:=w;c.lt
theorem WrR.put {n0:Nat} {h:Heap} {p:Nat} {a:Option Addr} {bs:List UInt8} {c:Nat} {cs:List Value} (hc:Cells h p 153 cs) (ha:AB n0 h (.slice a bs.length c) bs) (hb:zAn (.slice a bs.length c)≠some p) :
  WrR n0 (h.put p (.cells [.slice a bs.length c])) p bs:=⟨a,c,hc.put _,ha.keepPut hb _,hb⟩
theorem WrR.nm {n0:Nat} {h:Heap} {p:Nat} {bs:List UInt8} (w:WrR n0 h p bs):WrR n0 (Am.nm h) p bs:=let ⟨a,c,x,y,z⟩:=w;⟨a,c,x,y.keep fun _ _ _=>rfl,z⟩
theorem WrR.done {n0:Nat} {h0 h:Heap} {p:Nat} {bs:List UInt8} (w:WrR n0 h p bs):WrR n0 (Am.done h0 h) p bs:=let ⟨a,c,x,y,z⟩:=w;⟨a,c,x.done,y.done,z⟩
theorem WrR.same {n0:Nat} {h h':Heap} {p:Nat} {bs:List UInt8} (w:WrR n0 h p bs) (e:Same h h'):WrR n0 h' p bs:=let ⟨a,c,x,y,z⟩:=w;⟨a,c,x.same e,y.same e,z⟩
theorem WrR.ext {n0:Nat} {h h':Heap} {p:Nat} {bs:List UInt8} (w:WrR n0 h p bs) (e:HExt h h'):WrR n0 h' p bs:=let ⟨a,c,x,y,z⟩:=w;⟨a,c,x.ext e,y.keep fun b hb _=>e.old b hb,z⟩
theorem WrR.up {n0 n1:Nat} {h:Heap} {p:Nat} {bs:List UInt8} (w:WrR n0 h p bs) (hn:n1<=n0):WrR n1 h p bs:=let ⟨a,c,x,y,z⟩:=w;⟨a,c,x,y.up hn,z⟩
def LoR (v:Value) (N p:Nat):Prop:=Lo v N/\N<=p
theorem LoR.ne {v:Value} {N p:Nat} (l:LoR v N p):zAn v≠some p:=(l.1.mono l.2).ne
theorem LoR.to {v w:Value} {N p:Nat} (l:LoR v N p) (e:zAn w=zAn v):LoR w N p:=⟨l.1.to e,l.2⟩
theorem LoR.none {v:Value} {N p:Nat} (l:LoR v N p):LoR (.slice Option.none 0 0) N p:=⟨Lo.nil _ _ _,l.2⟩
def RdrR (N:Nat) (h:Heap) (p:Nat) (r:Option (List UInt8)):Prop:=∃a c,Cells h p 160 [.slice a (rbs r).length c,.bool r.isNone]/\SB h (.slice a (rbs r).length c) (rbs r)/\LoR (.slice a (rbs r).length c) N p
theorem RdrR.lt {N:Nat} {h:Heap} {p:Nat} {r:Option (List UInt8)} (w:RdrR N h p r):p<h.blks.length:=let ⟨_,_,c,_⟩:=w;c.lt
theorem RdrR.nm {N:Nat} {h:Heap} {p:Nat} {r:Option (List UInt8)} (w:RdrR N h p r):RdrR N (Am.nm h) p r:=let ⟨a,c,x,y,z⟩:=w;⟨a,c,x,y.nm,z⟩
theorem RdrR.done {N:Nat} {h0 h:Heap} {p:Nat} {r:Option (List UInt8)} (w:RdrR N h p r):RdrR N (Am.done h0 h) p r:=let ⟨a,c,x,y,z⟩:=w;⟨a,c,x.done,y.done,z⟩
theorem RdrR.same {N:Nat} {h h':Heap} {p:Nat} {r:Option (List UInt8)} (w:RdrR N h p r) (e:Same h h'):RdrR N h' p r:=let ⟨a,c,x,y,z⟩:=w;⟨a,c,x.same e,y.same e,z⟩
theorem RdrR.keepPut {N:Nat} {h:Heap} {p q:Nat} {r:Option (List UInt8)} (w:RdrR N h p r) (hq:p<q) (body:Body):RdrR N (h.put q body) p r:=
 let ⟨a,c,x,y,z⟩:=w;⟨a,c,x.keepPut (by omega) _,y.keepPut (fun e=>by have:=z.1 _ e;have:=z.2;omega) _,z⟩
theorem RdrR.ext {N:Nat} {h h':Heap} {p:Nat} {r:Option (List UInt8)} (w:RdrR N h p r) (e:HExt h h'):RdrR N h' p r:=let ⟨a,c,x,y,z⟩:=w;⟨a,c,x.ext e,y.ext e,z⟩
theorem RdrR.put {N:Nat} {h:Heap} {p:Nat} {a:Option Addr} {r:Option (List UInt8)} {c:Nat} {cs:List Value} (hc:Cells h p 160 cs) (ha:SB h (.slice a (rbs r).length c) (rbs r)) (hb:LoR (.slice a (rbs r).length c) N p) :
  RdrR N (h.put p (.cells [.slice a (rbs r).length c,.bool r.isNone])) p r:=⟨a,c,hc.put _,ha.keepPut hb.ne _,hb⟩
end Go.Am
namespace Go.Am
theorem putL_lt (n:Nat) (h:n<128):putL n=[UInt8.ofNat n]:=by rw[putL,if_pos h]
theorem putL_ge (n:Nat) (h:128<=n):putL n=UInt8.ofNat (n % 128+128)::putL (n / 128):=by rw[putL,if_neg (by omega)]
theorem getLoop_putL (rest:List UInt8) (n:Nat):∀(acc i:Nat),acc<2^(7*i)->acc+n*2^(7*i)<2^64->i+sizeN n<=10->(i=0\/0<n)->
  getLoop acc i (putL n++rest)=(acc+n*2^(7*i),i+sizeN n):=by
 induction n using Nat.strongRecOn with
 | _ n ih=>
  intro acc i ha hs hi hn
  have hp:0<2^(7*i):=Nat.two_pow_pos _
  by_cases h:n<128
  ·have e1:sizeN n=1:=by rw[sizeN,if_pos h]
   have ec:(UInt8.ofNat n).toNat=n:=by simp;omega
   rw[putL_lt n h,List.cons_append,List.nil_append,getLoop_step _ _ _ _ (by omega) ha,ec,if_neg,if_pos h,if_neg (by omega),e1,Nat.mod_eq_of_lt h]
   rintro ⟨h9,h1⟩
   subst h9
   have:2*2^(7*9)<=n*2^(7*9):=Nat.mul_le_mul_right _ h1
   omega
  ·have e1:sizeN n=sizeN (n / 128)+1:=by rw[sizeN,if_neg h]
   have hs1:=sizeN_pos (n / 128)
   have ec:(UInt8.ofNat (n % 128+128)).toNat=n % 128+128:=by simp;omega
   have e:2^(7*(i+1))=128*2^(7*i):=by rw[Nat.mul_add,Nat.pow_add,Nat.mul_comm]
   have em:(n % 128+128) % 128=n % 128:=by omega
   have e2:acc+n % 128*2^(7*i)+n / 128*2^(7*(i+1))=acc+n*2^(7*i):=by
    rw[e,<-Nat.mul_assoc,Nat.add_assoc,<-Nat.add_mul]
    congr 2;omega
   rw[putL_ge n (by omega),List.cons_append,getLoop_step _ _ _ _ (by omega) ha,ec,if_neg (by omega),if_neg (by omega),em,
    ih (n / 128) (by omega) _ (i+1) ?_ (by rw[e2];exact hs) (by omega) (.inr (by omega)),e2,e1]
   ·congr 1;omega
   ·have:n % 128*2^(7*i)<=127*2^(7*i):=Nat.mul_le_mul_right _ (by omega)
    omega
theorem getL_putL (n:Nat) (hn:n<2^64) (rest:List UInt8):getL (putL n++rest)=(n,(putL n).length):=by
 have:=getLoop_putL rest n 0 0 (by omega) (by omega) (by have:=sizeN_le n 10 (by omega) (by omega);omega) (.inl rfl)
 rw[getL,this,putL_len]
 simp
theorem putL_pos (n:Nat):0<(putL n).length:=by rw[putL_len];exact sizeN_pos n
theorem numP_putL (n:Nat) (hn:n<2^64) (rest:List UInt8) (m:Nat) (hm:n<=m):numP (some (putL n++rest)) m=(n,some rest):=by
 have:=putL_pos n
 simp only[numP,getL_putL n hn]
 rw[if_neg (by omega),List.drop_left]
end Go.Am
namespace Go.Am
open Go.Proofs
set_option maxRecDepth 100000
set_option linter.all false
attribute [local congr] zAf zAq zAr zAs zAj zAg
def outB (n w:Nat):Nat:=n &&& (2^64-1-w)
def setP:Option (List UInt8)->Nat->Nat × Option (List UInt8)
 | none,_=>(0,none)
 | some bs,w=>if (getL bs).2=0\/outB (getL bs).1 w≠0 then (0,none) else ((getL bs).1,some (bs.drop (getL bs).2))
theorem anN (t:TypeId) (xo yo:Operand) (n w:Nat) (hn:n<2^64) (hw:w<2^64):zBk Tryz.prog .andNot t xo yo (.int .u64 n) (.int .u64 w)=some (.int .u64 ((outB n w:Nat):Int)):=by
 rw[bin_andNot64 _ _ _ _ _ (by omega) (by omega) (by omega) (by omega),Int.toNat_natCast,Int.toNat_natCast];rfl
theorem spec_Within (n w:Nat) (hn:n<2^64) (hw:w<2^64) (h:Heap):evC Tryz.prog 98 #[.int .u64 n,.int .u64 w] h=some (.bool (decide (outB n w=0)),h):=by
 rw[call98,c98_0_eq]
 have e:=fun t xo yo=>anN t xo yo n w hn hw
 have d:decide (((outB n w:Nat):Int)=0)=decide (outB n w=0):=by congr 1;apply propext;omega
 simp -implicitDefEqProofs only[e,d,↓ret98,↓zAc,↓zAb,↓Option.bind_some,↓zAa,sxA]
theorem spec_RSet {h:Heap} {p:Nat} {r:Option (List UInt8)} (w:Rdr h p r) (most:Nat) (hm:most<2^64) (hl:(rbs r).length<2^40) :
  ∃h',evC Tryz.prog 67 #[.pointer (some ⟨p,0,none⟩),.int .u64 most] h=some (.int .u64 (setP r most).1,h')/\HMod (Just p) h h'/\Rdr h' p (setP r most).2:=by
 rw[call67,c67_0_eq]
 have w0:=w
 obtain ⟨a,c,hc,ha,hne⟩:=w
 obtain ⟨bs,hbs⟩:∃bs,rbs r=bs:=⟨_,rfl⟩
 rw[hbs] at hl hc ha hne
 have hg:=spec_Get (Am.nm h) _ bs ha.nm.row hl
 have h64:=getL_lt bs
 have hle:=getL_len bs
 have hin:=fun h=>spec_Within (getL bs).1 most h64 hm h
 by_cases hbad:(getL bs).2=0\/outB (getL bs).1 most≠0
 ·obtain ⟨h2,e2,Ac,w2⟩:=spec_spoil w0.nm true
  have hp:setP r most=(0,none):=by
   cases r with
   | none=>rfl
   | some bs'=>
          have:bs'=bs:=hbs
          subst this
          simp only[setP];exact if_pos hbad
  rw[hp]
  by_cases h1:(getL bs).2=0
  ·simp -implicitDefEqProofs (disch:=omega) only[faR0,faR1,ldB,hc.nm.load,List.getElem?_cons_zero,hg,h1,dcT,dcF,Int.natCast_zero,decide_true,e2,Bool.true_or,↓ret67,↓zAc,↓zAb,↓Option.bind_some,↓zAa,sxA]
   exact ⟨_,rfl,done_mod (Ac.inn (by simp) fun _ _ h=>h),w2.done⟩
  ·have h3:outB (getL bs).1 most≠0:=by omega
   rw[decide_eq_false h3] at hin
   simp -implicitDefEqProofs (disch:=omega) only[faR0,faR1,ldB,hc.nm.load,List.getElem?_cons_zero,hg,dcF,dcT,hin,e2,Bool.true_or,↓ret67,↓zAc,↓zAb,↓Option.bind_some,↓zAa,sxA]
   exact ⟨_,rfl,done_mod (Ac.inn (by simp) fun _ _ h=>h),w2.done⟩
 ·obtain rfl:r=some bs:=by
   cases r with
   | none=>
        have:[]=bs:=hbs
        subst this
        exact absurd (.inl rfl) hbad
   | some bs'=>
          have:bs'=bs:=hbs
          rw[this]
  have hp:setP (some bs) most=((getL bs).1,some (bs.drop (getL bs).2)):=by simp only[setP];exact if_neg hbad
  rw[hp]
  have hb1:(getL bs).2≠0:=fun e=>hbad (.inl e)
  have hb2:outB (getL bs).1 most=0:=Classical.byContradiction fun e=>hbad (.inr e)
  rw[decide_eq_true hb2] at hin
  obtain ⟨h2,e2,Ac,w2⟩:=spec_spoil w0.nm false
  obtain ⟨a2,c2,hc2,ha2,hne2⟩:=w2
  simp only[Bool.false_eq_true,if_false,rbs,Option.getD_some] at hc2 ha2 hne2
  obtain ⟨a4,c4,e4,s4,b4⟩:=sl_drop ha2 (i:=(getL bs).2) hle .i64
  simp -implicitDefEqProofs (disch:=omega) only[faR0,faR1,ldB,hc.nm.load,List.getElem?_cons_zero,hg,dcF,dcT,hin,e2,Bool.false_or,Option.isNone_some,hc2.load,e4,stB,zAp hc2 (o:=0) (vs:=[.slice a4 (bs.drop (getL bs).2).length c4]) (by simp),↓ret67,↓zAc,↓zAb,↓Option.bind_some,↓zAa,sxA]
  refine ⟨_,rfl,done_mod ((Ac.inn (by simp) fun _ _ h=>h).trans (In.put (by have:=Ac.len;simpa using this) (.inr (show Just p p from rfl)) _)),?_⟩
  exact (RdrL.put (r:=some (bs.drop (getL bs).2)) hc2 s4 (hne2.to b4)).done
theorem spec_WSet {n0:Nat} {h:Heap} {p:Nat} {bs:List UInt8} (w:Wr n0 h p bs) (hn0:n0<=h.blks.length) (n:Nat) (hn:n<2^64) (hl:bs.length<2^39) :
  ∃h',evC Tryz.prog 73 #[.pointer (some ⟨p,0,none⟩),.int .u64 n] h=some (.tuple #[],h')/\HMod (Just p) h h'/\Wr h.blks.length h' p (bs++putL n):=by
 rw[call73,c73_0_eq]
 obtain ⟨h2,e2,Ac,w2⟩:=spec_WNum w.nm (by simpa using hn0) n hn hl
 simp -implicitDefEqProofs only[e2,↓retn73,↓zAc,↓zAb,↓Option.bind_some,↓zAa,sxA]
 exact ⟨_,rfl,done_mod (Ac.inn (by simp) fun _ _ h=>h),w2.done⟩
end Go.Am
namespace Go.Am
open Go.Proofs
set_option maxRecDepth 100000
set_option linter.all false
attribute [local congr] zAf zAq zAr zAs zAj zAg
theorem out16 (t:Nat) (ht:t<2^64):decide (outB t (allN 16)=0)=decide (t<65536):=by
 congr 1
 apply propext
 unfold outB allN
 constructor
 ·intro h
  refine Classical.byContradiction fun hn=>?_
  have hp:2^16<=t:=by omega
  obtain ⟨i,hi⟩:∃i,16<=i/\t.testBit i=true:=Nat.exists_ge_and_testBit_of_ge_two_pow hp
  have:=congrArg (fun x=>x.testBit i) h
  simp only[Nat.testBit_and,hi.2,Nat.zero_testBit,Bool.true_and] at this
  have h64:i<64:=by
   refine Classical.byContradiction fun hc=>?_
   have:=Nat.testBit_lt_two_pow (Nat.lt_of_lt_of_le ht (Nat.pow_le_pow_right (by omega) (show 64<=i by omega)))
   rw[hi.2] at this;cases this
  rw[show 2^64-1-(2^16-1)=2^64-(65535+1) from rfl,Nat.testBit_two_pow_sub_succ (by omega)] at this
  have h3:Nat.testBit 65535 i=false:=Nat.testBit_lt_two_pow (Nat.lt_of_lt_of_le (show 65535<2^16 by omega) (Nat.pow_le_pow_right (by omega) hi.1))
  simp[h64,h3] at this
 ·intro h
  apply Nat.eq_of_testBit_eq
  intro i
  rw[Nat.testBit_and,Nat.zero_testBit,show 2^64-1-(2^16-1)=2^64-(65535+1) from rfl,Nat.testBit_two_pow_sub_succ (by omega)]
  rcases Nat.lt_or_ge i 16 with h1 | h1
  ·have:Nat.testBit 65535 i=true:=by
    rw[show 65535=2^16-1 from rfl,Nat.testBit_two_pow_sub_one];simpa using h1
   simp[this]
  ·rw[Nat.testBit_lt_two_pow (Nat.lt_of_lt_of_le (show t<2^16 from h) (Nat.pow_le_pow_right (by omega) h1))];rfl
def mayE (e:E3):Bool:=decide (0<=e.f) && (decide (e.f<16) && (decide (0<e.n) && decide (e.t<65536)))
theorem spec_may (e:E3) (ht:e.t<2^64) (h:Heap):∃h',evC Tryz.prog 76 #[entV e] h=some (.bool (mayE e),h')/\HExt h h':=by
 rw[call76]
 have c:=Cells.new (nm h) 99 [.int .i64 e.f,.int .u64 e.n,.int .u64 e.t]
 have k1:In h.blks.length No (nm h) ((nm h).new (.cells [.int .i64 e.f,.int .u64 e.n,.int .u64 e.t]) 99):=In.new (h:=nm h) (Nat.le_refl h.blks.length) _ _
 generalize hh:(nm h).new (.cells [.int .i64 e.f,.int .u64 e.n,.int .u64 e.t]) 99=h1 at c k1
 generalize hp:(nm h).blks.length=p at c
 have l0:h1.load1 p 0=some (.int .i64 e.f):=c.load 0
 have l1:h1.load1 p (0+1)=some (.int .u64 e.n):=c.load 1
 have l2:h1.load1 p (0+2)=some (.int .u64 e.t):=c.load 2
 have w1:=fun h=>spec_All 16 (by omega) h
 rw[show ((16:Nat):Int)=16 from rfl] at w1
 have w2:=fun h=>spec_Within e.t (allN 16) ht (by unfold allN;omega) h
 rw[out16 e.t ht] at w2
 have d0:∀n:Nat,decide (((n:Nat):Int)>0)=decide (0<n):=fun n=>by congr 1;apply propext;omega
 unfold mayE
 refine ⟨_,?_,zAl k1⟩
 by_cases h1:0<=e.f
 ·by_cases h2:e.f<16
  ·by_cases h3:0<e.n
   ·simp -implicitDefEqProofs (disch:=omega) only[↓c76_0_eq,↓c76_1_eq,↓c76_2_eq,↓c76_3_eq,↓c76_4_eq,↓d76_0_0,↓d76_0_1,↓d76_0_2,↓d76_0_3,↓d76_0_4,↓d76_0_5,↓d76_0_6,↓d76_0_7,↓d76_0_8,↓d76_0_9,↓d76_0_10,↓d76_0_11,↓d76_0_12,↓d76_0_13,↓d76_0_14,↓d76_0_15,↓d76_0_16,↓d76_0_17,↓d76_0_18,↓d76_0_19,↓d76_0_20,entV,bxE,hh,hp,faE0,faE1,faE2,ldI,ldU,ldS,l0,l1,l2,w1,w2,d0,dcT,dcF,am_nm,nm_mods,List.nil_append,List.append_nil,Bool.true_and,Bool.false_and,↓ret76,↓zAc,↓zAb,↓Option.bind_some,↓zAa,sxB,Nat.reduceBEq]
   ·simp -implicitDefEqProofs (disch:=omega) only[↓c76_0_eq,↓c76_1_eq,↓c76_2_eq,↓c76_3_eq,↓c76_4_eq,↓d76_0_0,↓d76_0_1,↓d76_0_2,↓d76_0_3,↓d76_0_4,↓d76_0_5,↓d76_0_6,↓d76_0_7,↓d76_0_8,↓d76_0_9,↓d76_0_10,↓d76_0_11,↓d76_0_12,↓d76_0_13,↓d76_0_14,↓d76_0_15,↓d76_0_16,↓d76_0_17,↓d76_0_18,↓d76_0_19,↓d76_0_20,entV,bxE,hh,hp,faE0,faE1,faE2,ldI,ldU,ldS,l0,l1,l2,w1,w2,d0,dcT,dcF,am_nm,nm_mods,List.nil_append,List.append_nil,Bool.true_and,Bool.false_and,↓ret76,↓zAc,↓zAb,↓Option.bind_some,↓zAa,sxB,Nat.reduceBEq]
  ·simp -implicitDefEqProofs (disch:=omega) only[↓c76_0_eq,↓c76_1_eq,↓c76_2_eq,↓c76_3_eq,↓c76_4_eq,↓d76_0_0,↓d76_0_1,↓d76_0_2,↓d76_0_3,↓d76_0_4,↓d76_0_5,↓d76_0_6,↓d76_0_7,↓d76_0_8,↓d76_0_9,↓d76_0_10,↓d76_0_11,↓d76_0_12,↓d76_0_13,↓d76_0_14,↓d76_0_15,↓d76_0_16,↓d76_0_17,↓d76_0_18,↓d76_0_19,↓d76_0_20,entV,bxE,hh,hp,faE0,faE1,faE2,ldI,ldU,ldS,l0,l1,l2,w1,w2,d0,dcT,dcF,am_nm,nm_mods,List.nil_append,List.append_nil,Bool.true_and,Bool.false_and,↓ret76,↓zAc,↓zAb,↓Option.bind_some,↓zAa,sxB,Nat.reduceBEq]
 ·simp -implicitDefEqProofs (disch:=omega) only[↓c76_0_eq,↓c76_1_eq,↓c76_2_eq,↓c76_3_eq,↓c76_4_eq,↓d76_0_0,↓d76_0_1,↓d76_0_2,↓d76_0_3,↓d76_0_4,↓d76_0_5,↓d76_0_6,↓d76_0_7,↓d76_0_8,↓d76_0_9,↓d76_0_10,↓d76_0_11,↓d76_0_12,↓d76_0_13,↓d76_0_14,↓d76_0_15,↓d76_0_16,↓d76_0_17,↓d76_0_18,↓d76_0_19,↓d76_0_20,entV,bxE,hh,hp,faE0,faE1,faE2,ldI,ldU,ldS,l0,l1,l2,w1,w2,d0,dcT,dcF,am_nm,nm_mods,List.nil_append,List.append_nil,Bool.true_and,Bool.false_and,↓ret76,↓zAc,↓zAb,↓Option.bind_some,↓zAa,sxB,Nat.reduceBEq]
end Go.Am
namespace Go.Am
open Go.Proofs
set_option maxRecDepth 100000
set_option linter.all false
attribute [local congr] zAf zAq zAr zAs zAj zAg
theorem bxL (v:Value) (h:Heap):boxV Tryz.prog 51 (.agg #[v]) h=some (.pointer (some ⟨h.blks.length,0,none⟩),h.new (.cells [v]) 51):=by kernel_rfl
theorem faL (p:Nat):zAe Tryz.prog 51 (.pointer (some ⟨p,0,none⟩)) 0=some (.pointer (some ⟨p,0,none⟩)):=by kernel_rfl
theorem ldEs (p o:Nat) (h:Heap):zAw Tryz.prog 49 (.pointer (some ⟨p,o,none⟩)) h=h.load1 p o:=by kernel_rfl
theorem lnEs (a:Option Addr) (n c:Nat) (h:Heap):lenV Tryz.prog 49 (.slice a n c) h=some (.int .i64 n):=by kernel_rfl
theorem ldL (p:Nat) (h:Heap):zAw Tryz.prog 51 (.pointer (some ⟨p,0,none⟩)) h=(h.loadN p 0 1).map fun cs=>.agg cs.toArray:=by kernel_rfl
theorem alL (h:Heap):zBp Tryz.prog 51 h=some (.pointer (some ⟨h.blks.length,0,none⟩),h.new (.cells [.slice none 0 0]) 51):=by kernel_rfl
theorem bdL (a:Option Addr) (n c:Nat):buildV Tryz.prog 51 #[(0,.slice a n c)]=some (.agg #[.slice a n c]):=by kernel_rfl
theorem stL (p:Nat) (a:Option Addr) (n c:Nat) (h:Heap):zBc Tryz.prog 51 (.pointer (some ⟨p,0,none⟩)) (.agg #[.slice a n c]) h=h.storeN p 0 [.slice a n c]:=by kernel_rfl
def goodC:Option E3->List E3->Bool
 | _,[]=>true
 | p,e::l=>mayE e && (match p with | none=>true | some q=>decide (cmpE q e<0)) && goodC (some e) l
def prevE (es:List E3) (i:Nat):Option E3:=if i=0 then none else es[i-1]?
def goodE (es:List E3):Bool:=goodC none es
abbrev wide (es:List E3):Prop:=∀e∈es,e.n<2^64/\e.t<2^64
theorem endL {h0:Heap} {v:Value} {r:Option (Value × Heap)} (e:∃h',r=some (v,done h0 h')/\In h0.blks.length No (nm h0) h'):∃h',r=some (v,h')/\HExt h0 h':=let ⟨_,e,k⟩:=e;⟨_,e,zAl k⟩
theorem good_loop {h0 h1:Heap} {v:Value} {es:List E3} {pl:Nat} (s:SE h1 v es) (c:Cells h1 pl 51 [v]) (hw:wide es) (hl:es.length<2^40):∀(m i:Nat),es.length-i=m->i<=es.length->
  ∀(x:Nat->Value) (h:Heap),In h0.blks.length No (nm h0) h->Same h1 h->x 1=.pointer (some ⟨pl,0,none⟩)->x 6=v->x 7=.int .i64 es.length->x 8=.int .i64 i->
  ∃h',lK c69_1 32 x h (zAu 0 (sK c69_2 (zBb Tryz.f69 Tryz.prog h0)))=some (.bool (goodC (prevE es i) (es.drop i)),done h0 h')/\In h0.blks.length No (nm h0) h':=by
 intro m
 induction m with
 | zero=>
  intro i h1 h2 x h hin hs Ab Ag Ah Ai
  obtain rfl:i=es.length:=by omega
  rw[lK_eq,List.drop_length]
  simp -implicitDefEqProofs (disch:=omega) only[↓c69_1_eq,↓c69_2_eq,Ah,Ai,dcF,goodC,↓ret69,↓zAc,↓zAb,↓Option.bind_some,↓zAa,sxB,Nat.reduceBEq]
  exact ⟨_,rfl,hin⟩
 | succ m ih=>
  intro i hm hi x h hin hs Ab Ag Ah Ai
  have hil:i<es.length:=by omega
  rw[lK_eq,List.drop_eq_getElem_cons hil]
  obtain ⟨b,o,hb,hbl,e1,e2⟩:=s.at' (t:=49) (el:=99) (by kernel_rfl) (by kernel_rfl) hil
  obtain ⟨f1,f2,f3,f4⟩:=e2 h (hs.2 b hbl)
  obtain ⟨hA,hB,a1,a2,a3,a4,a5,a6⟩:=var_ent (Nat.le_trans hin.le hin.len) es[i]
  have w:=hw es[i] (List.getElem_mem hil)
  obtain ⟨hC,g1,g2⟩:=spec_may es[i] w.2 hB
  have wi:IntKind.i64.wrap ((i:Int)+1)=((i+1:Nat):Int):=by rw[wrap_i64]<;>omega
  have hin3:=(hin.trans (a4 No)).trans (g2.inn (Nat.le_trans (a4 No).le (a4 No).len))
  have hs3:=(hs.trans a5).trans g2.same
  have ne:es[i]::es.drop (i+1)=es[i]::es.drop (i+1):=rfl
  cases hmay:mayE es[i] with
  | false=>
   rw[hmay] at g1
   simp -implicitDefEqProofs (disch:=omega) only[↓c69_1_eq,↓c69_2_eq,Ab,Ag,Ah,Ai,e1,ldE,f1,Option.map_some,entA,a1,a2,a6,g1,dcT,dcF,goodC,hmay,Bool.false_and,↓ret69,↓zAc,↓zAb,↓Option.bind_some,↓zAa,sxB,Nat.reduceBEq]
   exact ⟨_,rfl,hin3⟩
  | true=>
   rw[hmay] at g1
   by_cases hi0:i=0
   ·subst hi0
    simp -implicitDefEqProofs (disch:=omega) only[↓c69_1_eq,↓c69_2_eq,Ab,Ag,Ah,Ai,e1,ldE,f1,Option.map_some,entA,a1,a2,a6,g1,dcT,dcF,goodC,hmay,prevE,Bool.true_and,wi,↓ret69,↓zAc,↓zAb,↓Option.bind_some,↓zAa,sxB,Nat.reduceBEq]
    have hpv':prevE es (0+1)=some es[0]:=by unfold prevE;rw[if_neg (by omega),List.getElem?_eq_getElem hil]
    rw[<-hpv']
    refine ih 1 (by omega) (by omega) _ _ hin3 hs3 ?_ ?_ ?_ ?_
    exact Ab
    exact Ag
    exact Ah
    rfl
   ·have hp:i-1<es.length:=by omega
    obtain ⟨b',o',hb',hbl',e1',e2'⟩:=s.at' (t:=49) (el:=99) (by kernel_rfl) (by kernel_rfl) hp
    obtain ⟨f1',_⟩:=e2' hC (hs3.2 b' hbl')
    have wp:IntKind.i64.wrap ((i:Int)-1)=((i-1:Nat):Int):=by rw[wrap_i64]<;>omega
    have c3:=c.same hs3
    have a3':=a3.ext g2
    have l3:hC.load1 pl 0=some v:=c3.load 0
    have l4:(hC.loadN h.blks.length 0 3).map (fun cs=>Value.agg cs.toArray)=some (entV es[i]):=by rw[a3'.loadN (n:=3) rfl];rfl
    obtain ⟨hD,q1,q2⟩:=spec_order es[i-1] es[i] hC
    have hpv:prevE es i=some es[i-1]:=by unfold prevE;rw[if_neg hi0,List.getElem?_eq_getElem hp]
    have hin4:=hin3.trans (q2.inn (Nat.le_trans hin3.le hin3.len))
    have hs4:=hs3.trans q2.same
    by_cases hc:cmpE es[i-1] es[i]<0
    ·simp -implicitDefEqProofs (disch:=omega) only[↓c69_1_eq,↓c69_2_eq,Ab,Ag,Ah,Ai,e1,ldE,f1,f1',Option.map_some,entA,a1,a2,a6,g1,dcT,dcF,goodC,hmay,hpv,Bool.true_and,wi,wp,faL,ldEs,l3,e1',l4,q1,decide_eq_true hc,↓ret69,↓zAc,↓zAb,↓Option.bind_some,↓zAa,sxB,Nat.reduceBEq]
     have hpv':prevE es (i+1)=some es[i]:=by unfold prevE;rw[if_neg (by omega),Nat.add_sub_cancel,List.getElem?_eq_getElem hil]
     rw[<-hpv']
     refine ih (i+1) (by omega) (by omega) _ _ hin4 hs4 ?_ ?_ ?_ ?_
     exact Ab
     exact Ag
     exact Ah
     rfl
    ·simp -implicitDefEqProofs (disch:=omega) only[↓c69_1_eq,↓c69_2_eq,Ab,Ag,Ah,Ai,e1,ldE,f1,f1',Option.map_some,entA,a1,a2,a6,g1,dcT,dcF,goodC,hmay,hpv,Bool.true_and,Bool.and_false,Bool.false_and,wi,wp,faL,ldEs,l3,e1',l4,q1,decide_eq_false hc,↓ret69,↓zAc,↓zAb,↓Option.bind_some,↓zAa,sxB,Nat.reduceBEq]
     exact ⟨_,rfl,hin4⟩
theorem spec_Good {h:Heap} {v:Value} {es:List E3} (s:SE h v es) (hw:wide es) (hl:es.length<2^40):∃h',evC Tryz.prog 69 #[.agg #[v]] h=some (.bool (goodE es),h')/\HExt h h':=by
 rw[call69]
 have c:=Cells.new (nm h) 51 [v]
 have s1:SE ((nm h).new (.cells [v]) 51) v es:=s.nm.keepNew _ _
 have k1:In h.blks.length No (nm h) ((nm h).new (.cells [v]) 51):=In.new (h:=nm h) (Nat.le_refl h.blks.length) _ _
 obtain ⟨a,cc,rfl⟩:=s.shape
 have l0:((nm h).new (.cells [.slice a es.length cc]) 51).load1 (nm h).blks.length 0=some (.slice a es.length cc):=c.load 0
 have lp:=good_loop (h0:=h) s1 c hw hl es.length 0 (by omega) (by omega)
 simp -implicitDefEqProofs (disch:=omega) only[↓c69_0_eq,bxL,faL,ldEs,l0,lnEs,↓zAc,↓zAb,↓Option.bind_some,↓zAa,sxB,Nat.reduceBEq]
 refine endL (lp _ _ k1 (Same.refl _) ?_ ?_ ?_ ?_)
 all_goals rfl
theorem mkE0 (h:Heap):zAi Tryz.prog 49 0 #[] h=some (.slice (some ⟨h.blks.length,0,none⟩) 0 0,h.new (.cells []) 99):=by kernel_rfl
theorem nilE (xo yo:Operand):zBk Tryz.prog .eql 49 xo yo (.slice none 0 0) (.slice none 0 0)=some (.bool true):=by kernel_rfl
theorem AE.empty (n0:Nat) (h:Heap) (hn:n0<=h.blks.length):AE n0 (h.new (.cells []) 99) (.slice (some ⟨h.blks.length,0,none⟩) 0 0) []:=.full (all:=[]) hn (by omega) (zBn _ _ _) (by simp) rfl
theorem spec_CloneE {h:Heap} {v:Value} {es:List E3} (s:SE h v es) (hl:es.length<2^39):∃a c h',evC Tryz.prog 53 #[v] h=some (.slice a es.length c,h')/\HExt h h'/\AE h.blks.length h' (.slice a es.length c) es:=by
 rw[call53]
 obtain ⟨a,c,rfl⟩:=s.shape
 cases a with
 | none=>
  obtain ⟨rfl,rfl⟩:es=[]/\c=0:=by
   rcases s.inv with ⟨h1,h2,_⟩ | ⟨b,o,c',h1,_⟩
   ·injection h1 with _ _ h4;exact ⟨List.eq_nil_of_length_eq_zero h2,h4⟩
   ·injection h1 with h4;cases h4
  refine ⟨none,0,h,?_,HExt.refl _,AE.nil _ _⟩
  simp -implicitDefEqProofs (disch:=omega) only[↓c53_0_eq,List.length_nil,nilE,↓ret53,↓zAc,↓zAb,↓Option.bind_some,↓zAa,sxB,Nat.reduceBEq]
 | some ad=>
  have e0:=fun xo yo=>bin_nil_some (P:=Tryz.prog) (t:=49) (e:=99) (by kernel_rfl) xo yo ad es.length c
  have hn:h.blks.length<=(nm h).blks.length:=Nat.le_refl _
  obtain ⟨a2,c2,h2,e2,a3,k2,_⟩:=app_ents etE etE.under (n0:=h.blks.length) (h:=(nm h).new (.cells []) 99) (by simp[Heap.new]) (AE.empty _ _ hn) (s.nm.keepNew (.cells []) 99) (by simp;omega)
  simp only[List.nil_append] at e2 a3
  refine ⟨a2,c2,done h h2,?_,zAl ((In.new (h:=nm h) hn _ _).trans k2.inn),a3.done⟩
  simp -implicitDefEqProofs (disch:=omega) only[↓c53_0_eq,e0,mkE0,e2,↓ret53,↓zAc,↓zAb,↓Option.bind_some,↓zAa,sxB,Nat.reduceBEq]
theorem spec_clone {h:Heap} {v:Value} {es:List E3} (s:SE h v es) (hl:es.length<2^39):∃a c h',evC Tryz.prog 75 #[.agg #[v]] h=some (.agg #[.slice a es.length c],h')/\HExt h h'/\AE h.blks.length h' (.slice a es.length c) es:=by
 rw[call75]
 have c1:=(Cells.new (nm h) 51 [v]).keepNew (.cells [.slice none 0 0]) 51
 have c2:=Cells.new ((nm h).new (.cells [v]) 51) 51 [.slice none 0 0]
 have s2:SE (((nm h).new (.cells [v]) 51).new (.cells [.slice none 0 0]) 51) v es:=(s.nm.keepNew _ _).keepNew _ _
 have k2:In h.blks.length No (nm h) (((nm h).new (.cells [v]) 51).new (.cells [.slice none 0 0]) 51):=(In.new (h:=nm h) (Nat.le_refl h.blks.length) _ _).trans (In.new (by simp[Heap.new]) _ _)
 have e0:(nm h).blks.length=h.blks.length:=rfl
 have e1:((nm h).new (.cells [v]) 51).blks.length=h.blks.length+1:=by simp[Heap.new]
 rw[e0] at c1
 rw[e1] at c2
 have hlen:(((nm h).new (.cells [v]) 51).new (.cells [.slice none 0 0]) 51).blks.length=h.blks.length+2:=by simp[Heap.new]
 generalize hh:(((nm h).new (.cells [v]) 51).new (.cells [.slice none 0 0]) 51)=h2 at c1 c2 s2 k2 hlen
 have l0:h2.load1 h.blks.length 0=some v:=c1.load 0
 obtain ⟨a,c,h3,e3,Ad,a3⟩:=spec_CloneE s2 hl
 have c3:=c2.ext Ad
 have c4:=c3.put [.slice a es.length c]
 have l4:(Heap.loadN (h3.put (h.blks.length+1) (.cells [.slice a es.length c])) (h.blks.length+1) 0 1).map (fun cs=>Value.agg cs.toArray)=some (.agg #[.slice a es.length c]):=by rw[c4.loadN (n:=1) rfl];rfl
 have a4:AE h.blks.length (h3.put (h.blks.length+1) (.cells [.slice a es.length c])) (.slice a es.length c) es:=(a3.keepPut (fun e=>by have:=a3.ge e;omega) _).up (by omega)
 refine ⟨a,c,_,?_,zAl ((k2.trans (Ad.inn (by omega))).trans (In.put (by have:=Ad.len;omega) (.inl (by omega)) _)),a4.done⟩
 simp -implicitDefEqProofs (disch:=omega) only[↓c75_0_eq,bxL,alL,e0,e1,hh,faL,ldEs,l0,e3,bdL,stL,zAp c3 (o:=0) (vs:=[.slice a es.length c]) (by simp),List.take_zero,List.nil_append,List.append_nil,List.length_cons,List.length_nil,List.drop_succ_cons,List.drop_zero,Nat.zero_add,ldL,l4,rvals,↓ret75,↓zAc,↓zAb,↓Option.bind_some,↓zAa,sxB,Nat.reduceBEq]
end Go.Am
namespace Go.Am
open Go.Proofs
set_option maxRecDepth 100000
set_option linter.all false
variable {P:Program}
theorem Acc.store {n0:Nat} {h:Heap} {elem:TypeId} {es:Nat} {v:Value} {n:Nat} {cs:List Value} (a:Acc n0 h elem es v n cs) (hn:0<n) :
  ∃b o,zAn v=some b/\n0<=b/\b<h.blks.length/\(∀ {t:TypeId},P.underlying t=some (.slice elem)->sizeT P elem=some es->∀(k:IntKind) (i:Nat),i<n->zAh P t v (.int k i)=some (.pointer (some ⟨b,o+i*es,none⟩))) ∧
   ∀(j:Nat) (vs:List Value),j+vs.length<=n*es->∃h',h.storeN b (o+j) vs=some h'/\Acc n0 h' elem es v n (cs.take j++vs++cs.drop (j+vs.length))/\(∀S,In n0 S h h')/\h'.blks.length=h.blks.length/\(∀q,q≠b->h'.blks[q]?=h.blks[q]?):=by
 have main:∀ {b o c:Nat} {all:List Value},n0<=b->h.blks[b]?=some ⟨.cells all,elem,true⟩->o+n*es<=all.length->(all.drop o).take (n*es)=cs->(c=n/\n<2^62\/c=UNK)->v=.slice (some ⟨b,o,none⟩) n c->
   ∃b o,zAn v=some b/\n0<=b/\b<h.blks.length/\(∀ {t:TypeId},P.underlying t=some (.slice elem)->sizeT P elem=some es->∀(k:IntKind) (i:Nat),i<n->zAh P t v (.int k i)=some (.pointer (some ⟨b,o+i*es,none⟩))) ∧
   ∀(j:Nat) (vs:List Value),j+vs.length<=n*es->∃h',h.storeN b (o+j) vs=some h'/\Acc n0 h' elem es v n (cs.take j++vs++cs.drop (j+vs.length))/\(∀S,In n0 S h h')/\h'.blks.length=h.blks.length/\(∀q,q≠b->h'.blks[q]?=h.blks[q]?):=by
  intro b o c all hb0 hb hle he hc hv
  subst hv
  refine ⟨b,o,rfl,hb0,lt_of_blk hb,fun ht hs k i hi=>?_,fun j vs hj=>?_⟩
  ·unfold zAh
   simp only[ht,zBq,hs,if_pos hi]
  ·have hput:(h.put b (.cells (all.take (o+j)++vs++all.drop (o+j+vs.length)))).blks[b]?=some ⟨.cells (all.take (o+j)++vs++all.drop (o+j+vs.length)),elem,true⟩:=by
    rw[blk_put_self hb]
   have hnew:((all.take (o+j)++vs++all.drop (o+j+vs.length)).drop o).take (n*es)=cs.take j++vs++cs.drop (j+vs.length):=by
    rw[<-he]
    apply List.ext_getElem?
    intro k
    simp only[List.getElem?_take,List.getElem?_drop,List.getElem?_append,List.length_take,List.length_append,List.length_drop]
    have hall:o+n*es<=all.length:=hle
    rw[Nat.min_eq_left (show o+j<=all.length by omega),Nat.min_eq_left (show n*es<=all.length-o by omega),Nat.min_eq_left (show j<=n*es by omega)]
    by_cases h1:k<j
    ·simp only[show k<n*es by omega,show o+k<o+j+vs.length by omega,show o+k<o+j by omega,show k<j+vs.length by omega,h1,if_true]
    ·by_cases h2:k<j+vs.length
     ·rw[if_pos (by omega),if_pos (by omega),if_neg (by omega),if_pos (by omega),if_neg (by omega)]
      congr 1;omega
     ·by_cases h3:k<n*es
      ·rw[if_pos (by omega),if_neg (by omega),if_neg (by omega),if_pos (by omega)]
       congr 1;omega
      ·rw[if_neg (by omega),if_neg (by omega),if_neg (by omega)]
   have hlen:o+n*es<=(all.take (o+j)++vs++all.drop (o+j+vs.length)).length:=by simp;omega
   refine ⟨_,zAp hb (by omega),?_,fun S=>In.put (Nat.le_of_lt (Nat.lt_of_le_of_lt hb0 (lt_of_blk hb))) (.inl hb0) _,Heap.put_len _ _ _,fun q hq=>Heap.put_other hq _⟩
   rcases hc with ⟨rfl,h62⟩ | rfl
   ·exact .full hb0 h62 hput hlen hnew
   ·exact .unk hb0 hput hlen hnew
 cases a with
 | nil=>omega
 | full h1 h2 hb hle he=>exact main h1 hb hle he (.inl ⟨rfl,h2⟩) rfl
 | unk h1 hb hle he=>exact main h1 hb hle he (.inr rfl) rfl
theorem entL_setT:∀(es:List E3) (i:Nat) (hi:i<es.length) (t:Nat),(entL es).take (i*3+2)++[.int .u64 (t:Int)]++(entL es).drop (i*3+2+1)=entL (es.set i { es[i] with t:=t })
 | e::es,0,_,t=>rfl
 | e::es,i+1,hi,t=>by
  rw[show (i+1)*3+2=(i*3+2)+1+1+1 by omega,show (i*3+2)+1+1+1+1=(i*3+2+1)+1+1+1 by omega]
  simp only[entL,List.take_succ_cons,List.drop_succ_cons,List.cons_append,List.set_cons_succ,List.getElem_cons_succ]
  rw[<-entL_setT es i (by simpa using hi) t]
theorem AE.setT {n0:Nat} {h:Heap} {v:Value} {es:List E3} (a:AE n0 h v es) {i:Nat} (hi:i<es.length) (t:Nat) :
  ∃b o h',zAn v=some b/\n0<=b/\b<h.blks.length/\(∀k,zAh Tryz.prog 49 v (.int k i)=some (.pointer (some ⟨b,o,none⟩)))/\h.load1 b (o+2)=some (.int .u64 es[i].t) ∧
   h.storeN b (o+2) [.int .u64 t]=some h'/\AE n0 h' v (es.set i { es[i] with t:=t })/\(∀S,In n0 S h h')/\h'.blks.length=h.blks.length/\(∀q,q≠b->h'.blks[q]?=h.blks[q]?):=by
 obtain ⟨b,o,e1,e2,e3,e4,e5⟩:=Acc.store (P:=Tryz.prog) a (by omega)
 obtain ⟨h',g1,g2,g3,g4,g5⟩:=e5 (i*3+2) [.int .u64 (t:Int)] (by simp;omega)
 obtain ⟨b',o',q1,_,q3,q4⟩:=a.se.at' (t:=49) (el:=99) (by kernel_rfl) (by kernel_rfl) hi
 have q5:=e4 (t:=49) (by kernel_rfl) (by kernel_rfl) .i64 i hi
 have q6:=q3 .i64
 rw[q5] at q6
 injection q6 with q6
 injection q6 with q6
 injection q6 with q6
 injection q6 with q7 q8
 subst q7 q8
 refine ⟨b,o+i*3,h',e1,e2,e3,fun k=>e4 (by kernel_rfl) (by kernel_rfl) k i hi,(q4 h rfl).2.2.2,by rw[Nat.add_assoc];exact g1,?_,g3,g4,g5⟩
 rw[List.length_singleton,entL_setT es i hi t] at g2
 show Acc n0 h' _ 3 v (es.set i _).length _
 rw[List.length_set]
 exact g2
theorem In.dn {n0 n1:Nat} {S:Nat->Prop} {h h':Heap} (k:In n1 S h h') (hn:n0<=n1):In n0 S h h':=
 ⟨Nat.le_trans hn k.le,k.len,fun b hb hs=>k.old b (Nat.lt_of_lt_of_le hb hn) hs,fun m hm=>(k.mods m hm).imp id (Or.imp (fun h=>Nat.le_trans hn h) id)⟩
theorem Keeps.dn {n0 n1:Nat} {h h':Heap} (k:Keeps n1 h h') (hn:n0<=n1):Keeps n0 h h':=⟨Nat.le_trans hn k.le,k.len,fun b hb=>k.old b (Nat.lt_of_lt_of_le hb hn),fun m hm=>(k.mods m hm).imp id (fun h=>Nat.le_trans hn h)⟩
end Go.Am
namespace Go.Am
open Go.Proofs
set_option maxRecDepth 100000
set_option linter.all false
theorem pureRun_ite {α:Type} {P:Program} (c:Prop) [Decidable c] (a b:Sem α):pureRun P (if c then a else b)=if c then pureRun P a else pureRun P b:=by split<;>rfl
theorem eq_parts (a b:E3):pureRun Tryz.prog (Op.equal 87 (entV a) (entV b))=some ((a.f == b.f) && ((a.n:Int) == b.n) && ((a.t:Int) == b.t)):=by
 have s0:pureRun Tryz.prog (program)=some Tryz.prog:=rfl
 have q1:∀d (x y:Int),pureRun Tryz.prog (Op.equalIn (d+1) 3 (.int .i64 x) (.int .i64 y))=some (x == y):=fun d x y=>by
  simp only[Op.equalIn]
  rw[pureRun_bind,pureRun_under Tryz.underlying3]
  rfl
 have q2:∀d (x y:Int),pureRun Tryz.prog (Op.equalIn (d+1) 30 (.int .u64 x) (.int .u64 y))=some (x == y):=fun d x y=>by
  simp only[Op.equalIn]
  rw[pureRun_bind,pureRun_under Tryz.underlying30]
  rfl
 have p0:∀x y z:Value,pureRun Tryz.prog (part 3 #[x,y,z] 0)=some x:=fun _ _ _=>by kernel_rfl
 have p1:∀x y z:Value,pureRun Tryz.prog (part 30 #[x,y,z] 1)=some y:=fun _ _ _=>by kernel_rfl
 have p2:∀x y z:Value,pureRun Tryz.prog (part 30 #[x,y,z] 2)=some z:=fun _ _ _=>by kernel_rfl
 have st:Tryz.prog.stoodInHeld 87=false:=by kernel_rfl
 show pureRun Tryz.prog (Op.equalIn (9999+1) 87 (.agg #[.int .i64 a.f,.int .u64 a.n,.int .u64 a.t]) (.agg #[.int .i64 b.f,.int .u64 b.n,.int .u64 b.t]))=_
 rw[Op.equalIn.eq_def]
 simp only[]
 rw[pureRun_bind,pureRun_under Tryz.underlying87]
 have q1':=fun x y=>q1 9998 x y
 have q2':=fun x y=>q2 9998 x y
 simp only[Nat.reduceAdd] at q1' q2'
 simp only[Option.bind_some,pureRun_bind,s0,st,Bool.false_eq_true,if_false,forIn,ForIn.forIn,List.forIn'_toArray,List.forIn'_cons,List.forIn'_nil,ne_eq,String.reduceEq,not_false_eq_true,if_true,p0,p1,p2,q1',q2',pureRun_ite]
 generalize (a.f == b.f)=p
 generalize hq:(((a.n:Nat):Int) == ((b.n:Nat):Int))=q
 generalize hr:(((a.t:Nat):Int) == ((b.t:Nat):Int))=r
 cases p
 ·rfl
 ·simp only[Bool.not_true,Bool.false_eq_true,if_false,pureRun_pure,Option.bind_some,pureRun_bind,p1,q2',hq,pureRun_ite]
  cases q
  ·rfl
  ·simp only[Bool.not_true,Bool.false_eq_true,if_false,pureRun_pure,Option.bind_some,pureRun_bind,p2,q2',hr,pureRun_ite]
   cases r<;>rfl
theorem neqR (xo yo:Operand) (a b:E3):zBk Tryz.prog .neq 87 xo yo (entV a) (entV b)=some (.bool (!decide (a=b))):=by
 have hg:∀e:E3,zBg (entV e)=true:=fun e=>by simp[zBg,entV,ground0]
 have e1:=eq_parts a b
 have e2:((a.f == b.f) && ((a.n:Int) == b.n) && ((a.t:Int) == b.t))=decide (a=b):=by
  obtain ⟨f,n,t⟩:=a
  obtain ⟨f',n',t'⟩:=b
  simp only[E3.mk.injEq]
  by_cases h1:f=f'<;>by_cases h2:n=n'<;>by_cases h3:t=t'<;>simp[h1,h2,h3]<;>omega
 rw[e2] at e1
 have eg:pureRun Tryz.prog (eqGuard .neq 87 xo yo (entV a) (entV b))=some ():=by kernel_rfl
 unfold zBk
 rw[if_pos (by rw[hg,hg];rfl)]
 refine pureV_of ?_ rfl
 rw[pureRun_bind,eg,Option.bind_some]
 show pureRun Tryz.prog (do let r <-Op.equal 87 (entV a) (entV b);pure (Value.bool (!r)))=_
 rw[pureRun_bind,e1]
 rfl
end Go.Am
namespace Go.Am
open Go.Proofs
set_option maxRecDepth 100000
set_option linter.all false
attribute [local congr] zAf zAq zAr zAs zAj zAg
theorem bdR3 (a b c:Int):buildV Tryz.prog 87 #[(0,.int .i64 a),(1,.int .u64 b),(2,.int .u64 c)]=some (.agg #[.int .i64 a,.int .u64 b,.int .u64 c]):=by kernel_rfl
theorem lnRs (a:Option Addr) (n c:Nat) (h:Heap):lenV Tryz.prog 31 (.slice a n c) h=some (.int .i64 n):=by kernel_rfl
theorem Acc.off {n0:Nat} {h:Heap} {elem:TypeId} {es n:Nat} {v:Value} {cs:List Value} (a:Acc n0 h elem es v n cs) {n1:Nat} (hn:n1<=n0) {q:Nat} (hq:q<n1):zAn v≠some q:=fun e=>by have:=a.ge e;omega
theorem log1_loop {h0 h1:Heap} {v:Value} {es:List E3} (s:SE h1 v es) (hl:es.length<2^38) (hn:h0.blks.length<=h1.blks.length) :
  ∀(m i:Nat),es.length-i=m->i<=es.length->∀(x:Nat->Value) (h:Heap) (a:Option Addr) (c:Nat),In h0.blks.length No (nm h0) h->Same h1 h->AR h1.blks.length h (.slice a (es.take i).length c) (es.take i)->
  x 0=v->x 3=.slice a (es.take i).length c->x 4=.int .i64 i->
  ∃a' c' h',lK c16_1 31 x h (zAu 0 (sK c16_2 (zBb Tryz.f16 Tryz.prog h0)))=some (.slice a' es.length c',done h0 h')/\In h0.blks.length No (nm h0) h'/\AR h1.blks.length h' (.slice a' es.length c') es:=by
 intro m
 obtain ⟨va,vc,rfl⟩:=s.shape
 induction m with
 | zero=>
  intro i e1 e2 x h a c hin hs ha Aa Ad Ae
  obtain rfl:i=es.length:=by omega
  rw[List.take_length] at ha Ad
  rw[lK_eq]
  refine ⟨a,c,h,?_,hin,ha⟩
  simp -implicitDefEqProofs (disch:=omega) only[↓c16_1_eq,↓c16_2_eq,Aa,Ad,Ae,lnEs,dcF,↓ret16,↓zAc,↓zAb,↓Option.bind_some,↓zAa,sxB,Nat.reduceBEq]
 | succ m ih=>
  intro i hm hi x h a c hin hs ha Aa Ad Ae
  have hil:i<es.length:=by omega
  obtain ⟨b,of,hb,hbl,e1,e2⟩:=s.at' (t:=49) (el:=99) (by kernel_rfl) (by kernel_rfl) hil
  obtain ⟨f1,f2,f3,f4⟩:=e2 h (hs.2 b hbl)
  have wi:IntKind.i64.wrap ((i:Int)+1)=((i+1:Nat):Int):=by rw[wrap_i64]<;>omega
  have hol:(es.take i).length<2^39:=by rw[List.length_take];omega
  obtain ⟨a',c',hD,q1,q2,q3,q4⟩:=app_ent etR (n0:=h1.blks.length) hs.1 ha es[i] hol
  have ht:es.take i++[es[i]]=es.take (i+1):=by rw[List.take_succ,List.getElem?_eq_getElem hil];rfl
  rw[ht] at q1 q2
  have hsD:Same h1 hD:=⟨Nat.le_trans hs.1 q3.len,fun q hq=>(q4 q (Nat.lt_of_lt_of_le hq hs.1) (Acc.off ha (Nat.le_refl _) hq)).trans (hs.2 q hq)⟩
  have hinD:=hin.trans (Keeps.inn (S:=No) (q3.dn hn))
  rw[lK_eq]
  simp -implicitDefEqProofs (disch:=omega) only[↓c16_1_eq,↓c16_2_eq,Aa,Ad,Ae,lnEs,dcT,e1,faE0,faE1,faE2,ldI,ldU,ldS,f2,f3,f4,bdR3,entA,bsR,show ([.int .i64 es[i].f,.int .u64 es[i].n,.int .u64 es[i].t]:List Value)=entC es[i] from rfl,q1,wi,↓zAc,↓zAb,↓Option.bind_some,↓zAa,sxB,Nat.reduceBEq]
  refine ih (i+1) (by omega) (by omega) _ hD a' c' hinD hsD q2 ?_ ?_ ?_
  ·exact Aa
  ·rfl
  ·rfl
theorem spec_log1 {h:Heap} {v:Value} {es:List E3} (s:SE h v es) (hl:es.length<2^38):∃a c h',evC Tryz.prog 16 #[v] h=some (.slice a es.length c,h')/\HExt h h'/\AR h.blks.length h' (.slice a es.length c) es:=by
 rw[call16]
 have lp:=log1_loop (h0:=h) s.nm hl (Nat.le_refl _) es.length 0 (by omega) (by omega)
 have fin':∀ {r:Option (Value × Heap)},(∃a c h',r=some (.slice a es.length c,done h h')/\In h.blks.length No (nm h) h'/\AR (nm h).blks.length h' (.slice a es.length c) es)->∃a c h',r=some (.slice a es.length c,h')/\HExt h h'/\AR h.blks.length h' (.slice a es.length c) es:=fun ⟨a,c,h',q1,q2,q3⟩=>⟨a,c,_,q1,zAl q2,Acc.done q3⟩
 simp -implicitDefEqProofs (disch:=omega) only[↓c16_0_eq,↓zAc,↓zAb,↓Option.bind_some,↓zAa,sxB,Nat.reduceBEq]
 refine fin' (lp _ _ none 0 (In.refl (Nat.le_refl _)) (Same.refl _) (AR.nil _ _) ?_ ?_ ?_)
 all_goals rfl
theorem logs_loop {h0 h1:Heap} {v w:Value} {es fs:List E3} (s:SE h1 v es) (s2:SE h1 w fs) (hl:es.length<2^38) (he:es.length=fs.length) :
  ∀(m i:Nat),es.length-i=m->i<=es.length->∀(x:Nat->Value),x 0=v->x 1=w->x 5=.int .i64 i->
  lK c15_1 26 x h1 (zAu 0 (sK c15_2 (zBb Tryz.f15 Tryz.prog h0)))=some (.bool (decide (es.drop i=fs.drop i)),done h0 h1):=by
 intro m
 obtain ⟨va,vc,rfl⟩:=s.shape
 induction m with
 | zero=>
  intro i e1 e2 x Aa Ab Af
  obtain rfl:i=es.length:=by omega
  have e3:decide (es.drop es.length=fs.drop es.length)=true:=decide_eq_true (by rw[List.drop_length,he,List.drop_length])
  rw[lK_eq,e3]
  simp -implicitDefEqProofs (disch:=omega) only[↓c15_1_eq,↓c15_2_eq,Aa,Ab,Af,lnRs,dcF,↓ret15,↓zAc,↓zAb,↓Option.bind_some,↓zAa,sxB,Nat.reduceBEq]
 | succ m ih=>
  intro i hm hi x Aa Ab Af
  have hil:i<es.length:=by omega
  have hil2:i<fs.length:=by omega
  obtain ⟨b,of,hb,hbl,e1,e2⟩:=s.at' (t:=31) (el:=87) (by kernel_rfl) (by kernel_rfl) hil
  obtain ⟨b',of',hb',hbl',e1',e2'⟩:=s2.at' (t:=31) (el:=87) (by kernel_rfl) (by kernel_rfl) hil2
  obtain ⟨f1,_⟩:=e2 h1 rfl
  obtain ⟨g1,_⟩:=e2' h1 rfl
  have wi:IntKind.i64.wrap ((i:Int)+1)=((i+1:Nat):Int):=by rw[wrap_i64]<;>omega
  have hd:decide (es.drop i=fs.drop i)=(decide (es[i]=fs[i]) && decide (es.drop (i+1)=fs.drop (i+1))):=by
   rw[List.drop_eq_getElem_cons hil,List.drop_eq_getElem_cons hil2]
   simp only[List.cons.injEq,Bool.decide_and]
  rw[lK_eq,hd]
  by_cases hc:es[i]=fs[i]
  ·have d1:decide (es[i]=fs[i])=true:=decide_eq_true hc
   rw[d1,Bool.true_and]
   simp -implicitDefEqProofs (disch:=omega) only[↓c15_1_eq,↓c15_2_eq,Aa,Ab,Af,lnRs,dcT,e1,e1',ldR,f1,g1,Option.map_some,entA,neqR,d1,wi,↓zAc,↓zAb,↓Option.bind_some,↓zAa,sxB,Nat.reduceBEq]
   refine ih (i+1) (by omega) (by omega) _ ?_ ?_ ?_
   ·exact Aa
   ·exact Ab
   ·rfl
  ·have d1:decide (es[i]=fs[i])=false:=decide_eq_false hc
   rw[d1,Bool.false_and]
   simp -implicitDefEqProofs (disch:=omega) only[↓c15_1_eq,↓c15_2_eq,Aa,Ab,Af,lnRs,dcT,e1,e1',ldR,f1,g1,Option.map_some,entA,neqR,d1,↓ret15,↓zAc,↓zAb,↓Option.bind_some,↓zAa,sxB,Nat.reduceBEq]
theorem spec_logs {h:Heap} {v w:Value} {es fs:List E3} (s:SE h v es) (s2:SE h w fs) (hl:es.length<2^38) (hl2:fs.length<2^38):evC Tryz.prog 15 #[v,w] h=some (.bool (decide (es=fs)),h):=by
 rw[call15]
 obtain ⟨va,vc,rfl⟩:=s.shape
 obtain ⟨wa,wc,rfl⟩:=s2.shape
 by_cases he:es.length=fs.length
 ·have lp:=logs_loop (h0:=h) s.nm s2.nm hl he es.length 0 (by omega) (by omega)
  rw[List.drop_zero,List.drop_zero] at lp
  have d1:decide ((es.length:Int)≠(fs.length:Int))=false:=decide_eq_false (by omega)
  simp -implicitDefEqProofs (disch:=omega) only[↓c15_0_eq,lnRs,d1,↓zAc,↓zAb,↓Option.bind_some,↓zAa,sxB,Nat.reduceBEq]
  refine Eq.trans (lp _ ?_ ?_ ?_) (by rw[done_nm])
  all_goals rfl
 ·have d1:decide ((es.length:Int)≠(fs.length:Int))=true:=decide_eq_true (by omega)
  rw[decide_eq_false (fun e=>he (by rw[e]))]
  simp -implicitDefEqProofs (disch:=omega) only[↓c15_0_eq,lnRs,d1,↓ret15,↓zAc,↓zAb,↓Option.bind_some,↓zAa,sxB,Nat.reduceBEq]
end Go.Am
namespace Go.Am
open Go.Proofs
set_option maxRecDepth 100000
set_option linter.all false
attribute [local congr] zAf zAq zAr zAs zAj zAg
def ltE (a b:E3):Prop:=a.f<b.f\/a.f=b.f/\a.n<b.n
theorem cmpE_lt (a b:E3):cmpE a b<0 ↔ ltE a b:=by
 unfold cmpE ltE
 by_cases h1:a.f<b.f
 ·simp[h1]
 ·by_cases h2:b.f<a.f
  ·have:¬(a.f=b.f):=by omega
   simp[h1,h2,this]
  ·have:a.f=b.f:=by omega
   by_cases h3:a.n<b.n
   ·simp[h1,h2,h3,this]
   ·by_cases h4:b.n<a.n<;>simp[h1,h2,h3,h4,this]
theorem cmpE_eq (a b:E3):cmpE a b=0 ↔ a.f=b.f/\a.n=b.n:=by
 unfold cmpE
 by_cases h1:a.f<b.f
 ·simp[h1];omega
 ·by_cases h2:b.f<a.f
  ·simp[h1,h2];omega
  ·have:a.f=b.f:=by omega
   by_cases h3:a.n<b.n
   ·simp[h1,h2,h3,this];omega
   ·by_cases h4:b.n<a.n
    ·simp[h1,h2,h3,h4,this];omega
    ·simp[h1,h2,h3,h4,this];omega
theorem ltE_trans {a b c:E3} (h:ltE a b) (k:ltE b c):ltE a c:=by unfold ltE at *;omega
theorem ltE_irr (a:E3):¬ltE a a:=by unfold ltE;omega
abbrev Srt (es:List E3):Prop:=es.Pairwise ltE
theorem goodC_inv:∀(es:List E3) (p:Option E3),goodC p es=true->(∀e∈es,mayE e=true)/\Srt es/\∀q,p=some q->∀e∈es,ltE q e
 | [],p,_=>⟨by simp,.nil,by simp⟩
 | e::l,p,h=>by
  simp only[goodC,Bool.and_eq_true] at h
  obtain ⟨⟨h1,h2⟩,h3⟩:=h
  obtain ⟨g1,g2,g3⟩:=goodC_inv l (some e) h3
  have g4:=g3 e rfl
  have h4:∀q,p=some q->ltE q e:=fun q hq=>by
   subst hq
   exact (cmpE_lt q e).1 (of_decide_eq_true h2)
  refine ⟨fun x hx=>?_,List.pairwise_cons.2 ⟨fun x hx=>g4 x hx,g2⟩,fun q hq x hx=>?_⟩
  ·rcases List.mem_cons.1 hx with rfl | hx
   ·exact h1
   ·exact g1 x hx
  ·rcases List.mem_cons.1 hx with rfl | hx
   ·exact h4 q hq
   ·exact ltE_trans (h4 q hq) (g4 x hx)
theorem goodC_of:∀(es:List E3) (p:Option E3),(∀e∈es,mayE e=true)->Srt es->(∀q,p=some q->∀e∈es,ltE q e)->goodC p es=true
 | [],p,_,_,_=>rfl
 | e::l,p,h1,h2,h3=>by
  obtain ⟨h4,h5⟩:=List.pairwise_cons.1 h2
  simp only[goodC,Bool.and_eq_true]
  refine ⟨⟨h1 e (by simp),?_⟩,goodC_of l (some e) (fun x hx=>h1 x (by simp[hx])) h5 (fun q hq x hx=>by cases hq;exact h4 x hx)⟩
  cases p with
  | none=>rfl
  | some q=>exact decide_eq_true ((cmpE_lt q e).2 (h3 q rfl e (by simp)))
theorem zBi (es:List E3):goodE es=true ↔ (∀e∈es,mayE e=true)/\Srt es:=
 ⟨fun h=>⟨(goodC_inv es none h).1,(goodC_inv es none h).2.1⟩,fun h=>goodC_of es none h.1 h.2 (fun q hq=>by cases hq)⟩
def bsK (es:List E3) (t:E3):Nat:=(es.takeWhile fun e=>decide (cmpE e t<0)).length
def bsF (es:List E3) (t:E3):Bool:=match es[bsK es t]? with | some e=>decide (cmpE e t=0) | none=>false
theorem bsK_eq:∀(es:List E3) (t:E3) (i:Nat),i<=es.length->(∀l (hl:l<es.length),l<i->ltE es[l] t)->(∀(h:i<es.length),¬ltE es[i] t)->bsK es t=i
 | [],t,i,h,_,_=>by simp at h;subst h;rfl
 | e::es,t,0,_,_,h2=>by
  have:=h2 (by simp)
  have:¬cmpE e t<0:=fun h=>this ((cmpE_lt _ _).1 h)
  simp[bsK,this]
 | e::es,t,i+1,h,h1,h2=>by
  have h3:cmpE e t<0:=(cmpE_lt _ _).2 (h1 0 (by simp) (by omega))
  have:=bsK_eq es t i (by simpa using h) (fun l hl hli=>h1 (l+1) (by simpa using hl) (by omega)) (fun hi=>h2 (by simpa using hi))
  simp only[bsK,List.takeWhile_cons,decide_eq_true h3,if_true,List.length_cons] at this ⊢
  rw[this]
theorem callOrd (a b:Value) (h:Heap):callV Tryz.prog (evC Tryz.prog) (.func (.func 78) #[] #[]) #[a,b] h=evC Tryz.prog 78 #[a,b] h:=by kernel_rfl
theorem cvUi (n:Int) (h:Heap) (h0:0<=n) (h1:n<2^63):convV Tryz.prog 66 3 (.int .u64 n) h=some (.int .i64 n,h):=conv_i64 (ks:=.u64) (by kernel_rfl) (by kernel_rfl) _ _ _ (by omega) h1
theorem bs_loop {h0 h1:Heap} {v:Value} {es:List E3} {t:E3} {p:Nat} (s:SE h1 v es) (hst:Srt es) (hl:es.length<2^40) (hn:h0.blks.length<=h1.blks.length) (c:Cells h1 p 99 (entC t)) :
  ∀(m i j:Nat),j-i<=m->i<=j->j<=es.length->(∀l (hl:l<es.length),l<i->ltE es[l] t)->(∀l (hl:l<es.length),j<=l->¬ltE es[l] t)->∀(x:Nat->Value) (h:Heap),In h0.blks.length No (nm h0) h->Same h1 h->
  x 0=v->x 2=.func (.func 78) #[] #[]->x 4=.pointer (some ⟨p,0,none⟩)->x 8=.int .i64 es.length->x 9=.int .i64 i->x 10=.int .i64 j->
  ∃h',lK c77_1 49 x h (zAu 0 (sK c77_2 (zBb Tryz.f77 Tryz.prog h0)))=some (.tuple #[.int .i64 (bsK es t:Nat),.bool (bsF es t)],done h0 h')/\In h0.blks.length No (nm h0) h':=by
 intro m
 induction m with
 | zero=>
  intro i j hm hij hj lo hi x h hin hs Aa Ac Ae Ai Aj Ak
  obtain rfl:i=j:=by omega
  have hk:=bsK_eq es t i hj lo (fun hi'=>hi i hi' (Nat.le_refl _))
  have ce:(h.loadN p 0 3).map (fun cs=>Value.agg cs.toArray)=some (entV t):=by rw[(c.same hs).loadN (n:=3) rfl];rfl
  rw[lK_eq]
  by_cases hil:i<es.length
  ·obtain ⟨b,of,hb,hbl,e1,e2⟩:=s.at' (t:=49) (el:=99) (by kernel_rfl) (by kernel_rfl) hil
   obtain ⟨f1,_⟩:=e2 h (hs.2 b hbl)
   obtain ⟨hD,q1,q2⟩:=spec_order es[i] t h
   have hf:bsF es t=decide (cmpE es[i] t=0):=by unfold bsF;rw[hk,List.getElem?_eq_getElem hil]
   rw[hk,hf]
   refine ⟨hD,?_,hin.trans (q2.inn (Nat.le_trans hin.le hin.len))⟩
   cases hc:decide (cmpE es[i] t=0) <;>
   simp -implicitDefEqProofs (disch:=omega) only[↓c77_1_eq,↓c77_2_eq,Aa,Ac,Ae,Ai,Aj,Ak,dcT,dcF,e1,ldE,f1,Option.map_some,entA,ce,callOrd,q1,hc,↓ret77,↓zAc,↓zAb,↓Option.bind_some,↓zAa,sxB,Nat.reduceBEq]
  ·have hf:bsF es t=false:=by unfold bsF;rw[hk,List.getElem?_eq_none (by omega)]
   rw[hk,hf]
   refine ⟨h,?_,hin⟩
   simp -implicitDefEqProofs (disch:=omega) only[↓c77_1_eq,↓c77_2_eq,Aa,Ac,Ae,Ai,Aj,Ak,dcF,↓ret77,↓zAc,↓zAb,↓Option.bind_some,↓zAa,sxB,Nat.reduceBEq]
 | succ m ih=>
  intro i j hm hij hj lo hi x h hin hs Aa Ac Ae Ai Aj Ak
  by_cases hij':i=j
  ·exact ih i j (by omega) hij hj lo hi x h hin hs Aa Ac Ae Ai Aj Ak
  ·have hlt:i<j:=by omega
   have ce:(h.loadN p 0 3).map (fun cs=>Value.agg cs.toArray)=some (entV t):=by rw[(c.same hs).loadN (n:=3) rfl];rfl
   have w1:IntKind.i64.wrap ((i:Int)+(j:Int))=((i+j:Nat):Int):=by rw[wrap_i64]<;>omega
   obtain ⟨k,hk⟩:∃k,k=(i+j) / 2:=⟨_,rfl⟩
   have sh:∀t xo yo,zBk Tryz.prog .shr t xo yo (.int .u64 ((i+j:Nat):Int)) (.int .u64 1)=some (.int .u64 (k:Nat)):=fun t xo yo=>by
    have:=shrN t xo yo .u64 (i+j) 1 (by omega) (by omega)
    rw[hk];exact this
   have hkl:k<es.length:=by omega
   obtain ⟨b,of,hb,hbl,e1,e2⟩:=s.at' (t:=49) (el:=99) (by kernel_rfl) (by kernel_rfl) hkl
   obtain ⟨f1,_⟩:=e2 h (hs.2 b hbl)
   obtain ⟨hD,q1,q2⟩:=spec_order es[k] t h
   have hin2:=hin.trans (q2.inn (Nat.le_trans hin.le hin.len))
   have hs2:=hs.trans q2.same
   have wk:IntKind.i64.wrap ((k:Int)+1)=((k+1:Nat):Int):=by rw[wrap_i64]<;>omega
   rw[lK_eq]
   by_cases hc:cmpE es[k] t<0
   ·simp -implicitDefEqProofs (disch:=omega) only[↓c77_1_eq,↓c77_2_eq,Aa,Ac,Ae,Ai,Aj,Ak,dcT,w1,cvUint,sh,cvUi,e1,ldE,f1,Option.map_some,entA,ce,callOrd,q1,decide_eq_true hc,wk,↓zAc,↓zAb,↓Option.bind_some,↓zAa,sxB,Nat.reduceBEq]
    have hlk:=(cmpE_lt _ _).1 hc
    refine ih (k+1) j (by omega) (by omega) hj (fun l hl hlk'=>?_) hi _ hD hin2 hs2 ?_ ?_ ?_ ?_ ?_ ?_
    ·rcases Nat.lt_or_ge l k with h | h
     ·exact ltE_trans (List.pairwise_iff_getElem.1 hst l k hl hkl h) hlk
     ·obtain rfl:l=k:=by omega
      exact hlk
    ·exact Aa
    ·exact Ac
    ·exact Ae
    ·exact Ai
    ·rfl
    ·exact Ak
   ·simp -implicitDefEqProofs (disch:=omega) only[↓c77_1_eq,↓c77_2_eq,Aa,Ac,Ae,Ai,Aj,Ak,dcT,w1,cvUint,sh,cvUi,e1,ldE,f1,Option.map_some,entA,ce,callOrd,q1,decide_eq_false hc,↓zAc,↓zAb,↓Option.bind_some,↓zAa,sxB,Nat.reduceBEq]
    have hlk:¬ltE es[k] t:=fun h=>hc ((cmpE_lt _ _).2 h)
    refine ih i k (by omega) (by omega) (by omega) lo (fun l hl hlk'=>?_) _ hD hin2 hs2 ?_ ?_ ?_ ?_ ?_ ?_
    ·rcases Nat.lt_or_ge k l with h | h
     ·exact fun h2=>hlk (ltE_trans (List.pairwise_iff_getElem.1 hst k l hkl hl h) h2)
     ·obtain rfl:l=k:=by omega
      exact hlk
    ·exact Aa
    ·exact Ac
    ·exact Ae
    ·exact Ai
    ·exact Aj
    ·rfl
theorem spec_BS {h:Heap} {v:Value} {es:List E3} (s:SE h v es) (hst:Srt es) (hl:es.length<2^40) (t:E3) :
  ∃h',evC Tryz.prog 77 #[v,entV t,.func (.func 78) #[] #[]] h=some (.tuple #[.int .i64 (bsK es t:Nat),.bool (bsF es t)],h')/\HExt h h':=by
 rw[call77]
 have c:=Cells.new (nm h) 99 (entC t)
 have s1:SE ((nm h).new (.cells (entC t)) 99) v es:=s.nm.keepNew _ _
 have k1:In h.blks.length No (nm h) ((nm h).new (.cells (entC t)) 99):=In.new (h:=nm h) (Nat.le_refl h.blks.length) _ _
 obtain ⟨a,cc,rfl⟩:=s.shape
 have lp:=bs_loop (h0:=h) s1 hst hl (by simp[Heap.new]) c es.length 0 es.length (by omega) (by omega) (by omega) (fun _ _ h=>absurd h (Nat.not_lt_zero _)) (fun l hl h=>absurd hl (Nat.not_lt.2 h))
 have bx:∀h,boxV Tryz.prog 99 (entV t) h=some (.pointer (some ⟨h.blks.length,0,none⟩),h.new (.cells (entC t)) 99):=fun h=>bxE _ _ _ h
 simp -implicitDefEqProofs (disch:=omega) only[↓c77_0_eq,bx,lnEs,↓zAc,↓zAb,↓Option.bind_some,↓zAa,sxB,Nat.reduceBEq]
 refine endL (lp _ _ k1 (Same.refl _) ?_ ?_ ?_ ?_ ?_ ?_)
 all_goals rfl
end Go.Am
namespace Go.Am
open Go.Proofs
set_option maxRecDepth 100000
set_option linter.all false
attribute [local congr] zAf zAq zAr zAs zAj zAg
theorem entL_setE:∀(es:List E3) (i:Nat) (hi:i<es.length) (x:E3),(entL es).take (i*3)++entC x++(entL es).drop (i*3+3)=entL (es.set i x)
 | e::es,0,_,x=>rfl
 | e::es,i+1,hi,x=>by
  rw[show (i+1)*3=(i*3)+1+1+1 by omega,show (i*3)+1+1+1+3=(i*3+3)+1+1+1 by omega]
  simp only[entL,List.take_succ_cons,List.drop_succ_cons,List.cons_append,List.set_cons_succ]
  rw[<-entL_setE es i (by simpa using hi) x]
theorem AE.setE {n0:Nat} {h:Heap} {v:Value} {es:List E3} (a:AE n0 h v es) {i:Nat} (hi:i<es.length) (x:E3) :
  ∃b o h',zAn v=some b/\n0<=b/\b<h.blks.length/\(∀k,zAh Tryz.prog 49 v (.int k i)=some (.pointer (some ⟨b,o,none⟩))) ∧
   h.storeN b o (entC x)=some h'/\AE n0 h' v (es.set i x)/\(∀S,In n0 S h h')/\h'.blks.length=h.blks.length/\(∀q,q≠b->h'.blks[q]?=h.blks[q]?):=by
 obtain ⟨b,o,e1,e2,e3,e4,e5⟩:=Acc.store (P:=Tryz.prog) a (by omega)
 obtain ⟨h',g1,g2,g3,g4,g5⟩:=e5 (i*3) (entC x) (by simp[entC];omega)
 refine ⟨b,o+i*3,h',e1,e2,e3,fun k=>e4 (by kernel_rfl) (by kernel_rfl) k i hi,g1,?_,g3,g4,g5⟩
 rw[show (entC x).length=3 from rfl,entL_setE es i hi x] at g2
 show Acc n0 h' _ 3 v (es.set i _).length _
 rw[List.length_set]
 exact g2
theorem stEo (p o:Nat) (e:E3) (h:Heap):zBc Tryz.prog 99 (.pointer (some ⟨p,o,none⟩)) (entV e) h=h.storeN p o (entC e):=by kernel_rfl
theorem stEsl (p:Nat) (a:Option Addr) (n c:Nat) (h:Heap):zBc Tryz.prog 49 (.pointer (some ⟨p,0,none⟩)) (.slice a n c) h=h.storeN p 0 [.slice a n c]:=by kernel_rfl
theorem bxEe (e:E3) (h:Heap):boxV Tryz.prog 99 (entV e) h=some (.pointer (some ⟨h.blks.length,0,none⟩),h.new (.cells (entC e)) 99):=by kernel_rfl
def insE (es:List E3) (x:E3):List E3:=es.take (bsK es x)++x::es.drop (bsK es x)
def addE (es:List E3) (x:E3):List E3:=if goodE es=true/\mayE x=true then (if bsF es x=true then es.set (bsK es x) x else insE es x) else es
def InsOk (es:List E3) (x:E3):Prop:=goodE es=true->mayE x=true->bsF es x=false->∀(n0:Nat) (h:Heap) (a:Option Addr) (c:Nat),n0<=h.blks.length->AE n0 h (.slice a es.length c) es->
 ∃a' c' h',evC Tryz.prog 79 #[.slice a es.length c,.int .i64 (bsK es x:Nat),.slice (some ⟨h.blks.length,0,none⟩) 1 1] (h.new (.cells (entC x)) 99)=some (.slice a' (insE es x).length c',h') ∧
  AE n0 h' (.slice a' (insE es x).length c') (insE es x)/\Keeps n0 h h'/\(∀q,q<h.blks.length->zAn (.slice a es.length c)≠some q->h'.blks[q]?=h.blks[q]?)
theorem bsF_lt {es:List E3} {x:E3} (h:bsF es x=true):bsK es x<es.length:=by
 unfold bsF at h
 split at h
 ·rename_i e he;exact (List.getElem?_eq_some_iff.1 he).1
 ·cases h
theorem spec_Add {h:Heap} {v:Value} {es:List E3} (s:SE h v es) (hw:wide es) (hl:es.length<2^38) (x:E3) (hx:x.t<2^64) (hins:InsOk es x) :
  ∃a c h',evC Tryz.prog 36 #[.agg #[v],entV x] h=some (.agg #[.slice a (addE es x).length c],h')/\HExt h h'/\AE h.blks.length h' (.slice a (addE es x).length c) (addE es x):=by
 rw[call36]
 have c1:=((Cells.new (nm h) 51 [v]).keepNew (.cells (entC x)) 99).keepNew (.cells [.slice none 0 0]) 51
 have c2:=(Cells.new ((nm h).new (.cells [v]) 51) 99 (entC x)).keepNew (.cells [.slice none 0 0]) 51
 have c3:=Cells.new (((nm h).new (.cells [v]) 51).new (.cells (entC x)) 99) 51 [.slice none 0 0]
 have s1:SE ((((nm h).new (.cells [v]) 51).new (.cells (entC x)) 99).new (.cells [.slice none 0 0]) 51) v es:=((s.nm.keepNew _ _).keepNew _ _).keepNew _ _
 have k1:In h.blks.length No (nm h) ((((nm h).new (.cells [v]) 51).new (.cells (entC x)) 99).new (.cells [.slice none 0 0]) 51):=((In.new (h:=nm h) (Nat.le_refl h.blks.length) _ _).trans (In.new (by simp[Heap.new]) _ _)).trans (In.new (by simp[Heap.new,Nat.add_assoc]) _ _)
 have e0:(nm h).blks.length=h.blks.length:=rfl
 have e1:((nm h).new (.cells [v]) 51).blks.length=h.blks.length+1:=by simp[Heap.new]
 have e2:(((nm h).new (.cells [v]) 51).new (.cells (entC x)) 99).blks.length=h.blks.length+2:=by simp[Heap.new]
 rw[e0] at c1
 rw[e1] at c2
 rw[e2] at c3
 have hlen:((((nm h).new (.cells [v]) 51).new (.cells (entC x)) 99).new (.cells [.slice none 0 0]) 51).blks.length=h.blks.length+3:=by simp[Heap.new]
 generalize hh:(((nm h).new (.cells [v]) 51).new (.cells (entC x)) 99).new (.cells [.slice none 0 0]) 51=h1 at c1 c2 c3 s1 k1 hlen
 have lA:(h1.loadN h.blks.length 0 1).map (fun cs=>Value.agg cs.toArray)=some (.agg #[v]):=by rw[c1.loadN (n:=1) rfl];rfl
 obtain ⟨a,c,h3,e3,Ad,a3⟩:=spec_clone s1 (by omega)
 have c13:=c1.ext Ad
 have c23:=c2.ext Ad
 have c33:=c3.ext Ad
 have hx3:=Ad.len
 have b0:∀i,i<h.blks.length+3->zAn (.slice a es.length c)≠some i:=fun i hi e=>by have:=a3.ge e;omega
 have c14:=c13.put [.slice a es.length c]
 have c24:=c23.keepPut (q:=h.blks.length) (by omega) (.cells [.slice a es.length c])
 have c34:=c33.keepPut (q:=h.blks.length) (by omega) (.cells [.slice a es.length c])
 have a4:AE (h.blks.length+3) (h3.put h.blks.length (.cells [.slice a es.length c])) (.slice a es.length c) es:=(a3.keepPut (b0 _ (by omega)) _).up (by omega)
 have k4:=(k1.trans (Ad.inn (by omega))).trans (In.put (S:=No) (by omega) (p:=h.blks.length) (.inl (by omega)) (.cells [.slice a es.length c]))
 have hs4:=zAp c13 (o:=0) (vs:=[.slice a es.length c]) (by simp)
 have hl4:(h3.put h.blks.length (.cells [.slice a es.length c])).blks.length=h3.blks.length:=Heap.put_len _ _ _
 simp only[List.take_zero,List.nil_append,List.append_nil,List.length_cons,List.length_nil,List.drop_succ_cons,List.drop_zero,Nat.zero_add] at hs4
 generalize hh4:h3.put h.blks.length (.cells [.slice a es.length c])=h4 at c14 c24 c34 a4 k4 hs4 hl4
 have l4:(h4.loadN h.blks.length 0 1).map (fun cs=>Value.agg cs.toArray)=some (.agg #[.slice a es.length c]):=by rw[c14.loadN (n:=1) rfl];rfl
 obtain ⟨h5,e5,Af⟩:=spec_Good a4.se hw (by omega)
 have hx5:=Af.len
 have c15:=c14.ext Af
 have c25:=c24.ext Af
 have c35:=c34.ext Af
 have a5:AE (h.blks.length+3) h5 (.slice a es.length c) es:=a4.same Af.same
 have k5:=k4.trans (Af.inn (Nat.le_trans k4.le k4.len))
 -- what is answered where nothing is added
 have out:∀ {h6:Heap} {es':List E3} {a' c'},In h.blks.length No (nm h) h6->Cells h6 h.blks.length 51 [.slice a' es'.length c']->Cells h6 (h.blks.length+2) 51 [.slice none 0 0]->AE (h.blks.length+3) h6 (.slice a' es'.length c') es'->
   ∃h7,(h6.loadN h.blks.length 0 1).map (fun cs=>Value.agg cs.toArray)=some (.agg #[.slice a' es'.length c'])/\h6.storeN (h.blks.length+2) 0 [.slice a' es'.length c']=some h7/\(h7.loadN (h.blks.length+2) 0 1).map (fun cs=>Value.agg cs.toArray)=some (.agg #[.slice a' es'.length c'])/\HExt h (done h h7)/\AE h.blks.length (done h h7) (.slice a' es'.length c') es':=fun {h6 es' a' c'} k g1 g2 ha=>by
  have d:=g2.put [.slice a' es'.length c']
  refine ⟨h6.put (h.blks.length+2) (.cells [.slice a' es'.length c']),by rw[g1.loadN (n:=1) rfl];rfl,?_,by rw[d.loadN (n:=1) rfl];rfl,zAl (k.trans (In.put (S:=No) (Nat.le_trans k.le k.len) (p:=h.blks.length+2) (.inl (by omega)) _)),((ha.keepPut (fun e=>by have:=ha.ge e;omega) _).up (by omega)).done⟩
  rw[zAp g2 (by simp)];rfl
 unfold addE
 cases hg:goodE es with
 | false=>
  rw[hg] at e5
  obtain ⟨h7,o1,o2,o3,o4,o5⟩:=out k5 c15 c35 a5
  rw[if_neg (by simp)]
  refine ⟨a,c,_,?_,o4,o5⟩
  simp -implicitDefEqProofs (disch:=omega) only[↓c36_0_eq,bxL,bxEe,alL,e0,e1,e2,hh,ldL,lA,e3,stL,hs4,l4,e5,o1,o2,o3,rvals,↓ret36,↓zAc,↓zAb,↓Option.bind_some,↓zAa,sxB,Nat.reduceBEq]
 | true=>
  rw[hg] at e5
  have lx:∀ {h':Heap},Cells h' (h.blks.length+1) 99 (entC x)->(h'.loadN (h.blks.length+1) 0 3).map (fun cs=>Value.agg cs.toArray)=some (entV x):=fun g=>by rw[g.loadN (n:=3) rfl];rfl
  obtain ⟨h6,e6,Ag⟩:=spec_may x hx h5
  have hx6:=Ag.len
  have c16:=c15.ext Ag
  have c26:=c25.ext Ag
  have c36:=c35.ext Ag
  have a6:AE (h.blks.length+3) h6 (.slice a es.length c) es:=a5.same Ag.same
  have k6:=k5.trans (Ag.inn (Nat.le_trans k5.le k5.len))
  cases hm:mayE x with
  | false=>
   rw[hm] at e6
   obtain ⟨h7,o1,o2,o3,o4,o5⟩:=out k6 c16 c36 a6
   rw[if_neg (by simp)]
   refine ⟨a,c,_,?_,o4,o5⟩
   simp -implicitDefEqProofs (disch:=omega) only[↓c36_0_eq,bxL,bxEe,alL,e0,e1,e2,hh,ldL,lA,e3,stL,hs4,l4,e5,ldE,lx c25,e6,o1,o2,o3,rvals,↓ret36,↓zAc,↓zAb,↓Option.bind_some,↓zAa,sxB,Nat.reduceBEq]
  | true=>
   rw[hm] at e6
   have ls6:h6.load1 h.blks.length 0=some (.slice a es.length c):=c16.load 0
   obtain ⟨h7,e7,Ah⟩:=spec_BS a6.se ((zBi es).1 hg).2 (by omega) x
   have hx7:=Ah.len
   have c17:=c16.ext Ah
   have c27:=c26.ext Ah
   have c37:=c36.ext Ah
   have a7:AE (h.blks.length+3) h7 (.slice a es.length c) es:=a6.same Ah.same
   have k7:=k6.trans (Ah.inn (Nat.le_trans k6.le k6.len))
   have ls7:h7.load1 h.blks.length 0=some (.slice a es.length c):=c17.load 0
   rw[if_pos ⟨rfl,rfl⟩]
   cases hb:bsF es x with
   | true=>
    rw[hb] at e7
    obtain ⟨b,o,h8,f1,f2,f3,f4,f5,f6,f7,f8,f9⟩:=a7.setE (bsF_lt hb) x
    have e9:(es.set (bsK es x) x).length=es.length:=List.length_set ..
    rw[<-e9] at f6
    have g1:Cells h8 h.blks.length 51 [.slice a (es.set (bsK es x) x).length c]:=by rw[e9];exact (f9 _ (by omega)).trans c17
    have g2:Cells h8 (h.blks.length+2) 51 [.slice none 0 0]:=(f9 _ (by omega)).trans c37
    obtain ⟨h9,o1,o2,o3,o4,o5⟩:=out (k7.trans ((f7 No).dn (by omega))) g1 g2 f6
    rw[e9] at o1 o2 o3 o5
    simp only[if_true]
    rw[e9]
    refine ⟨a,c,_,?_,o4,o5⟩
    simp -implicitDefEqProofs (disch:=omega) only[↓c36_0_eq,bxL,bxEe,alL,e0,e1,e2,hh,ldL,lA,e3,stL,hs4,l4,e5,ldE,lx c25,lx c26,e6,faL,ldEs,ls6,e7,extractV_tuple,ls7,lx c27,f4,stEo,f5,o1,o2,o3,rvals,↓ret36,↓zAc,↓zAb,↓Option.bind_some,↓zAa,sxB,Nat.reduceBEq]
   | false=>
    rw[hb] at e7
    obtain ⟨a',c',h8,f1,f2,f3,f4⟩:=hins hg hm hb (h.blks.length+3) h7 a c (by omega) a7
    have bs:=bsE x h7
    have g1:Cells h8 h.blks.length 51 [.slice a es.length c]:=(f4 _ (by omega) (b0 _ (by omega))).trans c17
    have g2:Cells h8 (h.blks.length+2) 51 [.slice none 0 0]:=(f4 _ (by omega) (b0 _ (by omega))).trans c37
    have hs8:=zAp g1 (o:=0) (vs:=[.slice a' (insE es x).length c']) (by simp)
    simp only[List.take_zero,List.nil_append,List.append_nil,List.length_cons,List.length_nil,List.drop_succ_cons,List.drop_zero,Nat.zero_add] at hs8
    have g3:=g1.put [.slice a' (insE es x).length c']
    have g4:=g2.keepPut (q:=h.blks.length) (by omega) (.cells [.slice a' (insE es x).length c'])
    have kk:=k7.trans (Keeps.inn (S:=No) (f3.dn (by omega)))
    have k8:=kk.trans (In.put (S:=No) (Nat.le_trans kk.le kk.len) (p:=h.blks.length) (.inl (by omega)) (.cells [.slice a' (insE es x).length c']))
    have a8:=Acc.keepPut f2 (p:=h.blks.length) (fun e=>by have:=Acc.ge f2 e;omega) (.cells [.slice a' (insE es x).length c'])
    obtain ⟨h9,o1,o2,o3,o4,o5⟩:=out k8 g3 g4 a8
    simp only[if_false,Bool.false_eq_true]
    refine ⟨a',c',_,?_,o4,o5⟩
    simp -implicitDefEqProofs (disch:=omega) only[↓c36_0_eq,bxL,bxEe,alL,e0,e1,e2,hh,ldL,lA,e3,stL,hs4,l4,e5,ldE,lx c25,lx c26,e6,faL,ldEs,ls6,e7,extractV_tuple,ls7,lx c27,bs,f1,stEsl,hs8,o1,o2,o3,rvals,↓ret36,↓zAc,↓zAb,↓Option.bind_some,↓zAa,sxB,Nat.reduceBEq]
end Go.Am
namespace Go.Am
open Go.Proofs
set_option maxRecDepth 100000
set_option linter.all false
attribute [local congr] zAf zAq zAr zAs zAj zAg
def mV (l:List (Int × Nat)):List (Value × Value):=l.map fun p=>(.int .i64 p.1,.int .u64 p.2)
def getM:List (Int × Nat)->Int->Option Nat
 | [],_=>none
 | (g,m)::l,f=>if f=g then some m else getM l f
def putM:List (Int × Nat)->Int->Nat->List (Int × Nat)
 | [],f,n=>[(f,n)]
 | (g,m)::l,f,n=>if f=g then (f,n)::l else (g,m)::putM l f n
theorem getM_put:∀(l:List (Int × Nat)) (f:Int) (n:Nat) (g:Int),getM (putM l f n) g=if g=f then some n else getM l g
 | [],f,n,g=>by simp[putM,getM]
 | (k,m)::l,f,n,g=>by
  unfold putM
  split
  ·rename_i h;subst h
   simp only[getM]
   split<;>rfl
  ·rename_i h
   simp only[getM,getM_put l f n g]
   by_cases h1:g=k
   ·subst h1;rw[if_pos rfl,if_neg (fun e=>h e.symm),if_pos rfl]
   ·rw[if_neg h1]
    by_cases h2:g=f
    ·rw[if_pos h2,if_pos h2]
    ·rw[if_neg h2,if_neg h2,if_neg h1]
theorem find_mV (f:Int) (n:Nat):∀(l:List (Int × Nat)) (i:Nat),
  (findInt .i64 f (mV l) i=some none/\putM l f n=l++[(f,n)]/\getM l f=none)\/∃j m,findInt .i64 f (mV l) i=some (some (i+j,.int .u64 (m:Nat)))/\putM l f n=l.set j (f,n)/\getM l f=some m
 | [],i=>.inl ⟨rfl,rfl,rfl⟩
 | (g,m)::l,i=>by
  simp only[mV,List.map_cons,findInt,putM,getM,if_true]
  by_cases h:f=g
  ·rw[if_pos h,if_pos h,if_pos h]
   exact .inr ⟨0,m,rfl,rfl,rfl⟩
  ·rw[if_neg h,if_neg h,if_neg h]
   rcases find_mV f n l (i+1) with ⟨h1,h2,h3⟩ | ⟨j,m',h1,h2,h3⟩
   ·exact .inl ⟨h1,by rw[h2];rfl,h3⟩
   ·exact .inr ⟨j+1,m',by rw[show i+(j+1)=i+1+j by omega];exact h1,by rw[h2];rfl,h3⟩
def MB (h:Heap) (r:Nat) (l:List (Int × Nat)):Prop:=h.blks[r]?=some ⟨.map (mV l),0,true⟩
theorem MB.same {h h':Heap} {r:Nat} {l:List (Int × Nat)} (m:MB h r l) (s:Same h h'):MB h' r l:=(s.2 r (lt_of_blk m)).trans m
theorem mapU {h:Heap} {r:Nat} {l:List (Int × Nat)} (m:MB h r l) (f:Int) (n:Nat):mapUpdateV Tryz.prog 183 (.map (some r)) (.int .i64 f) (.int .u64 n) h=some (h.put r (.map (mV (putM l f n)))):=by
 have hu:Tryz.prog.underlying 183=some (.map 3 30):=by kernel_rfl
 have hi:isIntT Tryz.prog 3=true:=by kernel_rfl
 unfold mapUpdateV
 rw[hu]
 simp only[mapOf?,show h.blks[r]?=some ⟨.map (mV l),0,true⟩ from m,hi,if_true]
 rcases find_mV f n l 0 with ⟨h1,h2,_⟩ | ⟨j,m',h1,h2,_⟩
 ·rw[h1,h2];simp[mV]
 ·rw[h1,h2];simp[mV,List.map_set]
theorem MB.put {h:Heap} {r:Nat} {l:List (Int × Nat)} (m:MB h r l) (l':List (Int × Nat)):MB (h.put r (.map (mV l'))) r l':=by
 unfold MB;rw[blk_put_self m]
theorem mapL {h:Heap} {r:Nat} {l:List (Int × Nat)} (m:MB h r l) (f:Int):lookupV Tryz.prog 183 (.map (some r)) (.int .i64 f) false h=some (.int .u64 ((getM l f).getD 0:Nat)):=by
 have hu:Tryz.prog.underlying 183=some (.map 3 30):=by kernel_rfl
 have hi:isIntT Tryz.prog 3=true:=by kernel_rfl
 have hz:zeroT Tryz.prog 30=some (.int .u64 0):=by kernel_rfl
 unfold lookupV
 rw[hu]
 simp only[mapOf?,show h.blks[r]?=some ⟨.map (mV l),0,true⟩ from m,hi,hz]
 rcases find_mV f 0 l 0 with ⟨h1,_,h3⟩ | ⟨j,m',h1,_,h3⟩
 ·rw[h1,h3];rfl
 ·rw[h1,h3];rfl
def lastM (es:List E3):List (Int × Nat):=es.foldl (fun l e=>putM l e.f e.n) []
theorem lastM_snoc (es:List E3) (e:E3):lastM (es++[e])=putM (lastM es) e.f e.n:=by simp[lastM]
theorem last_loop {h0 h1:Heap} {v:Value} {es:List E3} {r:Nat} (s:SE h1 v es) (hl:es.length<2^38) (hn:h0.blks.length<=h1.blks.length) (hr:h0.blks.length<=r) (hrb:zAn v≠some r) (hr1:r<h1.blks.length) :
  ∀(m i:Nat),es.length-i=m->i<=es.length->∀(x:Nat->Value) (h:Heap),In h0.blks.length No (nm h0) h->(∀b,b<h1.blks.length->b≠r->h.blks[b]?=h1.blks[b]?)->h1.blks.length<=h.blks.length->MB h r (lastM (es.take i))->
  x 3=.map (some r)->x 8=v->x 9=.int .i64 es.length->x 10=.int .i64 i->
  ∃h',lK c106_1 21 x h (zAu 0 (sK c106_2 (zBb Tryz.f106 Tryz.prog h0)))=some (.map (some r),done h0 h')/\In h0.blks.length No (nm h0) h'/\MB h' r (lastM es):=by
 intro m
 induction m with
 | zero=>
  intro i e1 e2 x h hin hs hs2 hm Ad Ai Aj Ak
  obtain rfl:i=es.length:=by omega
  rw[List.take_length] at hm
  rw[lK_eq]
  refine ⟨h,?_,hin,hm⟩
  simp -implicitDefEqProofs (disch:=omega) only[↓c106_1_eq,↓c106_2_eq,Ad,Ai,Aj,Ak,dcF,↓ret106,↓zAc,↓zAb,↓Option.bind_some,↓zAa,sxB,Nat.reduceBEq]
 | succ m ih=>
  intro i hmi hi x h hin hs hs2 hm Ad Ai Aj Ak
  have hil:i<es.length:=by omega
  obtain ⟨b,of,hb,hbl,e1,e2⟩:=s.at' (t:=49) (el:=99) (by kernel_rfl) (by kernel_rfl) hil
  obtain ⟨f1,_⟩:=e2 h (hs b hbl (fun e=>hrb (by rw[hb,e])))
  obtain ⟨hA,hB,a1,a2,a3,a4,a5,a6⟩:=var_ent (n0:=h1.blks.length) hs2 es[i]
  have lf:hB.load1 h.blks.length 0=some (.int .i64 es[i].f):=a3.load 0
  have ln:hB.load1 h.blks.length (0+1)=some (.int .u64 es[i].n):=a3.load 1
  have mB:=hm.same a5
  have up:=mapU mB es[i].f es[i].n
  have hin2:=(hin.trans (In.dn (a4 No) hn)).trans (In.put (S:=No) (p:=r) (by have:=a5.1;omega) (.inl hr) (.map (mV (putM (lastM (es.take i)) es[i].f es[i].n))))
  have wi:IntKind.i64.wrap ((i:Int)+1)=((i+1:Nat):Int):=by rw[wrap_i64]<;>omega
  have ht:es.take i++[es[i]]=es.take (i+1):=by rw[List.take_succ,List.getElem?_eq_getElem hil];rfl
  have m2:=mB.put (putM (lastM (es.take i)) es[i].f es[i].n)
  rw[<-lastM_snoc,ht] at m2 up hin2
  rw[lK_eq]
  simp -implicitDefEqProofs (disch:=omega) only[↓c106_1_eq,↓c106_2_eq,Ad,Ai,Aj,Ak,dcT,e1,ldE,f1,Option.map_some,entA,a1,a2,faE0,faE1,ldI,ldU,lf,ln,up,wi,↓zAc,↓zAb,↓Option.bind_some,↓zAa,sxB,Nat.reduceBEq]
  refine ih (i+1) (by omega) (by omega) _ _ hin2 (fun q hq hne=>?_) (by rw[Heap.put_len];exact Nat.le_trans hs2 a5.1) m2 ?_ ?_ ?_ ?_
  ·rw[Heap.put_other hne,a5.2 q (Nat.lt_of_lt_of_le hq hs2)];exact hs q hq hne
  ·exact Ad
  ·exact Ai
  ·exact Aj
  ·rfl
theorem spec_last {h:Heap} {v:Value} {es:List E3} (s:SE h v es) (hl:es.length<2^38):∃r h',evC Tryz.prog 106 #[.agg #[v]] h=some (.map (some r),h')/\HExt h h'/\MB h' r (lastM es)/\h.blks.length<=r:=by
 rw[call106]
 have c1:=(Cells.new (nm h) 51 [v]).keepNew (.map []) 0
 have m2:MB (((nm h).new (.cells [v]) 51).new (.map []) 0) ((nm h).new (.cells [v]) 51).blks.length []:=zBn _ _ _
 have s2:SE (((nm h).new (.cells [v]) 51).new (.map []) 0) v es:=(s.nm.keepNew _ _).keepNew _ _
 have k2:In h.blks.length No (nm h) (((nm h).new (.cells [v]) 51).new (.map []) 0):=(In.new (h:=nm h) (Nat.le_refl h.blks.length) _ _).trans (In.new (by simp[Heap.new]) _ _)
 have e0:(nm h).blks.length=h.blks.length:=rfl
 have e1:((nm h).new (.cells [v]) 51).blks.length=h.blks.length+1:=by simp[Heap.new]
 rw[e0] at c1
 rw[e1] at m2
 have hlen:(((nm h).new (.cells [v]) 51).new (.map []) 0).blks.length=h.blks.length+2:=by simp[Heap.new]
 have mk:∀h,makeMapV h=(.map (some h.blks.length),h.new (.map []) 0):=fun _=>rfl
 generalize hh:(((nm h).new (.cells [v]) 51).new (.map []) 0)=h2 at c1 m2 s2 k2 hlen
 have lA:h2.load1 h.blks.length 0=some v:=c1.load 0
 obtain ⟨a,cc,rfl⟩:=s.shape
 have hb:zAn (.slice a es.length cc)≠some (h.blks.length+1):=fun e=>by have:=s.lt e;omega
 have lp:=last_loop (h0:=h) (r:=h.blks.length+1) s2 hl (by omega) (by omega) hb (by omega) es.length 0 (by omega) (by omega)
 have fin':∀ {r:Option (Value × Heap)},(∃h',r=some (.map (some (h.blks.length+1)),done h h')/\In h.blks.length No (nm h) h'/\MB h' (h.blks.length+1) (lastM es))->∃q h',r=some (.map (some q),h')/\HExt h h'/\MB h' q (lastM es)/\h.blks.length<=q:=fun ⟨h',q1,q2,q3⟩=>⟨_,_,q1,zAl q2,q3,by omega⟩
 simp -implicitDefEqProofs (disch:=omega) only[↓c106_0_eq,bxL,mk,e0,e1,hh,faL,ldEs,lA,lnEs,↓zAc,↓zAb,↓Option.bind_some,↓zAa,sxB,Nat.reduceBEq]
 refine fin' (lp _ _ k2 (fun _ _ _=>rfl) (Nat.le_refl _) m2 ?_ ?_ ?_ ?_)
 all_goals rfl
def newsE (g other:List E3):List E3:=g.filter fun x=>!bsF other x && decide ((getM (lastM other) x.f).getD 0<x.n)
theorem newsE_snoc (g other:List E3) (e:E3):newsE (g++[e]) other=newsE g other++(if (!bsF other e && decide ((getM (lastM other) e.f).getD 0<e.n))=true then [e] else []):=by
 unfold newsE
 rw[List.filter_append]
 congr 1
 rw[List.filter_cons,List.filter_nil]
theorem news_loop {h0 h1:Heap} {v w:Value} {es fs:List E3} {r p:Nat} (s:SE h1 v es) (s2:SE h1 w fs) (hst:Srt fs) (hl:es.length<2^38) (hl2:fs.length<2^38) (hn:h0.blks.length<=h1.blks.length) (mb:MB h1 r (lastM fs)) (c:Cells h1 p 51 [w]) :
  ∀(m i:Nat),es.length-i=m->i<=es.length->∀(x:Nat->Value) (h:Heap) (a:Option Addr) (cc:Nat),In h0.blks.length No (nm h0) h->Same h1 h->AE h1.blks.length h (.slice a (newsE (es.take i) fs).length cc) (newsE (es.take i) fs)->
  x 3=.pointer (some ⟨p,0,none⟩)->x 5=.map (some r)->x 6=.slice a (newsE (es.take i) fs).length cc->x 14=v->x 15=.int .i64 es.length->x 16=.int .i64 i->
  ∃a' c' h',lK c84_1 44 x h (zAu 0 (sK c84_2 (zBb Tryz.f84 Tryz.prog h0)))=some (.slice a' (newsE es fs).length c',done h0 h')/\In h0.blks.length No (nm h0) h'/\AE h1.blks.length h' (.slice a' (newsE es fs).length c') (newsE es fs):=by
 intro m
 induction m with
 | zero=>
  intro i e1 e2 x h a cc hin hs ha Ad Af Ag Ap Aq Ar
  obtain rfl:i=es.length:=by omega
  rw[List.take_length] at ha Ag
  rw[lK_eq]
  refine ⟨a,cc,h,?_,hin,ha⟩
  simp -implicitDefEqProofs (disch:=omega) only[↓c84_1_eq,↓c84_2_eq,Ag,Ap,Aq,Ar,dcF,↓ret84,↓zAc,↓zAb,↓Option.bind_some,↓zAa,sxB,Nat.reduceBEq]
 | succ m ih=>
  intro i hm hi x h a cc hin hs ha Ad Af Ag Ap Aq Ar
  have hil:i<es.length:=by omega
  obtain ⟨b,of,hb,hbl,e1,e2⟩:=s.at' (t:=49) (el:=99) (by kernel_rfl) (by kernel_rfl) hil
  obtain ⟨f1,_⟩:=e2 h (hs.2 b hbl)
  obtain ⟨hA,hB,a1,a2,a3,a4,a5,a6⟩:=var_ent (n0:=h1.blks.length) hs.1 es[i]
  have hsB:=hs.trans a5
  have lw:hB.load1 p 0=some w:=(c.same hsB).load 0
  obtain ⟨hC,q1,q2⟩:=spec_BS (s2.same hsB) hst (by omega) es[i]
  have hsC:=hsB.trans q2.same
  have hinC:=(hin.trans (In.dn (a4 No) hn)).trans (q2.inn (by have:=hsB.1;omega))
  have a3C:=a3.ext q2
  have lf:hC.load1 h.blks.length 0=some (.int .i64 es[i].f):=a3C.load 0
  have ln:hC.load1 h.blks.length (0+1)=some (.int .u64 es[i].n):=a3C.load 1
  have l3:(hC.loadN h.blks.length 0 3).map (fun cs=>Value.agg cs.toArray)=some (entV es[i]):=by rw[a3C.loadN (n:=3) rfl];rfl
  have ml:=mapL (mb.same hsC) es[i].f
  have wi:IntKind.i64.wrap ((i:Int)+1)=((i+1:Nat):Int):=by rw[wrap_i64]<;>omega
  have ht:es.take i++[es[i]]=es.take (i+1):=by rw[List.take_succ,List.getElem?_eq_getElem hil];rfl
  have hsn:=newsE_snoc (es.take i) fs es[i]
  rw[ht] at hsn
  have haC:AE h1.blks.length hC (.slice a (newsE (es.take i) fs).length cc) (newsE (es.take i) fs):=(ha.same a5).same q2.same
  have hnl:(newsE (es.take i) fs).length<2^39:=by
   have:=List.length_filter_le (fun x=>!bsF fs x && decide ((getM (lastM fs) x.f).getD 0<x.n)) (es.take i)
   rw[List.length_take] at this
   unfold newsE;omega
  rw[lK_eq]
  cases hbs:bsF fs es[i] with
  | true=>
   rw[hbs] at q1 hsn
   simp only[Bool.not_true,Bool.false_and,Bool.false_eq_true,if_false,List.append_nil] at hsn
   rw[<-hsn] at haC Ag
   simp -implicitDefEqProofs (disch:=omega) only[↓c84_1_eq,↓c84_2_eq,Ad,Af,Ap,Aq,Ar,dcT,e1,ldE,f1,Option.map_some,entA,a1,a2,a6,faL,ldEs,lw,q1,wi,↓zAc,↓zAb,↓Option.bind_some,↓zAa,sxB,Nat.reduceBEq]
   refine ih (i+1) (by omega) (by omega) _ hC a cc hinC hsC haC ?_ ?_ ?_ ?_ ?_ ?_
   ·exact Ad
   ·exact Af
   ·exact Ag
   ·exact Ap
   ·exact Aq
   ·rfl
  | false=>
   rw[hbs] at q1 hsn
   simp only[Bool.not_false,Bool.true_and,decide_eq_true_eq] at hsn
   by_cases hk:(getM (lastM fs) es[i].f).getD 0<es[i].n
   ·rw[if_pos hk] at hsn
    have d1:decide ((((getM (lastM fs) es[i].f).getD 0:Nat):Int)<(es[i].n:Int))=true:=decide_eq_true (by omega)
    obtain ⟨a',c',hD,g1,g2,g3,g4⟩:=app_ent etE (n0:=h1.blks.length) hsC.1 haC es[i] hnl
    rw[<-hsn] at g1 g2
    have hsD:Same h1 hD:=⟨Nat.le_trans hsC.1 g3.len,fun q hq=>(g4 q (Nat.lt_of_lt_of_le hq hsC.1) (Acc.off haC (Nat.le_refl _) hq)).trans (hsC.2 q hq)⟩
    have hinD:=hinC.trans (Keeps.inn (S:=No) (g3.dn hn))
    simp -implicitDefEqProofs (disch:=omega) only[↓c84_1_eq,↓c84_2_eq,Ad,Af,Ag,Ap,Aq,Ar,dcT,e1,ldE,f1,Option.map_some,entA,a1,a2,a6,faL,faE0,faE1,ldI,ldU,lf,ln,ml,d1,ldEs,lw,q1,l3,bsE,g1,wi,↓zAc,↓zAb,↓Option.bind_some,↓zAa,sxB,Nat.reduceBEq]
    refine ih (i+1) (by omega) (by omega) _ hD a' c' hinD hsD g2 ?_ ?_ ?_ ?_ ?_ ?_
    ·exact Ad
    ·exact Af
    ·rfl
    ·exact Ap
    ·exact Aq
    ·rfl
   ·rw[if_neg hk,List.append_nil] at hsn
    have d1:decide ((((getM (lastM fs) es[i].f).getD 0:Nat):Int)<(es[i].n:Int))=false:=decide_eq_false (by omega)
    rw[<-hsn] at haC Ag
    simp -implicitDefEqProofs (disch:=omega) only[↓c84_1_eq,↓c84_2_eq,Ad,Af,Ap,Aq,Ar,dcT,e1,ldE,f1,Option.map_some,entA,a1,a2,a6,faL,faE0,faE1,ldI,ldU,lf,ln,ml,d1,ldEs,lw,q1,wi,↓zAc,↓zAb,↓Option.bind_some,↓zAa,sxB,Nat.reduceBEq]
    refine ih (i+1) (by omega) (by omega) _ hC a cc hinC hsC haC ?_ ?_ ?_ ?_ ?_ ?_
    ·exact Ad
    ·exact Af
    ·exact Ag
    ·exact Ap
    ·exact Aq
    ·rfl
theorem spec_news {h:Heap} {v w:Value} {es fs:List E3} (s:SE h v es) (s2:SE h w fs) (hst:Srt fs) (hl:es.length<2^38) (hl2:fs.length<2^38) :
  ∃a c h',evC Tryz.prog 84 #[.agg #[v],.agg #[w]] h=some (.slice a (newsE es fs).length c,h')/\HExt h h'/\AE h.blks.length h' (.slice a (newsE es fs).length c) (newsE es fs):=by
 rw[call84]
 have c1:=(Cells.new (nm h) 51 [v]).keepNew (.cells [w]) 51
 have c2:=Cells.new ((nm h).new (.cells [v]) 51) 51 [w]
 have s1:SE (((nm h).new (.cells [v]) 51).new (.cells [w]) 51) v es:=(s.nm.keepNew _ _).keepNew _ _
 have s2':SE (((nm h).new (.cells [v]) 51).new (.cells [w]) 51) w fs:=(s2.nm.keepNew _ _).keepNew _ _
 have k2:In h.blks.length No (nm h) (((nm h).new (.cells [v]) 51).new (.cells [w]) 51):=(In.new (h:=nm h) (Nat.le_refl h.blks.length) _ _).trans (In.new (by simp[Heap.new]) _ _)
 have e0:(nm h).blks.length=h.blks.length:=rfl
 have e1:((nm h).new (.cells [v]) 51).blks.length=h.blks.length+1:=by simp[Heap.new]
 rw[e0] at c1
 rw[e1] at c2
 have hlen:(((nm h).new (.cells [v]) 51).new (.cells [w]) 51).blks.length=h.blks.length+2:=by simp[Heap.new]
 generalize hh:(((nm h).new (.cells [v]) 51).new (.cells [w]) 51)=h2 at c1 c2 s1 s2' k2 hlen
 have l2:(h2.loadN (h.blks.length+1) 0 1).map (fun cs=>Value.agg cs.toArray)=some (.agg #[w]):=by rw[c2.loadN (n:=1) rfl];rfl
 obtain ⟨r,h3,q1,q2,q3,q4⟩:=spec_last s2' hl2
 have l1:h3.load1 h.blks.length 0=some v:=(c1.ext q2).load 0
 have c3:=c2.ext q2
 obtain ⟨a,cc,rfl⟩:=s.shape
 have hq:=q2.len
 have lp:=news_loop (h0:=h) (s1.ext q2) (s2'.ext q2) hst hl hl2 (by omega) q3 c3 es.length 0 (by omega) (by omega)
 have fin':∀ {r:Option (Value × Heap)},(∃a c h',r=some (.slice a (newsE es fs).length c,done h h')/\In h.blks.length No (nm h) h'/\AE h3.blks.length h' (.slice a (newsE es fs).length c) (newsE es fs))->∃a c h',r=some (.slice a (newsE es fs).length c,h')/\HExt h h'/\AE h.blks.length h' (.slice a (newsE es fs).length c) (newsE es fs):=fun ⟨a,c,h',g1,g2,g3⟩=>⟨a,c,_,g1,zAl g2,(Acc.up g3 (by omega)).done⟩
 simp -implicitDefEqProofs (disch:=omega) only[↓c84_0_eq,bxL,e0,e1,hh,ldL,l2,q1,faL,ldEs,l1,lnEs,↓zAc,↓zAb,↓Option.bind_some,↓zAa,sxB,Nat.reduceBEq]
 refine fin' (lp _ _ none 0 (k2.trans (q2.inn (by omega))) (Same.refl _) (AE.nil _ _) ?_ ?_ ?_ ?_ ?_ ?_)
 all_goals rfl
end Go.Am
namespace Go.Am
open Go.Proofs
set_option maxRecDepth 100000
set_option linter.all false
attribute [local congr] zAf zAq zAr zAs zAj zAg
theorem spec_sort {n0:Nat} {h:Heap} {v:Value} {es:List E3} (hn:n0<=h.blks.length) (a:AE n0 h v es) (hl:es.length<2^40) (hs:(srtE es).length=es.length) :
  ∃h',evC Tryz.prog 85 #[v,.func (.func 78) #[] #[]] h=some (.tuple #[],h')/\AE n0 h' v (srtE es)/\(∀S,In n0 S h h')/\h'.blks.length=h.blks.length/\(∀q,zAn v≠some q->h'.blks[q]?=h.blks[q]?):=by
 rw[evC_ext xt_sort]
 have hu:Tryz.prog.underlying 49=some (.slice 99):=by kernel_rfl
 have hz:sizeT Tryz.prog 99=some 3:=by kernel_rfl
 rcases Nat.eq_zero_or_pos es.length with h0 | h0
 ·have e0:es=[]:=List.eq_nil_of_length_eq_zero h0
  have e1:srtE es=[]:=List.eq_nil_of_length_eq_zero (by omega)
  obtain ⟨ad,c,rfl⟩:=a.shape
  refine ⟨h,?_,by rw[e1];rw[e0] at a ⊢;exact a,fun S=>In.refl hn,rfl,fun _ _=>rfl⟩
  unfold sortX
  simp[h0]
 ·obtain ⟨b,o,e1,e2,e3,e4,e5⟩:=Acc.store (P:=Tryz.prog) a h0
  obtain ⟨h',g1,g2,g3,g4,g5⟩:=e5 0 (entL (srtE es)) (by rw[entL_len];omega)
  rcases a.se.inv with ⟨_,h2,_⟩ | ⟨b',o',c',rfl,hld,_⟩
  ·omega
  ·cases e1
   have hh:=e4 hu hz .i64 0 h0
   unfold zAh at hh
   simp only[hu,zBq,hz] at hh
   rw[if_pos h0] at hh
   simp only[Option.some.injEq,Value.pointer.injEq,Addr.mk.injEq] at hh
   obtain rfl:o'=o:=by omega
   rw[Nat.add_zero] at g1
   refine ⟨h',?_,?_,g3,g4,fun q hq=>g5 q (fun e=>hq (by rw[e];rfl))⟩
   ·unfold sortX
    simp only[List.size_toArray,List.length_nil,true_and]
    rw[if_pos hl,if_neg (by omega)]
    simp only[hld,e3Of_ent,g1,Option.map_some]
   ·have:(entL es).take 0++entL (srtE es)++(entL es).drop (0+(entL (srtE es)).length)=entL (srtE es):=by
     rw[List.drop_of_length_le (by rw[entL_len,entL_len];omega)];simp
    rw[this] at g2
    show Acc n0 h' _ 3 _ (srtE es).length _
    rw[hs]
    exact g2
end Go.Am
namespace Go.Am
open Go.Sort
instance (a b:E3):Decidable (ltE a b):=inferInstanceAs (Decidable (_\/_))
theorem swoE:SWO (fun x y:E3=>decide (cmpE x y<0)):=by
 constructor
 ·intro x
  exact decide_eq_false (fun h=>ltE_irr x ((cmpE_lt _ _).1 h))
 ·intro x y z h1 h2
  exact decide_eq_true ((cmpE_lt _ _).2 (ltE_trans ((cmpE_lt _ _).1 (of_decide_eq_true h1)) ((cmpE_lt _ _).1 (of_decide_eq_true h2))))
 ·intro x y z h1 h2
  refine decide_eq_false (fun h=>?_)
  have g1:¬ltE x y:=fun k=>of_decide_eq_false h1 ((cmpE_lt _ _).2 k)
  have g2:¬ltE y z:=fun k=>of_decide_eq_false h2 ((cmpE_lt _ _).2 k)
  have g3:=(cmpE_lt _ _).1 h
  unfold ltE at g1 g2 g3
  omega
theorem srtE_all (l:List E3):(srtE l).Perm l/\∀(i j:Nat) (hi:i<(srtE l).length) (hj:j<(srtE l).length),i<j->¬ltE (srtE l)[j] (srtE l)[i]:=by
 have h:=pdq_sorts (fun x y:E3=>decide (cmpE x y<0)) swoE l.toArray 0 l.toArray.size (Lib.bitLen l.toArray.size) true true (Nat.zero_le _) (Nat.le_refl _) (Or.inl rfl)
 obtain ⟨⟨h1,_,h2⟩,h3⟩:=h
 have hs:(srtE l).length=l.length:=by unfold srtE;rw[Array.length_toList,h1];simp
 refine ⟨?_,fun i j hi hj hij=>?_⟩
 ·have e1:∀a:Array E3,a.size=l.toArray.size->(a.extract 0 l.toArray.size).toList=a.toList:=fun a ha=>by
   rw[<-ha,Array.extract_size]
  rw[e1 _ h1,e1 _ rfl] at h2
  exact h2
 ·have h4:=h3 i j (Nat.zero_le _) hij (by rw[hs] at hj;simpa using hj)
  intro hlt
  have h5:=of_decide_eq_false h4
  apply h5
  rw[cmpE_lt]
  have e2:∀(a:Array E3) (i:Nat) (hi:i<a.toList.length),a[i]! = a.toList[i]:=fun a i hi=>by
   rw[getElem!_pos a i (by simpa using hi)];simp
  rw[e2 _ j hj,e2 _ i hi]
  exact hlt
theorem srtE_perm (l:List E3):(srtE l).Perm l:=(srtE_all l).1
theorem srtE_len (l:List E3):(srtE l).length=l.length:=(srtE_perm l).length_eq
theorem srtE_srt {l:List E3} (h:l.Pairwise fun a b=>ltE a b\/ltE b a):Srt (srtE l):=by
 have h2:(srtE l).Pairwise fun a b=>ltE a b\/ltE b a:=(srtE_perm l).symm.pairwise h (fun h=>h.symm)
 refine List.pairwise_iff_getElem.2 fun i j hi hj hij=>?_
 exact (List.pairwise_iff_getElem.1 h2 i j hi hj hij).resolve_right ((srtE_all l).2 i j hi hj hij)
end Go.Am
namespace Go.Am
open Go.Proofs
set_option maxRecDepth 100000
set_option linter.all false
attribute [local congr] zAf zAq zAr zAs zAj zAg
theorem anS (t:TypeId) (xo yo:Operand) (n w:Nat) (hn:n<2^64) (hw:w<2^64):zBk Tryz.prog .andNot t xo yo (.int .u64 n) (.int .u64 w)=some (.int .u64 ((outB n w:Nat):Int)):=anN t xo yo n w hn hw
theorem stSet (p o:Nat) (k:IntKind) (n:Int) (h:Heap):zBc Tryz.prog 39 (.pointer (some ⟨p,o,none⟩)) (.int k n) h=h.storeN p o [.int k n]:=by kernel_rfl
def lessF (to:Nat) (e:E3):E3:={ e with t:=outB e.t to }
def lessI (to:Nat) (es:List E3) (i:Nat):List E3:=es.mapIdx fun j e=>if j<i then lessF to e else e
theorem lessI_len (to:Nat) (es:List E3) (i:Nat):(lessI to es i).length=es.length:=by simp[lessI]
theorem lessI_zero (to:Nat) (es:List E3):lessI to es 0=es:=by
 apply List.ext_getElem
 ·simp[lessI]
 ·intro i h1 h2;simp[lessI]
theorem lessI_all (to:Nat) (es:List E3):lessI to es es.length=es.map (lessF to):=by
 apply List.ext_getElem
 ·simp[lessI]
 ·intro i h1 h2
  simp only[lessI,List.getElem_mapIdx,List.getElem_map]
  rw[if_pos (by simpa [lessI] using h1)]
theorem lessI_set (to:Nat) (es:List E3) (i:Nat) (hi:i<(lessI to es i).length):(lessI to es i).set i { (lessI to es i)[i] with t:=outB (lessI to es i)[i].t to }=lessI to es (i+1):=by
 apply List.ext_getElem
 ·simp[lessI]
 ·intro j h1 h2
  rw[List.getElem_set]
  simp only[lessI,List.getElem_mapIdx]
  by_cases h:i=j
  ·subst h
   rw[if_pos rfl,if_neg (by omega),if_pos (by omega)]
   rfl
  ·rw[if_neg h]
   by_cases h3:j<i
   ·rw[if_pos h3,if_pos (by omega)]
   ·rw[if_neg h3,if_neg (by omega)]
theorem lessI_at (to:Nat) (es:List E3) (i:Nat) (hi:i<(lessI to es i).length):(lessI to es i)[i]=es[i]'(by simpa [lessI] using hi):=by
 simp[lessI]
theorem outB_lt {a b:Nat} (h:a<2^64):outB a b<2^64:=Nat.lt_of_le_of_lt Nat.and_le_left h
theorem wide_less {to:Nat} {es:List E3} (w:wide es):wide (es.map (lessF to)):=fun e he=>by
 obtain ⟨x,hx,rfl⟩:=List.mem_map.1 he
 exact ⟨(w x hx).1,outB_lt (w x hx).2⟩
def lessE (es:List E3) (to:Nat):List E3:=if goodE es then es.map (lessF to) else es
theorem lessE_len (es:List E3) (to:Nat):(lessE es to).length=es.length:=by unfold lessE;split<;>simp
theorem wide_lessE {to:Nat} {es:List E3} (w:wide es):wide (lessE es to):=by unfold lessE;split;exact wide_less w;exact w
theorem less_loop {h0:Heap} {a:Option Addr} {cc:Nat} {es:List E3} {p2 p4 to:Nat} (hw:wide es) (hto:to<2^64) (hl:es.length<2^40) (hp2:h0.blks.length<=p2) (hp4:h0.blks.length<=p4) (hne:p2≠p4) (hb2:zAn (.slice a es.length cc)≠some p2) (hb4:zAn (.slice a es.length cc)≠some p4) :
  ∀(m i:Nat),es.length-i=m->i<=es.length->∀(x:Nat->Value) (h:Heap),In h0.blks.length No (nm h0) h->AE h0.blks.length h (.slice a es.length cc) (lessI to es i)->Cells h p2 51 [.slice a es.length cc]->Cells h p4 51 [.slice none 0 0]->
  x 1=.int .u64 to->x 2=.pointer (some ⟨p2,0,none⟩)->x 4=.pointer (some ⟨p4,0,none⟩)->x 14=.int .i64 es.length->x 15=.int .i64 i->
  ∃h',lK c37_1 30 x h (zAu 0 (sK c37_2 (zBb Tryz.f37 Tryz.prog h0)))=some (.agg #[.slice a es.length cc],done h0 h')/\In h0.blks.length No (nm h0) h'/\AE h0.blks.length h' (.slice a es.length cc) (es.map (lessF to)):=by
 intro m
 induction m with
 | zero=>
  intro i h1 h2 x h hin ha c2 c4 Ab Ac Ae Ap Aq
  obtain rfl:i=es.length:=by omega
  rw[lessI_all] at ha
  have c5:=c4.put [.slice a es.length cc]
  have l2:(h.loadN p2 0 1).map (fun cs=>Value.agg cs.toArray)=some (.agg #[.slice a es.length cc]):=by rw[c2.loadN (n:=1) rfl];rfl
  have l5:(Heap.loadN (h.put p4 (.cells [.slice a es.length cc])) p4 0 1).map (fun cs=>Value.agg cs.toArray)=some (.agg #[.slice a es.length cc]):=by rw[c5.loadN (n:=1) rfl];rfl
  have i5:=hin.trans (In.put (S:=No) (Nat.le_trans hin.le hin.len) (p:=p4) (.inl hp4) (.cells [.slice a es.length cc]))
  rw[lK_eq]
  simp -implicitDefEqProofs (disch:=omega) only[↓c37_1_eq,↓c37_2_eq,Ab,Ac,Ae,Ap,Aq,dcF,ldL,l2,stL,zAp c4 (o:=0) (vs:=[.slice a es.length cc]) (by simp),List.take_zero,List.nil_append,List.append_nil,List.length_cons,List.length_nil,List.drop_succ_cons,List.drop_zero,Nat.zero_add,l5,rvals,↓ret37,↓zAc,↓zAb,↓Option.bind_some,↓zAa,sxB,Nat.reduceBEq]
  exact ⟨_,rfl,i5,ha.keepPut hb4 _⟩
 | succ m ih=>
  intro i hm hi x h hin ha c2 c4 Ab Ac Ae Ap Aq
  have hil:i<es.length:=by omega
  have hil':i<(lessI to es i).length:=by rw[lessI_len];exact hil
  have w:=hw es[i] (List.getElem_mem hil)
  obtain ⟨b,o,h2,e1,e2,e3,e4,e5,e6,e7,e8,e9,e10⟩:=AE.setT ha hil' (outB (lessI to es i)[i].t to)
  rw[lessI_set,AE,lessI_len] at e7
  rw[lessI_at] at e5 e6
  have hb2':b≠p2:=fun e=>hb2 (by rw[e1,e])
  have hb4':b≠p4:=fun e=>hb4 (by rw[e1,e])
  have l2:h.load1 p2 0=some (.slice a es.length cc):=c2.load 0
  have an:=fun t xo yo=>anS t xo yo es[i].t to w.2 hto
  have wi:IntKind.i64.wrap ((i:Int)+1)=((i+1:Nat):Int):=by rw[wrap_i64]<;>omega
  rw[lK_eq]
  simp -implicitDefEqProofs (disch:=omega) only[↓c37_1_eq,↓c37_2_eq,Ab,Ac,Ae,Ap,Aq,dcT,faL,ldEs,l2,e4,faE2,ldS,e5,an,stSet,e6,wi,↓zAc,↓zAb,↓Option.bind_some,↓zAa,sxB,Nat.reduceBEq]
  refine ih (i+1) (by omega) (by omega) _ _ (hin.trans (e8 No)) ?_ ((e10 p2 (Ne.symm hb2')).trans c2) ((e10 p4 (Ne.symm hb4')).trans c4) ?_ ?_ ?_ ?_ ?_
  ·rw[AE,lessI_len];exact e7
  ·exact Ab
  ·exact Ac
  ·exact Ae
  ·exact Ap
  ·rfl
theorem spec_Less {h:Heap} {v:Value} {es:List E3} (s:SE h v es) (hw:wide es) (hl:es.length<2^39) (to:Nat) (hto:to<2^64) :
  ∃a c h',evC Tryz.prog 37 #[.agg #[v],.int .u64 to] h=some (.agg #[.slice a es.length c],h')/\HExt h h'/\AE h.blks.length h' (.slice a es.length c) (lessE es to):=by
 rw[call37]
 have c1:=(Cells.new (nm h) 51 [v]).keepNew (.cells [.slice none 0 0]) 51
 have c2:=Cells.new ((nm h).new (.cells [v]) 51) 51 [.slice none 0 0]
 have s2:SE (((nm h).new (.cells [v]) 51).new (.cells [.slice none 0 0]) 51) v es:=(s.nm.keepNew _ _).keepNew _ _
 have k2:In h.blks.length No (nm h) (((nm h).new (.cells [v]) 51).new (.cells [.slice none 0 0]) 51):=(In.new (h:=nm h) (Nat.le_refl h.blks.length) _ _).trans (In.new (by simp[Heap.new]) _ _)
 have e0:(nm h).blks.length=h.blks.length:=rfl
 have e1:((nm h).new (.cells [v]) 51).blks.length=h.blks.length+1:=by simp[Heap.new]
 rw[e0] at c1
 rw[e1] at c2
 have hlen:(((nm h).new (.cells [v]) 51).new (.cells [.slice none 0 0]) 51).blks.length=h.blks.length+2:=by simp[Heap.new]
 generalize hh:(((nm h).new (.cells [v]) 51).new (.cells [.slice none 0 0]) 51)=h2 at c1 c2 s2 k2 hlen
 have lA:(h2.loadN h.blks.length 0 1).map (fun cs=>Value.agg cs.toArray)=some (.agg #[v]):=by rw[c1.loadN (n:=1) rfl];rfl
 obtain ⟨a,c,h3,e3,Ad,a3⟩:=spec_clone s2 hl
 have c3:=c1.ext Ad
 have d3:=c2.ext Ad
 have hx3:=Ad.len
 have b1:zAn (.slice a es.length c)≠some h.blks.length:=fun e=>by have:=a3.ge e;omega
 have b2:zAn (.slice a es.length c)≠some (h.blks.length+1):=fun e=>by have:=a3.ge e;omega
 have c4:=c3.put [.slice a es.length c]
 have d4:Cells (h3.put h.blks.length (.cells [.slice a es.length c])) (h.blks.length+1) 51 [.slice none 0 0]:=d3.keepPut (by omega) _
 have a4:AE h.blks.length (h3.put h.blks.length (.cells [.slice a es.length c])) (.slice a es.length c) es:=(a3.keepPut b1 _).up (by omega)
 have k4:=(k2.trans (Ad.inn (by omega))).trans (In.put (S:=No) (by omega) (p:=h.blks.length) (.inl (by omega)) (.cells [.slice a es.length c]))
 have hs4:=zAp c3 (o:=0) (vs:=[.slice a es.length c]) (by simp)
 simp only[List.take_zero,List.nil_append,List.append_nil,List.length_cons,List.length_nil,List.drop_succ_cons,List.drop_zero,Nat.zero_add] at hs4
 generalize hh4:h3.put h.blks.length (.cells [.slice a es.length c])=h4 at c4 d4 a4 k4 hs4
 have l4:(h4.loadN h.blks.length 0 1).map (fun cs=>Value.agg cs.toArray)=some (.agg #[.slice a es.length c]):=by rw[c4.loadN (n:=1) rfl];rfl
 obtain ⟨h5,e5,Af⟩:=spec_Good a4.se hw (by omega)
 have c5:=c4.ext Af
 have d5:=d4.ext Af
 have a5:AE h.blks.length h5 (.slice a es.length c) es:=a4.same Af.same
 have k5:=k4.trans (Af.inn (Nat.le_trans k4.le k4.len))
 have l5:(h5.loadN h.blks.length 0 1).map (fun cs=>Value.agg cs.toArray)=some (.agg #[.slice a es.length c]):=by rw[c5.loadN (n:=1) rfl];rfl
 have l5':h5.load1 h.blks.length 0=some (.slice a es.length c):=c5.load 0
 refine ⟨a,c,?_⟩
 cases hg:goodE es with
 | false=>
  rw[hg] at e5
  have d6:=d5.put [.slice a es.length c]
  have l6:(Heap.loadN (h5.put (h.blks.length+1) (.cells [.slice a es.length c])) (h.blks.length+1) 0 1).map (fun cs=>Value.agg cs.toArray)=some (.agg #[.slice a es.length c]):=by rw[d6.loadN (n:=1) rfl];rfl
  have k6:=k5.trans (In.put (S:=No) (Nat.le_trans k5.le k5.len) (p:=h.blks.length+1) (.inl (by omega)) (.cells [.slice a es.length c]))
  refine ⟨_,?_,zAl k6,?_⟩
  rotate_left
  ·unfold lessE;rw[hg];exact (a5.keepPut b2 _).done
  simp -implicitDefEqProofs (disch:=omega) only[↓c37_0_eq,bxL,alL,e0,e1,hh,ldL,lA,e3,stL,hs4,l4,e5,l5,zAp d5 (o:=0) (vs:=[.slice a es.length c]) (by simp),List.take_zero,List.nil_append,List.append_nil,List.length_cons,List.length_nil,List.drop_succ_cons,List.drop_zero,Nat.zero_add,l6,rvals,↓ret37,↓zAc,↓zAb,↓Option.bind_some,↓zAa,sxB,Nat.reduceBEq]
 | true=>
  rw[hg] at e5
  have lp:=less_loop (h0:=h) (p2:=h.blks.length) (p4:=h.blks.length+1) (a:=a) (cc:=c) hw hto (by omega) (by omega) (by omega) (by omega) b1 b2 es.length 0 (by omega) (by omega)
  have fin':∀ {r:Option (Value × Heap)},(∃h',r=some (.agg #[.slice a es.length c],done h h')/\In h.blks.length No (nm h) h'/\AE h.blks.length h' (.slice a es.length c) (es.map (lessF to)))->∃h',r=some (.agg #[.slice a es.length c],h')/\HExt h h'/\AE h.blks.length h' (.slice a es.length c) (lessE es to):=fun ⟨h',q1,q2,q3⟩=>⟨_,q1,zAl q2,by unfold lessE;rw[hg];exact q3.done⟩
  simp -implicitDefEqProofs (disch:=omega) only[↓c37_0_eq,bxL,alL,e0,e1,hh,ldL,lA,e3,stL,hs4,l4,e5,faL,ldEs,l5',lnEs,↓zAc,↓zAb,↓Option.bind_some,↓zAa,sxB,Nat.reduceBEq]
  refine fin' (lp _ _ k5 ?_ c5 d5 ?_ ?_ ?_ ?_ ?_)
  ·rw[lessI_zero];exact a5
  all_goals rfl
def ofN (d:Int):Nat:=if 0<=d/\d<64 then 2^d.toNat else 0
theorem ofN_lt (d:Int):ofN d<2^64:=by
 unfold ofN
 split
 ·exact Nat.pow_lt_pow_right (by omega) (by omega)
 ·omega
theorem lnI1 (a:Option Addr) (n c:Nat) (h:Heap):lenV Tryz.prog 68 (.slice a n c) h=some (.int .i64 n):=by kernel_rfl
theorem iaI (p c:Nat):zAh Tryz.prog 68 (.slice (some ⟨p,0,none⟩) 1 c) (.int .i64 0)=some (.pointer (some ⟨p,0,none⟩)):=by kernel_rfl
theorem lsI1 (a:Int) (h:Heap):zAi Tryz.prog 68 1 #[(0,.int .i64 a)] h=some (.slice (some ⟨h.blks.length,0,none⟩) 1 1,h.new (.cells [.int .i64 a]) 3):=by kernel_rfl
theorem or0 (t:TypeId) (xo yo:Operand) (n:Nat) (hn:n<2^64):zBk Tryz.prog .or t xo yo (.int .u64 0) (.int .u64 n)=some (.int .u64 n):=by
 rw[bin_or64 _ _ _ _ _ (by omega) (by omega) (by omega) (by omega),Int.toNat_natCast,show (0:Int).toNat=0 from rfl,Nat.zero_or]
theorem spec_Of1 {h:Heap} {p c:Nat} {d:Int} (hc:Cells h p 3 [.int .i64 d]):evC Tryz.prog 28 #[.slice (some ⟨p,0,none⟩) 1 c] h=some (.int .u64 (ofN d:Nat),h):=by
 rw[call28]
 have l0:(nm h).load1 p 0=some (.int .i64 d):=hc.nm.load 0
 have w1:IntKind.i64.wrap (0+1)=1:=rfl
 have c1:((1:Nat):Int)=1:=rfl
 unfold ofN
 by_cases h1:0<=d
 ·by_cases h2:d<64
  ·rw[if_pos ⟨h1,h2⟩]
   obtain ⟨q,rfl⟩:∃q:Nat,d=q:=⟨d.toNat,by omega⟩
   have hq:2^q<2^64:=Nat.pow_lt_pow_right (by omega) (by omega)
   have e1:=fun t xo yo=>shl1 t xo yo q (by omega)
   have e2:=fun t xo yo=>or0 t xo yo (2^q) hq
   simp -implicitDefEqProofs (disch:=omega) only[↓c28_0_eq,↓c28_1_eq,↓c28_2_eq,↓zBe evC_m,dcT,dcF,lnI1,iaI,ldI,l0,w1,c1,e1,e2,Int.toNat_natCast,↓ret28,↓zAc,↓zAb,↓Option.bind_some,↓zAa,sxB,Nat.reduceBEq]
  ·rw[if_neg (by omega)]
   simp -implicitDefEqProofs (disch:=omega) only[↓c28_0_eq,↓c28_1_eq,↓c28_2_eq,↓zBe evC_m,dcT,dcF,lnI1,iaI,ldI,l0,w1,c1,Int.natCast_zero,↓ret28,↓zAc,↓zAb,↓Option.bind_some,↓zAa,sxB,Nat.reduceBEq]
 ·rw[if_neg (by omega)]
  simp -implicitDefEqProofs (disch:=omega) only[↓c28_0_eq,↓c28_1_eq,↓c28_2_eq,↓zBe evC_m,dcT,dcF,lnI1,iaI,ldI,l0,w1,c1,Int.natCast_zero,↓ret28,↓zAc,↓zAb,↓Option.bind_some,↓zAa,sxB,Nat.reduceBEq]
theorem spec_But {h:Heap} {v:Value} {es:List E3} (s:SE h v es) (hw:wide es) (hl:es.length<2^39) (to:Nat) (hto:to<2^64) (d:Int) :
  ∃a c h',evC Tryz.prog 35 #[.agg #[v],.int .u64 to,.int .i64 d] h=some (.agg #[.slice a es.length c],h')/\HExt h h'/\AE h.blks.length h' (.slice a es.length c) (lessE es (outB to (ofN d))):=by
 rw[call35]
 have c1:=((Cells.new (nm h) 51 [v]).keepNew (.cells [.slice none 0 0]) 51).keepNew (.cells [.int .i64 d]) 3
 have c2:=(Cells.new ((nm h).new (.cells [v]) 51) 51 [.slice none 0 0]).keepNew (.cells [.int .i64 d]) 3
 have c3:=Cells.new (((nm h).new (.cells [v]) 51).new (.cells [.slice none 0 0]) 51) 3 [.int .i64 d]
 have cA:=(Cells.new (nm h) 51 [v]).keepNew (.cells [.slice none 0 0]) 51
 have s2:SE ((((nm h).new (.cells [v]) 51).new (.cells [.slice none 0 0]) 51).new (.cells [.int .i64 d]) 3) v es:=((s.nm.keepNew _ _).keepNew _ _).keepNew _ _
 have e0:(nm h).blks.length=h.blks.length:=rfl
 have e1:((nm h).new (.cells [v]) 51).blks.length=h.blks.length+1:=by simp[Heap.new]
 have e2:(((nm h).new (.cells [v]) 51).new (.cells [.slice none 0 0]) 51).blks.length=h.blks.length+2:=by simp[Heap.new]
 have k2:In h.blks.length No (nm h) ((((nm h).new (.cells [v]) 51).new (.cells [.slice none 0 0]) 51).new (.cells [.int .i64 d]) 3):=((In.new (h:=nm h) (Nat.le_refl h.blks.length) _ _).trans (In.new (by omega) _ _)).trans (In.new (by omega) _ _)
 have hlen:((((nm h).new (.cells [v]) 51).new (.cells [.slice none 0 0]) 51).new (.cells [.int .i64 d]) 3).blks.length=h.blks.length+3:=by simp[Heap.new]
 rw[e0] at c1 cA
 rw[e1] at c2
 rw[e2] at c3
 have lA:(Heap.loadN (((nm h).new (.cells [v]) 51).new (.cells [.slice none 0 0]) 51) h.blks.length 0 1).map (fun cs=>Value.agg cs.toArray)=some (.agg #[v]):=by rw[cA.loadN (n:=1) rfl];rfl
 have eO:=spec_Of1 (c:=1) (h:=nm ((((nm h).new (.cells [v]) 51).new (.cells [.slice none 0 0]) 51).new (.cells [.int .i64 d]) 3)) c3
 generalize hh:(((nm h).new (.cells [v]) 51).new (.cells [.slice none 0 0]) 51)=hB at e2 k2 hlen lA c1 c2 c3 s2 eO
 generalize hh2:hB.new (.cells [.int .i64 d]) 3=h2 at k2 hlen c1 c2 c3 s2 eO
 have an:=fun t xo yo=>anS t xo yo to (ofN d) hto (ofN_lt d)
 obtain ⟨a,c,h3,e3,Ad,a3⟩:=spec_Less s2 hw hl (outB to (ofN d)) (outB_lt hto)
 have d3:=c2.ext Ad
 have hx3:=Ad.len
 have b2:zAn (.slice a es.length c)≠some (h.blks.length+1):=fun e=>by have:=Acc.ge a3 e;omega
 have d6:=d3.put [.slice a es.length c]
 have l6:(Heap.loadN (h3.put (h.blks.length+1) (.cells [.slice a es.length c])) (h.blks.length+1) 0 1).map (fun cs=>Value.agg cs.toArray)=some (.agg #[.slice a es.length c]):=by rw[d6.loadN (n:=1) rfl];rfl
 have k6:=(k2.trans (Ad.inn (by omega))).trans (In.put (S:=No) (by omega) (p:=h.blks.length+1) (.inl (by omega)) (.cells [.slice a es.length c]))
 refine ⟨a,c,_,?_,zAl k6,((Acc.keepPut a3 b2 _).up (by omega)).done⟩
 simp -implicitDefEqProofs (disch:=omega) only[↓c35_0_eq,bxL,alL,e0,e1,e2,hh,ldL,lA,lsI1,hh2,eO,an,am_nm,nm_mods,List.nil_append,e3,stL,zAp d3 (o:=0) (vs:=[.slice a es.length c]) (by simp),List.take_zero,List.append_nil,List.length_cons,List.length_nil,List.drop_succ_cons,List.drop_zero,Nat.zero_add,l6,rvals,↓ret35,↓zAc,↓zAb,↓Option.bind_some,↓zAa,sxB,Nat.reduceBEq]
end Go.Am
namespace Go.Am
open Go.Proofs
set_option maxRecDepth 100000
set_option linter.all false
attribute [local congr] zAf zAq zAr zAs zAj zAg
theorem anU (t:TypeId) (xo yo:Operand) (a b:Nat) (ha:a<2^64) (hb:b<2^64):zBk Tryz.prog .and t xo yo (.int .u64 a) (.int .u64 b)=some (.int .u64 ((a &&& b:Nat):Int)):=by
 rw[bin_and64 _ _ _ _ _ (by omega) (by omega) (by omega) (by omega),Int.toNat_natCast,Int.toNat_natCast]
def bothF (hd:List E3) (x:E3):Option E3:=if bsF hd x=true then some { x with t:=x.t &&& (hd.getD (bsK hd x) default).t } else none
def bothE (own hd:List E3):List E3:=own.filterMap (bothF hd)
theorem bothE_snoc (a hd:List E3) (e:E3):bothE (a++[e]) hd=bothE a hd++(if bsF hd e=true then [{ e with t:=e.t &&& (hd.getD (bsK hd e) default).t }] else []):=by
 unfold bothE
 rw[List.filterMap_append]
 congr 1
 unfold bothF
 by_cases h:bsF hd e=true<;>simp[h]
theorem bsK_lt {hd:List E3} {x:E3} (h:bsF hd x=true):bsK hd x<hd.length:=by
 unfold bsF at h
 refine Classical.byContradiction fun hn=>?_
 rw[List.getElem?_eq_none (by omega)] at h
 cases h
theorem var_setT {h:Heap} {p:Nat} {e:E3} (c:Cells h p 99 (entC e)) (t:Nat):∃h',zBc Tryz.prog 39 (.pointer (some ⟨p,0+2,none⟩)) (.int .u64 t) h=some h'/\h'=h.put p (.cells (entC { e with t:=t })):=by
 refine ⟨_,?_,rfl⟩
 rw[stSet,zAp c (by simp[entC])]
 rfl
theorem join_loop {h0 h1:Heap} {v w:Value} {es fs pre:List E3} {p1 p2:Nat} (s:SE h1 v es) (s2:SE h1 w fs) (hst:Srt fs) (hw:wide es) (hw2:wide fs) (hl:es.length<2^37) (hl2:fs.length<2^37) (hlp:pre.length<2^38) (hn:h0.blks.length<=h1.blks.length) (c1:Cells h1 p1 51 [w]) (c2:Cells h1 p2 51 [.slice none 0 0]) (hp2:h0.blks.length<=p2) (hsrt:(srtE (pre++bothE es fs)).length=(pre++bothE es fs).length) (nA:Nat) (hnA:h0.blks.length<=nA) (hnA1:nA<=h1.blks.length) (hvA:∀b,zAn v=some b->b<nA) (hwA:∀b,zAn w=some b->b<nA) (hpA:p1<nA) (hpA2:p2<nA) :
  ∀(m i:Nat),es.length-i=m->i<=es.length->∀(x:Nat->Value) (h:Heap) (a:Option Addr) (cc:Nat),In h0.blks.length No (nm h0) h->(∀b,b<nA->h.blks[b]?=h1.blks[b]?)->h1.blks.length<=h.blks.length->AE nA h (.slice a (pre++bothE (es.take i) fs).length cc) (pre++bothE (es.take i) fs)->
  x 3=.pointer (some ⟨p1,0,none⟩)->x 4=.pointer (some ⟨p2,0,none⟩)->x 5=.slice a (pre++bothE (es.take i) fs).length cc->x 28=v->x 29=.int .i64 es.length->x 30=.int .i64 i->
  ∃a' c' h',lK c43_1 61 x h (zAu 0 (sK c43_2 (zBb Tryz.f43 Tryz.prog h0)))=some (.agg #[.slice a' (srtE (pre++bothE es fs)).length c'],done h0 h')/\In h0.blks.length No (nm h0) h'/\AE nA h' (.slice a' (srtE (pre++bothE es fs)).length c') (srtE (pre++bothE es fs)):=by
 intro m
 have bl:∀i,(bothE (es.take i) fs).length<=es.length:=fun i=>by
  have:=List.length_filterMap_le (bothF fs) (es.take i)
  unfold bothE
  rw[List.length_take] at this
  omega
 have s0:∀ {h:Heap},(∀b,b<nA->h.blks[b]?=h1.blks[b]?)->SE h v es:=fun hs=>s.keep fun b hb hv=>hs b (hvA b hv)
 have t0:∀ {h:Heap},(∀b,b<nA->h.blks[b]?=h1.blks[b]?)->SE h w fs:=fun hs=>s2.keep fun b hb hv=>hs b (hwA b hv)
 induction m with
 | zero=>
  intro i e1 e2 x h a cc hin hs hs2 ha Ad Ae Af Be Bf Bg
  obtain rfl:i=es.length:=by omega
  have b0:=bl es.length
  rw[List.take_length] at ha Af b0
  obtain ⟨h2,q1,q2,q3,q4,q5⟩:=spec_sort (by omega) ha (by rw[List.length_append];omega) hsrt
  rw[<-hsrt] at q1 q2 Af
  have cc2:Cells h p2 51 [.slice none 0 0]:=(hs p2 hpA2).trans c2
  have hb2:∀ {w},zAn (.slice a w cc)≠some p2:=fun {w} e=>by
   have:=Acc.ge ha (b:=p2) (by cases a with | none=>cases e | some ad=>exact e)
   omega
  have c3:Cells h2 p2 51 [.slice none 0 0]:=(q5 p2 hb2).trans cc2
  have c4:=c3.put [.slice a (srtE (pre++bothE es fs)).length cc]
  have l4:(Heap.loadN (h2.put p2 (.cells [.slice a (srtE (pre++bothE es fs)).length cc])) p2 0 1).map (fun cs=>Value.agg cs.toArray)=some (.agg #[.slice a (srtE (pre++bothE es fs)).length cc]):=by rw[c4.loadN (n:=1) rfl];rfl
  have i2:=hin.trans (In.dn (q3 No) hnA)
  have i4:=i2.trans (In.put (S:=No) (Nat.le_trans i2.le i2.len) (p:=p2) (.inl hp2) (.cells [.slice a (srtE (pre++bothE es fs)).length cc]))
  rw[lK_eq]
  refine ⟨a,cc,_,?_,i4,q2.keepPut hb2 _⟩
  simp -implicitDefEqProofs (disch:=omega) only[↓c43_1_eq,↓c43_2_eq,Ad,Ae,Af,Be,Bf,Bg,dcF,q1,bdL,stL,zAp c3 (o:=0) (vs:=[.slice a (srtE (pre++bothE es fs)).length cc]) (by simp),List.take_zero,List.nil_append,List.append_nil,List.length_cons,List.length_nil,List.drop_succ_cons,List.drop_zero,Nat.zero_add,ldL,l4,rvals,↓ret43,↓zAc,↓zAb,↓Option.bind_some,↓zAa,sxB,Nat.reduceBEq]
 | succ m ih=>
  intro i hm hi x h a cc hin hs hs2 ha Ad Ae Af Be Bf Bg
  have hil:i<es.length:=by omega
  obtain ⟨b,of,hb,hbl,e1,e2⟩:=s.at' (t:=49) (el:=99) (by kernel_rfl) (by kernel_rfl) hil
  obtain ⟨f1,_⟩:=e2 h (hs b (hvA b hb))
  obtain ⟨hA,hB,a1,a2,a3,a4,a5,a6⟩:=var_ent (n0:=h1.blks.length) hs2 es[i]
  have hsB:∀b,b<nA->hB.blks[b]?=h1.blks[b]?:=fun b hb=>(a5.2 b (by omega)).trans (hs b hb)
  have cB:Cells hB p1 51 [w]:=(hsB p1 hpA).trans c1
  have lw:hB.load1 p1 0=some w:=cB.load 0
  obtain ⟨hC,q1,q2⟩:=spec_BS (t0 hsB) hst (by omega) es[i]
  have hsC:∀b,b<nA->hC.blks[b]?=h1.blks[b]?:=fun b hb=>(q2.old b (by have:=a5.1;omega)).trans (hsB b hb)
  have hlC:h1.blks.length<=hC.blks.length:=by have:=a5.1;have:=q2.len;omega
  have hinC:=(hin.trans (In.dn (a4 No) hn)).trans (q2.inn (by have:=a5.1;omega))
  have a3C:=a3.ext q2
  have lt:hC.load1 h.blks.length (0+2)=some (.int .u64 es[i].t):=a3C.load 2
  have haC:AE nA hC (.slice a (pre++bothE (es.take i) fs).length cc) (pre++bothE (es.take i) fs):=(ha.same a5).same q2.same
  have wi:IntKind.i64.wrap ((i:Int)+1)=((i+1:Nat):Int):=by rw[wrap_i64]<;>omega
  have ht:es.take i++[es[i]]=es.take (i+1):=by rw[List.take_succ,List.getElem?_eq_getElem hil];rfl
  have hsn:=bothE_snoc (es.take i) fs es[i]
  rw[ht] at hsn
  have hbi:=bl i
  rw[lK_eq]
  cases hbs:bsF fs es[i] with
  | false=>
   rw[hbs] at q1 hsn
   simp only[Bool.false_eq_true,if_false,List.append_nil] at hsn
   rw[<-hsn] at haC Af
   simp -implicitDefEqProofs (disch:=omega) only[↓c43_1_eq,↓c43_2_eq,Ad,Be,Bf,Bg,dcT,e1,ldE,f1,Option.map_some,entA,a1,a2,a6,faL,ldEs,lw,q1,wi,↓zAc,↓zAb,↓Option.bind_some,↓zAa,sxB,Nat.reduceBEq]
   refine ih (i+1) (by omega) (by omega) _ hC a cc hinC hsC hlC haC ?_ ?_ ?_ ?_ ?_ ?_
   ·exact Ad
   ·exact Ae
   ·exact Af
   ·exact Be
   ·exact Bf
   ·rfl
  | true=>
   rw[hbs] at q1 hsn
   simp only[if_true] at hsn
   have hkl:=bsK_lt hbs
   have hgd:fs.getD (bsK fs es[i]) default=fs[bsK fs es[i]]:=by rw[List.getD_eq_getElem?_getD,List.getElem?_eq_getElem hkl];rfl
   rw[hgd] at hsn
   obtain ⟨b',of',hb',hbl',e1',e2'⟩:=s2.at' (t:=49) (el:=99) (by kernel_rfl) (by kernel_rfl) hkl
   obtain ⟨_,_,_,g4⟩:=e2' hC (hsC b' (hwA b' hb'))
   have lw2:hC.load1 p1 0=some w:=((show Cells hC p1 51 [w] from (hsC p1 hpA).trans c1)).load 0
   have an:=fun t xo yo=>anU t xo yo es[i].t fs[bsK fs es[i]].t (hw _ (List.getElem_mem hil)).2 (hw2 _ (List.getElem_mem hkl)).2
   obtain ⟨hD,r1,r2⟩:=var_setT a3C (es[i].t &&& fs[bsK fs es[i]].t)
   subst r2
   have a3D:=a3C.put (entC { es[i] with t:=es[i].t &&& fs[bsK fs es[i]].t })
   have l3:(Heap.loadN (hC.put h.blks.length (.cells (entC { es[i] with t:=es[i].t &&& fs[bsK fs es[i]].t }))) h.blks.length 0 3).map (fun cs=>Value.agg cs.toArray)=some (entV { es[i] with t:=es[i].t &&& fs[bsK fs es[i]].t }):=by rw[a3D.loadN (n:=3) rfl];rfl
   have hsD:∀b,b<nA->(hC.put h.blks.length (.cells (entC { es[i] with t:=es[i].t &&& fs[bsK fs es[i]].t }))).blks[b]?=h1.blks[b]?:=fun b hb=>by rw[Heap.put_other (by omega)];exact hsC b hb
   have hlD:(hC.put h.blks.length (.cells (entC { es[i] with t:=es[i].t &&& fs[bsK fs es[i]].t }))).blks.length=hC.blks.length:=Heap.put_len _ _ _
   have hinD:=hinC.trans (In.put (S:=No) (Nat.le_trans hinC.le hinC.len) (p:=h.blks.length) (.inl (by omega)) (.cells (entC { es[i] with t:=es[i].t &&& fs[bsK fs es[i]].t })))
   have hbh:zAn (.slice a (pre++bothE (es.take i) fs).length cc)≠some h.blks.length:=fun e=>by have:=Sl.lt ha.se e;omega
   have haD:AE nA (hC.put h.blks.length (.cells (entC { es[i] with t:=es[i].t &&& fs[bsK fs es[i]].t }))) (.slice a (pre++bothE (es.take i) fs).length cc) (pre++bothE (es.take i) fs):=haC.keepPut hbh _
   generalize hC.put h.blks.length (.cells (entC { es[i] with t:=es[i].t &&& fs[bsK fs es[i]].t }))=hD at r1 l3 hsD hlD hinD haD
   obtain ⟨a',c',hE,q6,q7,q8,q9⟩:=app_ent etE (n0:=nA) (by omega) haD { es[i] with t:=es[i].t &&& fs[bsK fs es[i]].t } (by rw[List.length_append];omega)
   rw[List.append_assoc,<-hsn] at q6 q7
   have hsE:∀b,b<nA->hE.blks[b]?=h1.blks[b]?:=fun b hb=>(q9 b (by omega) (Acc.off haD (Nat.le_refl _) hb)).trans (hsD b hb)
   have hinE:=hinD.trans (Keeps.inn (S:=No) (q8.dn hnA))
   simp -implicitDefEqProofs (disch:=omega) only[↓c43_1_eq,↓c43_2_eq,Ad,Ae,Af,Be,Bf,Bg,dcT,e1,ldE,f1,Option.map_some,entA,a1,a2,a6,faL,ldEs,lw,q1,faE2,ldS,lt,lw2,e1',g4,an,r1,l3,bsE,q6,wi,↓zAc,↓zAb,↓Option.bind_some,↓zAa,sxB,Nat.reduceBEq]
   refine ih (i+1) (by omega) (by omega) _ hE a' c' hinE hsE (by have:=q8.len;omega) q7 ?_ ?_ ?_ ?_ ?_ ?_
   ·exact Ad
   ·exact Ae
   ·rfl
   ·exact Be
   ·exact Bf
   ·rfl
end Go.Am
namespace Go.Am
open Go.Proofs
set_option maxRecDepth 100000
set_option linter.all false
attribute [local congr] zAf zAq zAr zAs zAj zAg
theorem etI:ElemT Tryz.prog 68 3 1 8 (.int .i64 0):=⟨by kernel_rfl,by kernel_rfl,by kernel_rfl,by kernel_rfl,by omega,rfl,rfl⟩
abbrev i64V (n:Nat):Value:=.int .i64 (n:Int)
abbrev SI (h:Heap) (v:Value) (ns:List Nat):Prop:=Sl Tryz.prog h 1 v ns.length (ns.map i64V)
abbrev AI (n0:Nat) (h:Heap) (v:Value) (ns:List Nat):Prop:=Acc n0 h 3 1 v ns.length (ns.map i64V)
theorem mkI1 (n:Int) (h:Heap):zAi Tryz.prog 68 1 #[(0,.int .i64 n)] h=some (.slice (some ⟨h.blks.length,0,none⟩) 1 1,h.new (.cells [.int .i64 n]) 3):=by kernel_rfl
theorem app_int {n0:Nat} {h:Heap} (hn0:n0<=h.blks.length) {v:Value} {bs:List Nat} (ha:AI n0 h v bs) (b:Nat) (hl:bs.length<2^39) :
  ∃a c h',zBh Tryz.prog 68 (some 68) v (.slice (some ⟨h.blks.length,0,none⟩) 1 1) (h.new (.cells [.int .i64 b]) 3)=some (.slice a (bs++[b]).length c,h')/\AI n0 h' (.slice a (bs++[b]).length c) (bs++[b])/\Keeps n0 h h' ∧
   (∀q,q<h.blks.length->zAn v≠some q->h'.blks[q]?=h.blks[q]?):=by
 have ha':AI n0 (h.new (.cells [.int .i64 b]) 3) v bs:=ha.keep fun _ hb _=>Heap.new_old hb
 have hlit:SI (h.new (.cells [.int .i64 b]) 3) (.slice (some ⟨h.blks.length,0,none⟩) 1 1) [b]:=
  .mk (by simp[Heap.loadN,Heap.cells?,zBn]) (.inr ⟨Nat.le_refl _,by unfold UNK;omega⟩)
 have one:([b].map i64V).all Value.oneCell'=true:=rfl
 obtain ⟨v',h',e1,e2,e3,e4,e5⟩:=append_acc etI (t1:=some 68) (n0:=n0) (by simp[Heap.new];omega) ha' (newsV_row etI.under hlit.row) (by simp) (by simp;omega) (by simp;omega) one
 obtain ⟨a,c,rfl⟩:=e2.shape
 have el:bs.length+[b].length=(bs++[b]).length:=by simp
 rw[el] at e1 e2
 rw[<-List.map_append] at e2
 exact ⟨a,c,h',e1,e2,(Keeps.new hn0 _ _).trans e3,fun q hq hne=>(e4 q (by simp[Heap.new];omega) hne).trans (Heap.new_old hq)⟩
theorem tz_eq (s:Nat) (hs:s<2^64) (h:Heap):evC Tryz.prog 70 #[.int .u64 s] h=some (.int .i64 (Lib.ctz 64 s:Nat),h):=by
 rw[evC_ext xt_tz]
 unfold tzX
 simp only[]
 rw[if_pos ⟨by omega,by omega⟩,Int.toNat_natCast]
theorem list_loop {h0:Heap}:∀(s:Nat),s<2^64->∀(acc:List Nat) (a:Option Addr) (c:Nat) (x:Nat->Value) (h:Heap),acc.length+(listW s).length<=64->In h0.blks.length No (nm h0) h->AI h0.blks.length h (.slice a acc.length c) acc->
  x 0=.int .u64 s->x 3=.slice a acc.length c->
  ∃a' c' h',lK c32_1 16 x h (zAu 0 (sK c32_2 (zBb Tryz.f32 Tryz.prog h0)))=some (.slice a' (acc++listW s).length c',done h0 h')/\In h0.blks.length No (nm h0) h'/\AI h0.blks.length h' (.slice a' (acc++listW s).length c') (acc++listW s):=by
 intro s
 induction s using Nat.strongRecOn with
 | _ s ih=>
  intro hs acc a c x h hl hin ha Aa Ad
  rw[lK_eq]
  by_cases h0':s=0
  ·subst h0'
   have e:=listW_zero
   rw[e,List.append_nil]
   have nz:decide (((0:Nat):Int)≠0)=false:=by decide
   refine ⟨a,c,h,?_,hin,ha⟩
   simp -implicitDefEqProofs (disch:=omega) only[↓c32_1_eq,↓c32_2_eq,Aa,Ad,nz,↓ret32,↓zAc,↓zAb,↓Option.bind_some,↓zAa,sxB,Nat.reduceBEq]
  ·have e:listW s=Lib.ctz 64 s::listW (s &&& (s-1)):=listW_succ s h0'
   have nz:decide ((s:Int)≠0)=true:=decide_eq_true (by omega)
   have lt:s &&& (s-1)<s:=by
    have:s &&& (s-1)<=s-1:=Nat.and_le_right
    omega
   obtain ⟨a',c',h2,g1,g2,g3,g4⟩:=app_int (Nat.le_trans hin.le hin.len) ha (Lib.ctz 64 s) (by omega)
   have ws:IntKind.u64.wrap ((s:Int)-1)=((s-1:Nat):Int):=by rw[wrap_u64]<;>omega
   have an:=fun t xo yo=>anU t xo yo s (s-1) hs (by omega)
   have bs:=mkI1 (Lib.ctz 64 s:Nat) h
   have hi2:=hin.trans (Keeps.inn (S:=No) g3)
   have hacc:acc++listW s=(acc++[Lib.ctz 64 s])++listW (s &&& (s-1)):=by rw[e];simp
   rw[e,List.length_cons] at hl
   rw[hacc]
   simp -implicitDefEqProofs (disch:=omega) only[↓c32_1_eq,↓c32_2_eq,Aa,Ad,nz,tz_eq s hs,bs,g1,ws,an,↓zAc,↓zAb,↓Option.bind_some,↓zAa,sxB,Nat.reduceBEq]
   refine ih (s &&& (s-1)) lt (by omega) _ a' c' _ h2 ?_ hi2 g2 ?_ ?_
   ·rw[List.length_append,List.length_singleton];omega
   ·rfl
   ·rfl
theorem spec_List (s:Nat) (hs:s<2^64) (h:Heap):∃a c h',evC Tryz.prog 32 #[.int .u64 s] h=some (.slice a (listW s).length c,h')/\HExt h h'/\AI h.blks.length h' (.slice a (listW s).length c) (listW s):=by
 rw[call32]
 have hl:=listW_len s hs
 have lp:=list_loop (h0:=h) s hs [] none 0
 have fin':∀ {r:Option (Value × Heap)},(∃a c h',r=some (.slice a (listW s).length c,done h h')/\In h.blks.length No (nm h) h'/\AI h.blks.length h' (.slice a (listW s).length c) (listW s))->∃a c h',r=some (.slice a (listW s).length c,h')/\HExt h h'/\AI h.blks.length h' (.slice a (listW s).length c) (listW s):=fun ⟨a,c,h',q1,q2,q3⟩=>⟨a,c,_,q1,zAl q2,Acc.done q3⟩
 simp -implicitDefEqProofs (disch:=omega) only[↓c32_0_eq,↓zAc,↓zAb,↓Option.bind_some,↓zAa,sxB,Nat.reduceBEq]
 refine fin' (lp _ _ (by simpa using hl) (In.refl (Nat.le_refl _)) .nil ?_ ?_)
 all_goals rfl
theorem spec_InsertEnd {n0:Nat} {h:Heap} {a:Option Addr} {c:Nat} {es:List E3} (hn:n0<=h.blks.length) (ha:AE n0 h (.slice a es.length c) es) (x:E3) (hl:es.length<2^38) :
  ∃a' c' h',evC Tryz.prog 79 #[.slice a es.length c,.int .i64 es.length,.slice (some ⟨h.blks.length,0,none⟩) 1 1] (h.new (.cells (entC x)) 99)=some (.slice a' (es++[x]).length c',h') ∧
   AE n0 h' (.slice a' (es++[x]).length c') (es++[x])/\Keeps n0 h h'/\(∀q,q<h.blks.length->zAn (.slice a es.length c)≠some q->h'.blks[q]?=h.blks[q]?):=by
 obtain ⟨a',c',h',g1,g2,g3,g4⟩:=app_ent etE (n0:=n0) (h:=h) hn ha x (by omega)
 refine ⟨a',c',h',?_,g2,g3,g4⟩
 rw[evC_ext xt_ins]
 unfold insX
 simp only[]
 rw[if_pos trivial,if_pos (by omega)]
 exact g1
theorem insOk_end {es:List E3} {x:E3} (hk:bsK es x=es.length) (hl:es.length<2^38):InsOk es x:=fun _ _ _ n0 h a c hn ha=>by
 have hi:insE es x=es++[x]:=by unfold insE;rw[hk,List.take_length,List.drop_length]
 rw[hi,hk]
 exact spec_InsertEnd hn ha x hl
end Go.Am
namespace Go.Am
open Go.Proofs
set_option maxRecDepth 100000
set_option linter.all false
attribute [local congr] zAf zAq zAr zAs zAj zAg
def joinE (own hd:List E3):List E3:=if goodE own=true/\goodE hd=true then srtE (newsE own hd++newsE hd own++bothE own hd) else own
theorem wide_news {a b:List E3} (w:wide a):wide (newsE a b):=fun e he=>w e (List.mem_filter.1 he).1
theorem wide_both {a b:List E3} (w:wide a):wide (bothE a b):=fun e he=>by
 obtain ⟨x,hx,h⟩:=List.mem_filterMap.1 he
 unfold bothF at h
 split at h
 ·cases h
  exact ⟨(w x hx).1,Nat.lt_of_le_of_lt Nat.and_le_left (w x hx).2⟩
 ·cases h
theorem wide_join {a b:List E3} (w:wide a) (w2:wide b):wide (joinE a b):=by
 unfold joinE
 split
 ·intro e he
  have:=(srtE_perm _).subset he
  rcases List.mem_append.1 this with h | h
  ·rcases List.mem_append.1 h with h | h
   ·exact wide_news w e h
   ·exact wide_news w2 e h
  ·exact wide_both w e h
 ·exact w
theorem spec_Join {h:Heap} {v w:Value} {es fs:List E3} (s:SE h v es) (s2:SE h w fs) (hw:wide es) (hw2:wide fs) (hl:es.length<2^36) (hl2:fs.length<2^36) :
  ∃a c h',evC Tryz.prog 43 #[.agg #[v],.agg #[w]] h=some (.agg #[.slice a (joinE es fs).length c],h')/\HExt h h'/\AE h.blks.length h' (.slice a (joinE es fs).length c) (joinE es fs):=by
 rw[call43]
 have c1:=((Cells.new (nm h) 51 [v]).keepNew (.cells [w]) 51).keepNew (.cells [.slice none 0 0]) 51
 have c2:=(Cells.new ((nm h).new (.cells [v]) 51) 51 [w]).keepNew (.cells [.slice none 0 0]) 51
 have c3:=Cells.new (((nm h).new (.cells [v]) 51).new (.cells [w]) 51) 51 [.slice none 0 0]
 have s1':SE ((((nm h).new (.cells [v]) 51).new (.cells [w]) 51).new (.cells [.slice none 0 0]) 51) v es:=((s.nm.keepNew _ _).keepNew _ _).keepNew _ _
 have s2':SE ((((nm h).new (.cells [v]) 51).new (.cells [w]) 51).new (.cells [.slice none 0 0]) 51) w fs:=((s2.nm.keepNew _ _).keepNew _ _).keepNew _ _
 have e0:(nm h).blks.length=h.blks.length:=rfl
 have e1:((nm h).new (.cells [v]) 51).blks.length=h.blks.length+1:=by simp[Heap.new]
 have e2:(((nm h).new (.cells [v]) 51).new (.cells [w]) 51).blks.length=h.blks.length+2:=by simp[Heap.new]
 have k2:In h.blks.length No (nm h) ((((nm h).new (.cells [v]) 51).new (.cells [w]) 51).new (.cells [.slice none 0 0]) 51):=((In.new (h:=nm h) (Nat.le_refl h.blks.length) _ _).trans (In.new (by omega) _ _)).trans (In.new (by omega) _ _)
 have hlen:((((nm h).new (.cells [v]) 51).new (.cells [w]) 51).new (.cells [.slice none 0 0]) 51).blks.length=h.blks.length+3:=by simp[Heap.new]
 rw[e0] at c1
 rw[e1] at c2
 rw[e2] at c3
 generalize hh:((((nm h).new (.cells [v]) 51).new (.cells [w]) 51).new (.cells [.slice none 0 0]) 51)=h2 at c1 c2 c3 s1' s2' k2 hlen
 have lv:∀ {h':Heap},Same h2 h'->(h'.loadN h.blks.length 0 1).map (fun cs=>Value.agg cs.toArray)=some (.agg #[v]):=fun hs=>by rw[(c1.same hs).loadN (n:=1) rfl];rfl
 have lw:∀ {h':Heap},Same h2 h'->(h'.loadN (h.blks.length+1) 0 1).map (fun cs=>Value.agg cs.toArray)=some (.agg #[w]):=fun hs=>by rw[(c2.same hs).loadN (n:=1) rfl];rfl
 obtain ⟨h3,q3,Ad⟩:=spec_Good s1' hw (by omega)
 have s3:=Ad.same
 have hx3:=Ad.len
 have k3:=k2.trans (Ad.inn (by omega))
 -- a log that may not be: its copy
 have bad:∀ {h4:Heap},Same h2 h4->In h.blks.length No (nm h) h4->∃a c h5 h6,evC Tryz.prog 75 #[.agg #[v]] h4=some (.agg #[.slice a es.length c],h5)/\zBc Tryz.prog 51 (.pointer (some ⟨h.blks.length+2,0,none⟩)) (.agg #[.slice a es.length c]) h5=some h6/\(h6.loadN (h.blks.length+2) 0 1).map (fun cs=>Value.agg cs.toArray)=some (.agg #[.slice a es.length c])/\In h.blks.length No (nm h) h6/\AE h.blks.length h6 (.slice a es.length c) es:=fun {h4} hs hk=>by
  obtain ⟨a,c,h5,g1,g2,g3⟩:=spec_clone (s1'.same hs) (by omega)
  have d5:=(c3.same hs).ext g2
  have d6:=d5.put [.slice a es.length c]
  have hs':=hs.1
  have hg2:=g2.len
  refine ⟨a,c,h5,h5.put (h.blks.length+2) (.cells [.slice a es.length c]),g1,?_,?_,(hk.trans (g2.inn (by omega))).trans (In.put (by omega) (.inl (by omega)) _),(Acc.keepPut g3 (fun e=>by have:=Acc.ge g3 e;omega) _).up (by omega)⟩
  ·rw[stL,zAp d5 (by simp)];rfl
  ·rw[d6.loadN (n:=1) rfl];rfl
 cases hg:goodE es with
 | false=>
  rw[hg] at q3
  obtain ⟨a,c,h5,h6,g1,g2,g3,g4,g5⟩:=bad s3 k3
  have hj:joinE es fs=es:=by unfold joinE;rw[if_neg (by simp[hg])]
  rw[hj]
  refine ⟨a,c,_,?_,zAl g4,g5.done⟩
  simp -implicitDefEqProofs (disch:=omega) only[↓c43_0_eq,bxL,alL,e0,e1,e2,hh,ldL,lv (Same.refl _),q3,lv s3,g1,g2,g3,rvals,↓ret43,↓zAc,↓zAb,↓Option.bind_some,↓zAa,sxB,Nat.reduceBEq]
 | true=>
  rw[hg] at q3
  obtain ⟨h4,q4,Ae⟩:=spec_Good (s2'.same s3) hw2 (by omega)
  have s4:=s3.trans Ae.same
  have hx4:=Ae.len
  have k4:=k3.trans (Ae.inn (by omega))
  cases hg2:goodE fs with
  | false=>
   rw[hg2] at q4
   obtain ⟨a,c,h5,h6,g1,g2,g3,g4,g5⟩:=bad s4 k4
   have hj:joinE es fs=es:=by unfold joinE;rw[if_neg (by simp[hg2])]
   rw[hj]
   refine ⟨a,c,_,?_,zAl g4,g5.done⟩
   simp -implicitDefEqProofs (disch:=omega) only[↓c43_0_eq,bxL,alL,e0,e1,e2,hh,ldL,lv (Same.refl _),q3,lw s3,q4,lv s4,g1,g2,g3,rvals,↓ret43,↓zAc,↓zAb,↓Option.bind_some,↓zAa,sxB,Nat.reduceBEq]
  | true=>
   rw[hg2] at q4
   have g1:=((zBi es).1 hg).2
   have g2:=((zBi fs).1 hg2).2
   obtain ⟨a5,c5,h5,q5,Af,r5⟩:=spec_news (h:=nm h4) (s1'.same s4).nm (s2'.same s4).nm g2 (by omega) (by omega)
   obtain ⟨Af',m5⟩:=Af.amx
   have r5':AE h4.blks.length (am h5 h4) (.slice a5 (newsE es fs).length c5) (newsE es fs):=Acc.keep r5 fun _ _ _=>rfl
   have s5:=s4.trans Af'.same
   have hx5:=Af'.len
   obtain ⟨a6,c6,h6,q6,Ag,r6⟩:=spec_news (h:=am h5 h4) (s2'.same s5) (s1'.same s5) g1 (by omega) (by omega)
   have s6:=s5.trans Ag.same
   have hx6:=Ag.len
   have nl:∀a b,(newsE a b).length<=a.length:=fun a b=>List.length_filter_le _ _
   have n1:=nl es fs
   have n2:=nl fs es
   obtain ⟨a7,c7,h7,q7,r7,Ah,o7,_⟩:=app_ents etE etE.under (n0:=h4.blks.length) (h:=h6) (by omega) (Acc.same r5' Ag.same) (AE.se r6) (by omega)
   have k7:=(((k4.trans (Af'.inn (by omega))).trans (Ag.inn (by omega))).trans (Keeps.inn (S:=No) (Ah.dn (by omega))))
   have s7:Same h2 h7:=⟨by have:=Ah.len;omega,fun q hq=>(o7 q (by omega) (Acc.off r5' (n1:=h2.blks.length) (by omega) hq)).trans (s6.2 q hq)⟩
   have l7:h7.load1 h.blks.length 0=some v:=(c1.same s7).load 0
   have hj:joinE es fs=srtE (newsE es fs++newsE fs es++bothE es fs):=by unfold joinE;rw[if_pos ⟨hg,hg2⟩]
   rw[hj]
   obtain ⟨va,vc,rfl⟩:=s.shape
   have hlt7:=s7.1
   have r7':AE h4.blks.length h7 (.slice a7 (newsE es fs++newsE fs es++bothE (es.take 0) fs).length c7) (newsE es fs++newsE fs es++bothE (es.take 0) fs):=by
    rw[List.take_zero];show AE _ _ (.slice a7 (newsE es fs++newsE fs es++[]).length c7) (newsE es fs++newsE fs es++[]);rw[List.append_nil];exact r7
   have lp:=join_loop (h0:=h) (h1:=h7) (p1:=h.blks.length+1) (p2:=h.blks.length+2) (pre:=newsE es fs++newsE fs es) (s1'.same s7) (s2'.same s7) g2 hw hw2 (by omega) (by omega) (by rw[List.length_append];omega) (by omega) (c2.same s7) (c3.same s7) (by omega) (srtE_len _) h4.blks.length (by omega) (by have:=Ah.len;omega) (fun b hb=>by have:=Sl.lt s1' hb;omega) (fun b hb=>by have:=Sl.lt s2' hb;omega) (by omega) (by omega) es.length 0 (by omega) (by omega)
   have fin':∀ {r:Option (Value × Heap)},(∃a c h',r=some (.agg #[.slice a (srtE (newsE es fs++newsE fs es++bothE es fs)).length c],done h h')/\In h.blks.length No (nm h) h'/\AE h4.blks.length h' (.slice a (srtE (newsE es fs++newsE fs es++bothE es fs)).length c) (srtE (newsE es fs++newsE fs es++bothE es fs)))->∃a c h',r=some (.agg #[.slice a (srtE (newsE es fs++newsE fs es++bothE es fs)).length c],h')/\HExt h h'/\AE h.blks.length h' (.slice a (srtE (newsE es fs++newsE fs es++bothE es fs)).length c) (srtE (newsE es fs++newsE fs es++bothE es fs)):=fun ⟨a,c,h',g1,g2,g3⟩=>⟨a,c,_,g1,zAl g2,(Acc.up g3 (by omega)).done⟩
   simp -implicitDefEqProofs (disch:=omega) only[↓c43_0_eq,bxL,alL,e0,e1,e2,hh,ldL,lv (Same.refl _),q3,lw s3,q4,lv s4,lw s4,q5,m5,lw s5,lv s5,q6,q7,List.nil_append,faL,ldEs,l7,lnEs,↓zAc,↓zAb,↓Option.bind_some,↓zAa,sxB,Nat.reduceBEq]
   refine fin' (lp _ _ a7 c7 k7 (fun _ _=>rfl) (Nat.le_refl _) r7' ?_ ?_ ?_ ?_ ?_ ?_)
   ·rfl
   ·rfl
   ·rw[List.take_zero];show Value.slice a7 (newsE es fs++newsE fs es).length c7=Value.slice a7 (newsE es fs++newsE fs es++[]).length c7;rw[List.append_nil]
   all_goals rfl
end Go.Am
namespace Go.Am
open Go.Proofs
set_option maxRecDepth 100000
set_option linter.all false
attribute [local congr] zAf zAq zAr zAs zAj zAg
def zBr:List E3->List E3
 | []=>[]
 | [e]=>[e]
 | e::e'::l=>if e.t≠0\/e'.f≠e.f then e::zBr (e'::l) else zBr (e'::l)
theorem purgeL_two (e e':E3) (l:List E3):zBr (e::e'::l)=if e.t≠0\/e'.f≠e.f then e::zBr (e'::l) else zBr (e'::l):=by rw[zBr]
theorem purgeL_len:∀l:List E3,(zBr l).length<=l.length
 | []=>Nat.le_refl _
 | [e]=>Nat.le_refl _
 | e::e'::l=>by
  have:=purgeL_len (e'::l)
  unfold zBr
  split
  ·simp at *;omega
  ·simp at *;omega
def purgeE (es:List E3):List E3:=if goodE es then zBr es else es
theorem purge_loop {h0 h1:Heap} {v:Value} {es:List E3} {p1 p2:Nat} (s:SE h1 v es) (hl:es.length<2^38) (c1:Cells h1 p1 51 [v]) (c2:Cells h1 p2 51 [.slice none 0 0]) (hp2:h0.blks.length<=p2) (hn1:p2<h1.blks.length) (hn0:h0.blks.length<=h1.blks.length) :
  ∀(m i:Nat),es.length-i=m->i<=es.length->∀(x:Nat->Value) (h:Heap) (a:Option Addr) (c:Nat) (o:List E3),In h0.blks.length No (nm h0) h->Same h1 h->AE h1.blks.length h (.slice a o.length c) o->o++zBr (es.drop i)=zBr es->
  x 1=.pointer (some ⟨p1,0,none⟩)->x 2=.pointer (some ⟨p2,0,none⟩)->x 3=.slice a o.length c->x 13=v->x 14=.int .i64 es.length->x 15=.int .i64 i->
  ∃a' c' h',lK c34_1 50 x h (zAu 0 (sK c34_2 (zBb Tryz.f34 Tryz.prog h0)))=some (.agg #[.slice a' (zBr es).length c'],done h0 h')/\In h0.blks.length No (nm h0) h'/\AE h1.blks.length h' (.slice a' (zBr es).length c') (zBr es):=by
 intro m
 have hpl:=purgeL_len es
 induction m with
 | zero=>
  intro i e1 e2 x h a c o hin hs ha ho Ab Ac Ad Ao Ap Aq
  obtain rfl:i=es.length:=by omega
  rw[List.drop_length] at ho
  simp only[zBr,List.append_nil] at ho
  subst ho
  have c2':=c2.same hs
  have c5:=c2'.put [.slice a (zBr es).length c]
  have hb:zAn (.slice a (zBr es).length c)≠some p2:=fun e=>by have:=Acc.ge ha e;omega
  have l5:(Heap.loadN (h.put p2 (.cells [.slice a (zBr es).length c])) p2 0 1).map (fun cs=>Value.agg cs.toArray)=some (.agg #[.slice a (zBr es).length c]):=by rw[c5.loadN (n:=1) rfl];rfl
  have i5:=hin.trans (In.put (S:=No) (Nat.le_trans hin.le hin.len) (p:=p2) (.inl hp2) (.cells [.slice a (zBr es).length c]))
  rw[lK_eq]
  refine ⟨a,c,_,?_,i5,ha.keepPut hb _⟩
  simp -implicitDefEqProofs (disch:=omega) only[↓c34_1_eq,↓c34_2_eq,Ab,Ac,Ad,Ao,Ap,Aq,dcF,bdL,stL,zAp c2' (o:=0) (vs:=[.slice a (zBr es).length c]) (by simp),List.take_zero,List.nil_append,List.append_nil,List.length_cons,List.length_nil,List.drop_succ_cons,List.drop_zero,Nat.zero_add,ldL,l5,rvals,↓ret34,↓zAc,↓zAb,↓Option.bind_some,↓zAa,sxB,Nat.reduceBEq]
 | succ m ih=>
  intro i hm hi x h a c o hin hs ha ho Ab Ac Ad Ao Ap Aq
  have hil:i<es.length:=by omega
  obtain ⟨b,of,hb,hbl,e1,e2⟩:=s.at' (t:=49) (el:=99) (by kernel_rfl) (by kernel_rfl) hil
  obtain ⟨f1,f2,f3,f4⟩:=e2 h (hs.2 b hbl)
  have hnh:h1.blks.length<=h.blks.length:=hs.1
  obtain ⟨hA,hB,a1,a2,a3,a4,a5,a6⟩:=var_ent (n0:=h1.blks.length) hnh es[i]
  have hsB:=hs.trans a5
  have hinB:=hin.trans (In.dn (a4 No) hn0)
  have lB:hB.load1 p1 0=some v:=(c1.same hsB).load 0
  have lf:hB.load1 h.blks.length 0=some (.int .i64 es[i].f):=a3.load 0
  have lt:hB.load1 h.blks.length (0+2)=some (.int .u64 es[i].t):=a3.load 2
  obtain ⟨va,vc,rfl⟩:=s.shape
  have wi:IntKind.i64.wrap ((i:Int)+1)=((i+1:Nat):Int):=by rw[wrap_i64]<;>omega
  have wl:IntKind.i64.wrap ((es.length:Int)-1)=((es.length-1:Nat):Int):=by rw[wrap_i64]<;>omega
  have hol:o.length<2^39:=by
   have:=congrArg List.length ho
   rw[List.length_append] at this;omega
  obtain ⟨a',c',hD,q1,q2,q3,q4⟩:=app_ent etE (n0:=h1.blks.length) (Nat.le_trans hnh a5.1) (ha.same a5) es[i] hol
  have hsD:Same h1 hD:=⟨Nat.le_trans hsB.1 q3.len,fun q hq=>(q4 q (Nat.lt_of_lt_of_le hq hsB.1) (fun e=>by have:=Acc.ge ha e;omega)).trans (hsB.2 q hq)⟩
  have hinD:=hinB.trans (Keeps.inn (S:=No) (q3.dn hn0))
  by_cases hlast:i+1=es.length
  ·have ho':(o++[es[i]])++zBr (es.drop (i+1))=zBr es:=by
    rw[<-ho,List.drop_eq_getElem_cons hil,hlast,List.drop_length];simp[zBr]
   have d1:decide ((i:Int)=((es.length-1:Nat):Int))=true:=decide_eq_true (by omega)
   by_cases ht:es[i].t=0
   ·have d0:decide ((es[i].t:Int)≠0)=false:=decide_eq_false (by omega)
    rw[lK_eq]
    simp -implicitDefEqProofs (disch:=omega) only[↓c34_1_eq,↓c34_2_eq,Ab,Ac,Ad,Ao,Ap,Aq,dcT,e1,ldE,f1,Option.map_some,entA,a1,a2,a6,faE0,faE2,ldS,lt,d0,faL,ldEs,lB,lnEs,wl,d1,bsE,q1,wi,↓zAc,↓zAb,↓Option.bind_some,↓zAa,sxB,Nat.reduceBEq]
    exact ih (i+1) (by omega) (by omega) (up _ _) hD a' c' _ hinD hsD q2 ho' Ab Ac rfl Ao Ap rfl
   ·have d0:decide ((es[i].t:Int)≠0)=true:=decide_eq_true (by omega)
    rw[lK_eq]
    simp -implicitDefEqProofs (disch:=omega) only[↓c34_1_eq,↓c34_2_eq,Ab,Ac,Ad,Ao,Ap,Aq,dcT,e1,ldE,f1,Option.map_some,entA,a1,a2,a6,faE0,faE2,ldS,lt,d0,faL,ldEs,lB,lnEs,wl,d1,bsE,q1,wi,↓zAc,↓zAb,↓Option.bind_some,↓zAa,sxB,Nat.reduceBEq]
    exact ih (i+1) (by omega) (by omega) (up _ _) hD a' c' _ hinD hsD q2 ho' Ab Ac rfl Ao Ap rfl
  ·have hin1:i+1<es.length:=by omega
   have d1:decide ((i:Int)=((es.length-1:Nat):Int))=false:=decide_eq_false (by omega)
   obtain ⟨b',of',hb',hbl',e1',e2'⟩:=s.at' (t:=49) (el:=99) (by kernel_rfl) (by kernel_rfl) hin1
   obtain ⟨_,f2',_⟩:=e2' hB (hsB.2 b' hbl')
   have hdr:es.drop i=es[i]::es[i+1]::es.drop (i+2):=by rw[List.drop_eq_getElem_cons hil,List.drop_eq_getElem_cons hin1]
   by_cases hk:es[i].t≠0\/es[i+1].f≠es[i].f
   ·have ho':(o++[es[i]])++zBr (es.drop (i+1))=zBr es:=by
     rw[<-ho,hdr,List.drop_eq_getElem_cons hin1,purgeL_two es[i],if_pos hk,List.append_assoc];rfl
    by_cases ht:es[i].t=0
    ·have hf:es[i+1].f≠es[i].f:=hk.resolve_left (fun h=>h ht)
     have d0:decide ((es[i].t:Int)≠0)=false:=decide_eq_false (by omega)
     rw[lK_eq]
     simp -implicitDefEqProofs (disch:=omega) only[↓c34_1_eq,↓c34_2_eq,Ab,Ac,Ad,Ao,Ap,Aq,dcT,e1,ldE,f1,Option.map_some,entA,a1,a2,a6,faE0,faE2,ldS,lt,d0,faL,ldEs,lB,lnEs,wl,d1,wi,e1',ldI,f2',lf,decide_eq_true hf,bsE,q1,↓zAc,↓zAb,↓Option.bind_some,↓zAa,sxB,Nat.reduceBEq]
     exact ih (i+1) (by omega) (by omega) (up _ _) hD a' c' _ hinD hsD q2 ho' Ab Ac rfl Ao Ap rfl
    ·have d0:decide ((es[i].t:Int)≠0)=true:=decide_eq_true (by omega)
     rw[lK_eq]
     simp -implicitDefEqProofs (disch:=omega) only[↓c34_1_eq,↓c34_2_eq,Ab,Ac,Ad,Ao,Ap,Aq,dcT,e1,ldE,f1,Option.map_some,entA,a1,a2,a6,faE0,faE2,ldS,lt,d0,bsE,q1,wi,↓zAc,↓zAb,↓Option.bind_some,↓zAa,sxB,Nat.reduceBEq]
     exact ih (i+1) (by omega) (by omega) (up _ _) hD a' c' _ hinD hsD q2 ho' Ab Ac rfl Ao Ap rfl
   ·have ht:es[i].t=0:=Classical.byContradiction fun h=>hk (.inl h)
    have hf:es[i+1].f=es[i].f:=Classical.byContradiction fun h=>hk (.inr h)
    have d0:decide ((es[i].t:Int)≠0)=false:=decide_eq_false (by omega)
    have d2:decide (es[i+1].f≠es[i].f)=false:=decide_eq_false (fun h=>h hf)
    have ho':o++zBr (es.drop (i+1))=zBr es:=by
     rw[<-ho,hdr,List.drop_eq_getElem_cons hin1,purgeL_two es[i],if_neg hk]
    rw[lK_eq]
    simp -implicitDefEqProofs (disch:=omega) only[↓c34_1_eq,↓c34_2_eq,Ab,Ac,Ad,Ao,Ap,Aq,dcT,e1,ldE,f1,Option.map_some,entA,a1,a2,a6,faE0,faE2,ldS,lt,d0,faL,ldEs,lB,lnEs,wl,d1,wi,e1',ldI,f2',lf,d2,↓zAc,↓zAb,↓Option.bind_some,↓zAa,sxB,Nat.reduceBEq]
    exact ih (i+1) (by omega) (by omega) (up _ _) hB a c _ hinB hsB (ha.same a5) ho' Ab Ac Ad Ao Ap rfl
theorem spec_Purge {h:Heap} {v:Value} {es:List E3} (s:SE h v es) (hw:wide es) (hl:es.length<2^38) :
  ∃a c h',evC Tryz.prog 34 #[.agg #[v]] h=some (.agg #[.slice a (purgeE es).length c],h')/\HExt h h'/\AE h.blks.length h' (.slice a (purgeE es).length c) (purgeE es):=by
 rw[call34]
 have c1:=(Cells.new (nm h) 51 [v]).keepNew (.cells [.slice none 0 0]) 51
 have c2:=Cells.new ((nm h).new (.cells [v]) 51) 51 [.slice none 0 0]
 have s2:SE (((nm h).new (.cells [v]) 51).new (.cells [.slice none 0 0]) 51) v es:=(s.nm.keepNew _ _).keepNew _ _
 have k2:In h.blks.length No (nm h) (((nm h).new (.cells [v]) 51).new (.cells [.slice none 0 0]) 51):=(In.new (h:=nm h) (Nat.le_refl h.blks.length) _ _).trans (In.new (by simp[Heap.new]) _ _)
 have e0:(nm h).blks.length=h.blks.length:=rfl
 have e1:((nm h).new (.cells [v]) 51).blks.length=h.blks.length+1:=by simp[Heap.new]
 rw[e0] at c1
 rw[e1] at c2
 have hlen:(((nm h).new (.cells [v]) 51).new (.cells [.slice none 0 0]) 51).blks.length=h.blks.length+2:=by simp[Heap.new]
 generalize hh:(((nm h).new (.cells [v]) 51).new (.cells [.slice none 0 0]) 51)=h2 at c1 c2 s2 k2 hlen
 have lA:(h2.loadN h.blks.length 0 1).map (fun cs=>Value.agg cs.toArray)=some (.agg #[v]):=by rw[c1.loadN (n:=1) rfl];rfl
 obtain ⟨a,c,h3,e3,Ad,a3⟩:=spec_clone s2 (by omega)
 have c3:=c1.ext Ad
 have d3:=c2.ext Ad
 have hx3:=Ad.len
 have b1:zAn (.slice a es.length c)≠some h.blks.length:=fun e=>by have:=a3.ge e;omega
 have b2:zAn (.slice a es.length c)≠some (h.blks.length+1):=fun e=>by have:=a3.ge e;omega
 have c4:=c3.put [.slice a es.length c]
 have d4:Cells (h3.put h.blks.length (.cells [.slice a es.length c])) (h.blks.length+1) 51 [.slice none 0 0]:=d3.keepPut (by omega) _
 have a4:AE h.blks.length (h3.put h.blks.length (.cells [.slice a es.length c])) (.slice a es.length c) es:=(a3.keepPut b1 _).up (by omega)
 have k4:=(k2.trans (Ad.inn (by omega))).trans (In.put (S:=No) (by omega) (p:=h.blks.length) (.inl (by omega)) (.cells [.slice a es.length c]))
 have hs4:=zAp c3 (o:=0) (vs:=[.slice a es.length c]) (by simp)
 have hl4:(h3.put h.blks.length (.cells [.slice a es.length c])).blks.length=h3.blks.length:=Heap.put_len _ _ _
 simp only[List.take_zero,List.nil_append,List.append_nil,List.length_cons,List.length_nil,List.drop_succ_cons,List.drop_zero,Nat.zero_add] at hs4
 generalize hh4:h3.put h.blks.length (.cells [.slice a es.length c])=h4 at c4 d4 a4 k4 hs4 hl4
 have l4:(h4.loadN h.blks.length 0 1).map (fun cs=>Value.agg cs.toArray)=some (.agg #[.slice a es.length c]):=by rw[c4.loadN (n:=1) rfl];rfl
 obtain ⟨h5,e5,Af⟩:=spec_Good a4.se hw (by omega)
 have c5:=c4.ext Af
 have d5:=d4.ext Af
 have hx5:=Af.len
 have a5:AE h.blks.length h5 (.slice a es.length c) es:=a4.same Af.same
 have k5:=k4.trans (Af.inn (Nat.le_trans k4.le k4.len))
 have l5:(h5.loadN h.blks.length 0 1).map (fun cs=>Value.agg cs.toArray)=some (.agg #[.slice a es.length c]):=by rw[c5.loadN (n:=1) rfl];rfl
 have l5':h5.load1 h.blks.length 0=some (.slice a es.length c):=c5.load 0
 unfold purgeE
 cases hg:goodE es with
 | false=>
  rw[hg] at e5
  refine ⟨a,c,?_⟩
  have d6:=d5.put [.slice a es.length c]
  have l6:(Heap.loadN (h5.put (h.blks.length+1) (.cells [.slice a es.length c])) (h.blks.length+1) 0 1).map (fun cs=>Value.agg cs.toArray)=some (.agg #[.slice a es.length c]):=by rw[d6.loadN (n:=1) rfl];rfl
  have k6:=k5.trans (In.put (S:=No) (Nat.le_trans k5.le k5.len) (p:=h.blks.length+1) (.inl (by omega)) (.cells [.slice a es.length c]))
  simp only[Bool.false_eq_true,if_false]
  refine ⟨_,?_,zAl k6,(a5.keepPut b2 _).done⟩
  simp -implicitDefEqProofs (disch:=omega) only[↓c34_0_eq,bxL,alL,e0,e1,hh,ldL,lA,e3,stL,hs4,l4,e5,l5,zAp d5 (o:=0) (vs:=[.slice a es.length c]) (by simp),List.take_zero,List.nil_append,List.append_nil,List.length_cons,List.length_nil,List.drop_succ_cons,List.drop_zero,Nat.zero_add,l6,rvals,↓ret34,↓zAc,↓zAb,↓Option.bind_some,↓zAa,sxB,Nat.reduceBEq]
 | true=>
  rw[hg] at e5
  have lp:=purge_loop (h0:=h) (h1:=h5) (p1:=h.blks.length) (p2:=h.blks.length+1) a5.se hl c5 d5 (by omega) (by omega) (by omega) es.length 0 (by omega) (by omega)
  have fin':∀ {r:Option (Value × Heap)},(∃a c h',r=some (.agg #[.slice a (zBr es).length c],done h h')/\In h.blks.length No (nm h) h'/\AE h5.blks.length h' (.slice a (zBr es).length c) (zBr es))->∃a c h',r=some (.agg #[.slice a (zBr es).length c],h')/\HExt h h'/\AE h.blks.length h' (.slice a (zBr es).length c) (zBr es):=fun ⟨a,c,h',q1,q2,q3⟩=>⟨a,c,_,q1,zAl q2,(Acc.up q3 (by omega)).done⟩
  simp only[if_true]
  simp -implicitDefEqProofs (disch:=omega) only[↓c34_0_eq,bxL,alL,e0,e1,hh,ldL,lA,e3,stL,hs4,l4,e5,faL,ldEs,l5',lnEs,↓zAc,↓zAb,↓Option.bind_some,↓zAa,sxB,Nat.reduceBEq]
  refine fin' (lp _ _ none 0 [] k5 (Same.refl _) (AE.nil _ _) (by rw[List.drop_zero];rfl) ?_ ?_ ?_ ?_ ?_ ?_)
  all_goals rfl
end Go.Am
namespace Go.Am
open Go.Proofs
set_option maxRecDepth 100000
set_option linter.all false
attribute [local congr] zAf zAq zAr zAs zAj zAg
theorem bdE3 (a b c:Int):buildV Tryz.prog 99 #[(0,.int .i64 a),(1,.int .u64 b),(2,.int .u64 c)]=some (.agg #[.int .i64 a,.int .u64 b,.int .u64 c]):=by kernel_rfl
theorem fvL (a:Option Addr) (n c:Nat):fieldV Tryz.prog 51 (.agg #[.slice a n c]) 0=some (.slice a n c):=by kernel_rfl
end Go.Am
namespace Go.Am
open Go.Proofs
set_option maxRecDepth 100000
set_option linter.all false
attribute [local congr] zAf zAq zAr zAs zAj zAg
def Old (n:Nat) (h h':Heap):Prop:=h.blks.length<=h'.blks.length/\∀b,b<n->h'.blks[b]?=h.blks[b]?
theorem Old.refl (n:Nat) (h:Heap):Old n h h:=⟨Nat.le_refl _,fun _ _=>rfl⟩
theorem Old.trans {n:Nat} {a b c:Heap} (h:Old n a b) (k:Old n b c):Old n a c:=⟨Nat.le_trans h.1 k.1,fun i hi=>(k.2 i hi).trans (h.2 i hi)⟩
theorem Same.to {n:Nat} {h h':Heap} (s:Same h h') (hn:n<=h.blks.length):Old n h h':=⟨s.1,fun b hb=>s.2 b (Nat.lt_of_lt_of_le hb hn)⟩
theorem HMod.to {n p:Nat} {h h':Heap} (m:HMod (Just p) h h') (hp:n<=p) (hn:n<=h.blks.length):Old n h h':=⟨m.len,fun b hb=>m.old b (Nat.lt_of_lt_of_le hb hn) (fun e=>by have:b=p:=e;omega)⟩
theorem Sl.old {P:Program} {k:Nat} {h h':Heap} {es n:Nat} {v:Value} {cs:List Value} (r:Sl P h es v n cs) (o:Old k h h') (hv:Lo v k):Sl P h' es v n cs:=r.keep fun b _ hb=>o.2 b (hv b hb)
theorem Cells.old {k:Nat} {h h':Heap} {p:Nat} {ty:TypeId} {cs:List Value} (c:Cells h p ty cs) (o:Old k h h') (hp:p<k):Cells h' p ty cs:=(o.2 p hp).trans c
def encE (e:E3):List UInt8:=putL e.f.toNat++(putL e.n++putL e.t)
def encL (es:List E3):List UInt8:=(es.map encE).flatten
def logB (es:List E3):List UInt8:=putL es.length++encL es
theorem encL_snoc (es:List E3) (e:E3):encL (es++[e])=encL es++encE e:=by simp[encL]
theorem putL_le (n:Nat) (h:n<2^64):(putL n).length<=10:=by
 rw[putL_len];exact sizeN_le n 10 (Nat.lt_of_lt_of_le h (by decide)) (by omega)
theorem encE_le (e:E3) (h0:e.f<2^63) (h1:e.n<2^64) (h2:e.t<2^64):(encE e).length<=30:=by
 have a:=putL_le e.f.toNat (by omega)
 have b:=putL_le e.n h1
 have c:=putL_le e.t h2
 simp only[encE,List.length_append];omega
theorem encL_le:∀(es:List E3),(∀e∈es,e.f<2^63)->wide es->(encL es).length<=30*es.length
 | [],_,_=>Nat.le_refl _
 | e::es,h,w=>by
  have a:=encL_le es (fun x hx=>h x (by simp[hx])) (fun x hx=>w x (by simp[hx]))
  have b:=encE_le e (h e (by simp)) (w e (by simp)).1 (w e (by simp)).2
  simp only[encL,List.map_cons,List.flatten_cons,List.length_append,List.length_cons] at a ⊢
  omega
theorem put_loop18 {h0 h1:Heap} {v:Value} {es:List E3} {p:Nat} (s:SE h1 v es) (hv:Lo v p) (hw:wide es) (hf:∀e∈es,0<=e.f/\e.f<2^63) (hl:es.length<2^32) (hn:h0.blks.length<=p) (hp1:p<=h1.blks.length) :
  ∀(m i:Nat),es.length-i=m->i<=es.length->∀(x:Nat->Value) (h:Heap),In h0.blks.length No (nm h0) h->Old p h1 h->Wr p h p (putL es.length++encL (es.take i))->
  x 3=.pointer (some ⟨p,0,none⟩)->x 17=v->x 18=.int .i64 es.length->x 19=.int .i64 i->
  ∃a c h',lK c33_1 39 x h (zAu 0 (sK c33_2 (zBb Tryz.f33 Tryz.prog h0)))=some (.slice a (logB es).length c,done h0 h')/\In h0.blks.length No (nm h0) h'/\AB h0.blks.length h' (.slice a (logB es).length c) (logB es):=by
 intro m
 have ll:∀i,(encL (es.take i)).length<=30*es.length:=fun i=>by
  have:=encL_le (es.take i) (fun e he=>(hf e (List.mem_of_mem_take he)).2) (fun e he=>hw e (List.mem_of_mem_take he))
  have h2:(es.take i).length<=es.length:=by rw[List.length_take];omega
  omega
 have l0:=putL_le es.length (by omega)
 induction m with
 | zero=>
  intro i e1 e2 x h hin ho w Ad As Au Av
  obtain rfl:i=es.length:=by omega
  have:=ll es.length
  rw[List.take_length] at w this
  obtain ⟨a,c,h2,q1,q2,q3⟩:=spec_WDone w (by rw[List.length_append];omega)
  rw[lK_eq]
  refine ⟨a,c,h2,?_,hin.trans (q2.inn (Nat.le_trans hin.le hin.len)),Acc.up q3 (Nat.le_trans hin.le hin.len)⟩
  simp -implicitDefEqProofs (disch:=omega) only[↓c33_1_eq,↓c33_2_eq,Ad,As,Au,Av,dcF,q1,↓ret33,↓zAc,↓zAb,↓Option.bind_some,↓zAa,sxB,Nat.reduceBEq]
  rfl
 | succ m ih=>
  intro i hm hi x h hin ho w Ad As Au Av
  have hil:i<es.length:=by omega
  have hph:p<=h.blks.length:=Nat.le_trans hp1 ho.1
  obtain ⟨b,of,hb,hbl,e1,e2⟩:=s.at' (t:=49) (el:=99) (by kernel_rfl) (by kernel_rfl) hil
  obtain ⟨f1,_⟩:=e2 h (ho.2 b (hv b hb))
  obtain ⟨hA,hB,a1,a2,a3,a4,a5,a6⟩:=var_ent (n0:=p) hph es[i]
  have wd:=hw es[i] (List.getElem_mem hil)
  have fd:=hf es[i] (List.getElem_mem hil)
  have wlt:=w.lt
  have bl:=ll i
  have lt1:∀ {h':Heap},Cells h' h.blks.length 99 (entC es[i])->h'.load1 h.blks.length 0=some (.int .i64 es[i].f)/\h'.load1 h.blks.length (0+1)=some (.int .u64 es[i].n)/\h'.load1 h.blks.length (0+2)=some (.int .u64 es[i].t):=fun c=>⟨c.load 0,c.load 1,c.load 2⟩
  obtain ⟨l1,_,_⟩:=lt1 a3
  have wB:=w.same a5
  have p1:=putL_le es[i].f.toNat (by omega)
  have p2:=putL_le es[i].n wd.1
  have p3:=putL_le es[i].t wd.2
  obtain ⟨hC,q1,q2,q3⟩:=spec_WNum wB (by have:=a5.1;omega) es[i].f.toNat (by omega) (by rw[List.length_append];omega)
  rw[Int.toNat_of_nonneg fd.1] at q1
  have hab:=a5.1
  have a3C:Cells hC h.blks.length 99 (entC es[i]):=a3.mod q2 (fun e=>by have:h.blks.length=p:=e;omega)
  obtain ⟨_,l2,_⟩:=lt1 a3C
  have lC:=q2.len
  obtain ⟨hD,r1,r2,r3⟩:=spec_WNum (q3.up (n1:=p) (by omega)) (by omega) es[i].n wd.1 (by simp only[List.length_append];omega)
  have a3D:Cells hD h.blks.length 99 (entC es[i]):=a3C.mod r2 (fun e=>by have:h.blks.length=p:=e;omega)
  obtain ⟨_,_,l3⟩:=lt1 a3D
  have lD:=r2.len
  obtain ⟨hE,s1,s2,s3⟩:=spec_WSet (r3.up (n1:=p) (by omega)) (by omega) es[i].t wd.2 (by simp only[List.length_append];omega)
  have lE:=s2.len
  have cv:=fun h=>cvI64 es[i].f h fd.1 fd.2
  have wi:IntKind.i64.wrap ((i:Int)+1)=((i+1:Nat):Int):=by rw[wrap_i64]<;>omega
  have ht:es.take i++[es[i]]=es.take (i+1):=by rw[List.take_succ,List.getElem?_eq_getElem hil];rfl
  have hsn:=encL_snoc (es.take i) es[i]
  rw[ht] at hsn
  have w2:Wr p hE p (putL es.length++encL (es.take (i+1))):=by
   have:=s3.up (n1:=p) (by omega)
   rw[hsn]
   simpa [encE,List.append_assoc] using this
  have hb0:∀b,b<h0.blks.length->Just p b->No b:=fun b hb e=>by have:b=p:=e;omega
  have hin2:=(((hin.trans (In.dn (a4 No) hn)).trans (q2.inn (by omega) hb0)).trans (r2.inn (by omega) hb0)).trans (s2.inn (by omega) hb0)
  have ho2:=(((ho.trans (a5.to hph)).trans (q2.to (Nat.le_refl _) (by omega))).trans (r2.to (Nat.le_refl _) (by omega))).trans (s2.to (Nat.le_refl _) (by omega))
  rw[lK_eq]
  simp -implicitDefEqProofs (disch:=omega) only[↓c33_1_eq,↓c33_2_eq,Ad,As,Au,Av,dcT,e1,ldE,f1,Option.map_some,entA,a1,a2,faE0,faE1,faE2,ldI,ldU,ldS,l1,cv,q1,l2,r1,l3,s1,wi,↓zAc,↓zAb,↓Option.bind_some,↓zAa,sxB,Nat.reduceBEq]
  refine ih (i+1) (by omega) (by omega) _ hE hin2 ho2 w2 ?_ ?_ ?_ ?_
  ·exact Ad
  ·exact As
  ·exact Au
  ·rfl
def putE (es:List E3):List UInt8:=if goodE es then logB es else []
theorem good_f {es:List E3} (h:goodE es=true):∀e∈es,0<=e.f/\e.f<16/\0<e.n/\e.t<65536:=fun e he=>by
 have:=((zBi es).1 h).1 e he
 unfold mayE at this
 simpa [Bool.and_eq_true] using this
theorem spec_Put18 {h:Heap} {v:Value} {es:List E3} (s:SE h v es) (hw:wide es) (hl:es.length<2^32):∃a c h',evC Tryz.prog 33 #[.agg #[v]] h=some (.slice a (putE es).length c,h')/\HExt h h'/\AB h.blks.length h' (.slice a (putE es).length c) (putE es):=by
 rw[call33]
 have c1:=Cells.new (nm h) 51 [v]
 have s1:SE ((nm h).new (.cells [v]) 51) v es:=s.nm.keepNew _ _
 have k1:In h.blks.length No (nm h) ((nm h).new (.cells [v]) 51):=In.new (h:=nm h) (Nat.le_refl h.blks.length) _ _
 have e0:(nm h).blks.length=h.blks.length:=rfl
 have e1:((nm h).new (.cells [v]) 51).blks.length=h.blks.length+1:=by simp[Heap.new]
 generalize hh:(nm h).new (.cells [v]) 51=h1 at c1 s1 k1 e1
 rw[e0] at c1
 have lA:(h1.loadN h.blks.length 0 1).map (fun cs=>Value.agg cs.toArray)=some (.agg #[v]):=by rw[c1.loadN (n:=1) rfl];rfl
 obtain ⟨h2,q2,Ac⟩:=spec_Good s1 hw (by omega)
 have hx2:=Ac.len
 unfold putE
 cases hg:goodE es with
 | false=>
  rw[hg] at q2
  refine ⟨none,0,_,?_,zAl (k1.trans (Ac.inn (by omega))),Acc.done .nil⟩
  simp -implicitDefEqProofs (disch:=omega) only[↓c33_0_eq,bxL,e0,hh,ldL,lA,q2,↓ret33,↓zAc,↓zAb,↓Option.bind_some,↓zAa,sxB,Nat.reduceBEq]
  rfl
 | true=>
  rw[hg] at q2
  have hf:=good_f hg
  obtain ⟨h3,q3,Ad,w3,n3⟩:=spec_NewWriter h2
  have s3:=(s1.ext Ac).ext Ad
  have c3:=(c1.ext Ac).ext Ad
  have l3:h3.load1 h.blks.length 0=some v:=c3.load 0
  have hx3:=Ad.len
  obtain ⟨a,c,rfl⟩:=s.shape
  have cv:=fun h=>cvI64 (es.length:Int) h (by omega) (by omega)
  obtain ⟨h4,q4,Ae,w4⟩:=spec_WNum w3 (by omega) es.length (by omega) (by simp)
  have hx4:=Ae.len
  have lo:Lo (.slice a es.length c) h2.blks.length:=(s1.ext Ac).lo
  have o4:Old h2.blks.length h3 h4:=Ae.to (Nat.le_refl _) (by omega)
  have s4:SE h4 (.slice a es.length c) es:=Sl.old s3 o4 lo
  have l4:h4.load1 h.blks.length 0=some (.slice a es.length c):=(c3.old o4 (by omega)).load 0
  have k4:=((k1.trans (Ac.inn (by omega))).trans (Ad.inn (by omega))).trans (Ae.inn (by omega) (fun b hb e=>by have:b=h2.blks.length:=e;omega))
  have lp:=put_loop18 (h0:=h) s4 lo hw (fun e he=>⟨(hf e he).1,by have:=(hf e he).2.1;omega⟩) hl (by omega) (by omega) es.length 0 (by omega) (by omega)
  have fin':∀ {r:Option (Value × Heap)},(∃a c h',r=some (.slice a (logB es).length c,done h h')/\In h.blks.length No (nm h) h'/\AB h.blks.length h' (.slice a (logB es).length c) (logB es))->∃a c h',r=some (.slice a (logB es).length c,h')/\HExt h h'/\AB h.blks.length h' (.slice a (logB es).length c) (logB es):=fun ⟨a,c,h',g1,g2,g3⟩=>⟨a,c,_,g1,zAl g2,Acc.done g3⟩
  simp only[if_true]
  simp -implicitDefEqProofs (disch:=omega) only[↓c33_0_eq,bxL,e0,hh,ldL,lA,q2,q3,faL,ldEs,l3,lnEs,cv,q4,l4,↓zAc,↓zAb,↓Option.bind_some,↓zAa,sxB,Nat.reduceBEq]
  refine fin' (lp _ _ k4 (Old.refl _ _) ?_ ?_ ?_ ?_ ?_)
  ·rw[List.take_zero,show encL []=[] from rfl,List.append_nil,<-List.nil_append (putL es.length)];exact w4.up (by omega)
  all_goals rfl
end Go.Am
namespace Go.Am
theorem chk_ne {β:Type} {r m:List Nat} (h:∀b∈r,∀x∈m,b≠x) (x:Option β):chk r m x=x:=by
 have:(r.all fun b=>!m.contains b)=true:=by
  rw[List.all_eq_true]
  intro b hb
  rw[Bool.not_eq_true',<-Bool.not_eq_true,List.contains_iff_mem]
  exact fun hm=>h b hb b hm rfl
 unfold chk;rw[this]
theorem HMod.mods_nm {S:Nat->Prop} {h h':Heap} (e:HMod S (Am.nm h) h'):∀m∈h'.mods,S m:=by
 obtain ⟨d,e1,e2⟩:=e.mods
 intro m hm
 rw[e1] at hm
 rcases List.mem_append.1 hm with hm | hm
 ·exact (e2 m hm).1
 ·cases hm
theorem HMod.amx {S:Nat->Prop} {h h':Heap} (e:HMod S (Am.nm h) h'):HMod S h (Am.am h' h):=by
 obtain ⟨d,e1,e2⟩:=e.mods
 refine ⟨e.len,e.old,d,?_,e2⟩
 show h'.mods++h.mods=d++h.mods
 rw[e1];simp
theorem rb_ptr (b o:Nat):rb (.pointer (some ⟨b,o,Option.none⟩))=[b]:=rfl
end Go.Am
namespace Go.Am
theorem same_np (h:Heap) (b c:Body) (ty:TypeId):Same h ((h.new b ty).put h.blks.length c):=by
 refine ⟨by rw[Heap.put_len];simp[Heap.new],fun i hi=>?_⟩
 rw[Heap.put_other (by omega),Heap.new_old hi]
def rdE (most:Nat) (r:Option (List UInt8)):E3 × Option (List UInt8):=
 (⟨(numP r most).1,(numP (numP r most).2 (2^64-1)).1,(numP (numP (numP r most).2 (2^64-1)).2 65535).1⟩,(numP (numP (numP r most).2 (2^64-1)).2 65535).2)
def rdN:Nat->Option (List UInt8)->List E3 × Option (List UInt8)
 | 0,r=>([],r)
 | n+1,r=>((rdE 16 r).1::(rdN n (rdE 16 r).2).1,(rdN n (rdE 16 r).2).2)
def logOf (x:List E3 × Option (List UInt8)):Option (List E3):=if endP x.2=true/\goodE x.1=true then some x.1 else none
def getP (bs:List UInt8):Option (List E3):=logOf (rdN (numP (some bs) bs.length).1 (numP (some bs) bs.length).2)
theorem rdE_enc (e:E3) (h0:0<=e.f) (h1:e.f<16) (h2:e.n<2^64) (h3:e.t<65536) (rest:List UInt8):rdE 16 (some (encE e++rest))=(e,some rest):=by
 unfold rdE encE
 simp only[List.append_assoc]
 rw[numP_putL e.f.toNat (by omega) _ 16 (by omega)]
 simp only[]
 rw[numP_putL e.n h2 _ (2^64-1) (by omega)]
 simp only[]
 rw[numP_putL e.t (by omega) _ 65535 (by omega)]
 simp only[Int.toNat_of_nonneg h0]
theorem rdN_enc:∀(es:List E3) (rest:List UInt8),(∀e∈es,0<=e.f/\e.f<16/\0<e.n/\e.t<65536)->wide es->rdN es.length (some (encL es++rest))=(es,some rest)
 | [],rest,_,_=>rfl
 | e::es,rest,h,w=>by
  have h0:=h e (by simp)
  have e1:encL (e::es)++rest=encE e++(encL es++rest):=by simp[encL]
  simp only[List.length_cons,rdN]
  rw[e1,rdE_enc e h0.1 h0.2.1 (w e (by simp)).1 h0.2.2.2,rdN_enc es rest (fun x hx=>h x (by simp[hx])) (fun x hx=>w x (by simp[hx]))]
theorem encL_ge:∀es:List E3,es.length<=(encL es).length
 | []=>Nat.le_refl _
 | e::es=>by
  have:=encL_ge es
  have h1:1<=(encE e).length:=by
   have h1:=putL_pos e.n
   simp only[encE,List.length_append];omega
  simp only[encL,List.map_cons,List.flatten_cons,List.length_append,List.length_cons] at this ⊢
  omega
theorem get_put {es:List E3} (hg:goodE es=true) (w:wide es) (hl:es.length<2^64):getP (logB es)=some es:=by
 unfold getP logB
 have h1:=encL_ge es
 have e1:=numP_putL es.length hl (encL es) (putL es.length++encL es).length (by rw[List.length_append];omega)
 rw[e1]
 simp only[]
 have e2:=rdN_enc es [] (good_f hg) w
 rw[List.append_nil] at e2
 rw[e2]
 unfold logOf
 rw[if_pos ⟨rfl,hg⟩]
theorem rdN_len:∀(n:Nat) (r:Option (List UInt8)),(rdN n r).1.length=n
 | 0,_=>rfl
 | n+1,r=>by simp only[rdN,List.length_cons,rdN_len n]
theorem rdE_wide (m:Nat) (r:Option (List UInt8)):(rdE m r).1.n<2^64/\(rdE m r).1.t<2^64:=⟨(numP_le _ _).2.1,(numP_le _ _).2.1⟩
theorem rdN_wide:∀(n:Nat) (r:Option (List UInt8)),wide (rdN n r).1
 | 0,_=>fun e he=>(List.not_mem_nil he).elim
 | n+1,r=>fun e he=>by
  simp only[rdN] at he
  rcases List.mem_cons.1 he with rfl | he
  ·exact rdE_wide 16 r
  ·exact rdN_wide n _ e he
theorem getP_len (bs:List UInt8):((getP bs).getD []).length<=bs.length:=by
 unfold getP logOf
 have n1:=(numP_le (some bs) bs.length).1
 split
 ·rw[Option.getD_some,rdN_len];exact n1
 ·exact Nat.zero_le _
end Go.Am
namespace Go.Am
open Go.Proofs
set_option maxRecDepth 100000
set_option linter.all false
attribute [local congr] zAf zAq zAr zAs zAj zAg
theorem stEs (p:Nat) (a:Option Addr) (n c:Nat) (h:Heap):zBc Tryz.prog 49 (.pointer (some ⟨p,0,none⟩)) (.slice a n c) h=h.storeN p 0 [.slice a n c]:=by kernel_rfl
theorem bdL0:buildV Tryz.prog 51 #[]=some (.agg #[.slice none 0 0]):=by kernel_rfl
theorem lnB8 (a:Option Addr) (n c:Nat) (h:Heap):lenV Tryz.prog 35 (.slice a n c) h=some (.int .i64 n):=by kernel_rfl
theorem setP_num (r:Option (List UInt8)):setP r (allN 16)=numP r 65535:=by
 cases r with
 | none=>rfl
 | some bs=>
  have h:=getL_lt bs
  have o:=out16 (getL bs).1 h
  simp only[setP,numP]
  have:(outB (getL bs).1 (allN 16)≠0) ↔ 65535<(getL bs).1:=by
   have:=decide_eq_decide.1 o
   constructor
   ·intro h1;refine Classical.byContradiction fun h2=>h1 (this.2 (by omega))
   ·intro h1 h2;have:=this.1 h2;omega
  simp only[this]
theorem RdrL.old {L k:Nat} {h h':Heap} {p:Nat} {r:Option (List UInt8)} (w:RdrL L h p r) (o:Old k h h') (hp:p<k):RdrL L h' p r:=
 let ⟨a,c,x,y,z⟩:=w
 ⟨a,c,x.old o hp,y.old o fun b hb=>by have:=(z b hb).2;omega,z⟩
theorem amSame (h' h:Heap):Same h' (am h' h):=⟨Nat.le_refl _,fun _ _=>rfl⟩
theorem get_loop18 {h0 h1:Heap} {p0 p p2:Nat} (hn:h0.blks.length<=p0) (hp:p0<p) (hp2:p<p2) (hp3:p2<h1.blks.length) :
  ∀(n:Nat) (r:Option (List UInt8)) (acc:List E3),(rbs r).length<2^30->acc.length+n<2^32->wide acc->∀(x:Nat->Value) (h:Heap) (a:Option Addr) (c:Nat),In h0.blks.length No (nm h0) h->h1.blks.length<=h.blks.length->Cells h p0 51 [.slice none 0 0]->Rdr h p r->Cells h p2 51 [.slice a acc.length c]->AE h1.blks.length h (.slice a acc.length c) acc->
  x 2=.pointer (some ⟨p0,0,none⟩)->x 4=.pointer (some ⟨p,0,none⟩)->x 5=.pointer (some ⟨p2,0,none⟩)->x 6=.int .u64 n->
  ∃a' c' h',lK c29_1 42 x h (zAu 0 (sK c29_2 (zBb Tryz.f29 Tryz.prog h0)))=some (.tuple #[.agg #[.slice a' ((logOf (acc++(rdN n r).1,(rdN n r).2)).getD []).length c'],.bool (logOf (acc++(rdN n r).1,(rdN n r).2)).isSome],done h0 h')/\In h0.blks.length No (nm h0) h'/\AE h1.blks.length h' (.slice a' ((logOf (acc++(rdN n r).1,(rdN n r).2)).getD []).length c') ((logOf (acc++(rdN n r).1,(rdN n r).2)).getD []):=by
 intro n
 induction n with
 | zero=>
  intro r acc hr hl hw x h a c hin hlen c0 w c2 ha Ac Ae Af Ag
  have e1:=spec_REnd w
  simp only[rdN,List.append_nil]
  rw[lK_eq]
  have hz:((0:Nat):Int)=0:=rfl
  have bad:∀ {h2:Heap},Old h1.blks.length h h2->In h0.blks.length No (nm h0) h2->∃h3,zBc Tryz.prog 51 (.pointer (some ⟨p0,0,none⟩)) (.agg #[.slice none 0 0]) h2=some h3/\(h3.loadN p0 0 1).map (fun cs=>Value.agg cs.toArray)=some (.agg #[.slice none 0 0])/\In h0.blks.length No (nm h0) h3:=fun {h2} o k=>by
   have d:=c0.old o (by omega)
   have d2:=d.put [.slice none 0 0]
   refine ⟨h2.put p0 (.cells [.slice none 0 0]),?_,?_,k.trans (In.put (Nat.le_trans k.le k.len) (.inl hn) _)⟩
   ·rw[stL,zAp d (by simp)];rfl
   ·rw[d2.loadN (n:=1) rfl];rfl
  cases hE:endP r with
  | false=>
   rw[hE] at e1
   obtain ⟨h3,g1,g2,g3⟩:=bad (Old.refl _ h) hin
   have hlo:logOf (acc,r)=none:=by unfold logOf;rw[if_neg (by simp[hE])]
   rw[hlo]
   refine ⟨none,0,h3,?_,g3,AE.nil _ _⟩
   simp -implicitDefEqProofs (disch:=omega) only[↓c29_1_eq,↓c29_2_eq,Ac,Ae,Af,Ag,hz,dcF,e1,bdL0,g1,ldL,g2,Option.bind_some,rvals,↓ret29,↓zAc,↓zAb,↓Option.bind_some,↓zAa,sxB,Nat.reduceBEq]
   rfl
  | true=>
   rw[hE] at e1
   obtain ⟨h2,q2,y2⟩:=spec_Good ha.se hw (by omega)
   have lA:(h.loadN p2 0 1).map (fun cs=>Value.agg cs.toArray)=some (.agg #[.slice a acc.length c]):=by rw[c2.loadN (n:=1) rfl];rfl
   have k2:=hin.trans (y2.inn (Nat.le_trans hin.le hin.len))
   have o2:Old h1.blks.length h h2:=y2.same.to hlen
   cases hg:goodE acc with
   | false=>
    rw[hg] at q2
    obtain ⟨h3,g1,g2,g3⟩:=bad o2 k2
    have hlo:logOf (acc,r)=none:=by unfold logOf;rw[if_neg (by simp[hg])]
    rw[hlo]
    refine ⟨none,0,h3,?_,g3,AE.nil _ _⟩
    simp -implicitDefEqProofs (disch:=omega) only[↓c29_1_eq,↓c29_2_eq,Ac,Ae,Af,Ag,hz,dcF,e1,ldL,lA,q2,bdL0,g1,g2,Option.bind_some,rvals,↓ret29,↓zAc,↓zAb,↓Option.bind_some,↓zAa,sxB,Nat.reduceBEq]
    rfl
   | true=>
    rw[hg] at q2
    have hlo:logOf (acc,r)=some acc:=by unfold logOf;rw[if_pos ⟨hE,hg⟩]
    rw[hlo]
    have d:=c0.old o2 (by omega)
    have d2:=d.put [.slice a acc.length c]
    have lB:(h2.loadN p2 0 1).map (fun cs=>Value.agg cs.toArray)=some (.agg #[.slice a acc.length c]):=by rw[(c2.old o2 hp3).loadN (n:=1) rfl];rfl
    have lD:(Heap.loadN (h2.put p0 (.cells [.slice a acc.length c])) p0 0 1).map (fun cs=>Value.agg cs.toArray)=some (.agg #[.slice a acc.length c]):=by rw[d2.loadN (n:=1) rfl];rfl
    refine ⟨a,c,h2.put p0 (.cells [.slice a acc.length c]),?_,k2.trans (In.put (Nat.le_trans k2.le k2.len) (.inl hn) _),(ha.same y2.same).keepPut (fun e=>by have:=ha.ge e;omega) _⟩
    simp -implicitDefEqProofs (disch:=omega) only[↓c29_1_eq,↓c29_2_eq,Ac,Ae,Af,Ag,hz,dcF,e1,ldL,lA,q2,lB,stL,zAp d (o:=0) (vs:=[.slice a acc.length c]) (by simp),List.take_zero,List.nil_append,List.append_nil,List.length_cons,List.length_nil,List.drop_succ_cons,List.drop_zero,Nat.zero_add,lD,Option.bind_some,rvals,Option.getD_some,Option.isSome_some,↓ret29,↓zAc,↓zAb,↓Option.bind_some,↓zAa,sxB,Nat.reduceBEq]
 | succ n ih=>
  intro r acc hr hl hw x h a c hin hlen c0 w c2 ha Ac Ae Af Ag
  have l2:h.load1 p2 0=some (.slice a acc.length c):=c2.load 0
  have n1:=numP_le r 16
  obtain ⟨hA,q1,y1,w1⟩:=spec_RNum w.nm 16 (by omega) (by omega)
  have m1:=y1.mods_nm
  have z1:=y1.amx
  have w1':=w1.same (amSame hA h)
  have n2:=numP_le (numP r 16).2 (2^64-1)
  obtain ⟨hB,q2,y2,w2⟩:=spec_RNum (h:=nm (am hA h)) w1'.nm (2^64-1) (by omega) (by omega)
  have m2:=y2.mods_nm
  have z2:=y2.amx
  have w2':=w2.same (amSame hB (am hA h))
  have q3:=spec_All 16 (by omega) (nm (am hB (am hA h)))
  have n3:=numP_le (numP (numP r 16).2 (2^64-1)).2 65535
  obtain ⟨hC,q4,y4,w4⟩:=spec_RSet (h:=nm (am hB (am hA h))) w2'.nm (allN 16) (by unfold allN;omega) (by omega)
  rw[setP_num] at q4 w4
  have m4:=y4.mods_nm
  have z4:=y4.amx
  have w4':=w4.same (amSame hC (am hB (am hA h)))
  have zz:HMod (Just p) h (am hC (am hB (am hA h))):=by
   refine ⟨Nat.le_trans (Nat.le_trans z1.len z2.len) z4.len,fun b hb hs=>((z4.old b (Nat.lt_of_lt_of_le hb (Nat.le_trans z1.len z2.len)) hs).trans (z2.old b (Nat.lt_of_lt_of_le hb z1.len) hs)).trans (z1.old b hb hs),?_⟩
   obtain ⟨d1,g1,k1⟩:=z1.mods
   obtain ⟨d2,g2,k2⟩:=z2.mods
   obtain ⟨d3,g3,k3⟩:=z4.mods
   have hph:=w.lt
   refine ⟨d3++(d2++d1),by rw[g3,g2,g1];simp,fun m hm=>?_⟩
   have:Just p m:=by
    rcases List.mem_append.1 hm with hm | hm
    ·exact (k3 m hm).1
    ·rcases List.mem_append.1 hm with hm | hm
     ·exact (k2 m hm).1
     ·exact (k1 m hm).1
   exact ⟨this,by have:m=p:=this;omega⟩
  have cvv:=fun h=>cvU64 ((numP r 16).1:Int) h (by omega) (by omega)
  have nb:∀b,Just p b->b<h0.blks.length->False:=fun b e hb=>by have:b=p:=e;omega
  have hE:(rdE 16 r).1=⟨(numP r 16).1,(numP (numP r 16).2 (2^64-1)).1,(numP (numP (numP r 16).2 (2^64-1)).2 65535).1⟩:=rfl
  have kX:=hin.trans (zz.inn (Nat.le_trans hin.le hin.len) fun b hb e=>(nb b e hb).elim)
  have haX:AE h1.blks.length (am hC (am hB (am hA h))) (.slice a acc.length c) acc:=ha.mod zz fun b hb e=>by have:=ha.ge hb;have:b=p:=e;omega
  have cX2:=c2.mod zz (fun e=>by have:p2=p:=e;omega)
  have cX0:=c0.mod zz (fun e=>by have:p0=p:=e;omega)
  have lX:=zz.len
  generalize hX:am hC (am hB (am hA h))=hx at kX haX cX2 cX0 lX w4'
  obtain ⟨a',c',hD,g1,g2,g3,g4⟩:=app_ent etE (n0:=h1.blks.length) (by omega) haX (rdE 16 r).1 (by omega)
  have bs:=bsE (rdE 16 r).1 hx
  rw[hE] at g1 bs
  have oD:Old h1.blks.length hx hD:=⟨g3.len,fun q hq=>g4 q (by omega) (Acc.off haX (Nat.le_refl _) hq)⟩
  have dD2:=cX2.old oD hp3
  have dD0:=cX0.old oD (by omega)
  have wD:=w4'.old oD (by omega)
  have cF:=dD2.put [.slice a' (acc++[(rdE 16 r).1]).length c']
  have cF0:Cells (hD.put p2 (.cells [.slice a' (acc++[(rdE 16 r).1]).length c'])) p0 51 [.slice none 0 0]:=dD0.keepPut (by omega) _
  have wF:=RdrL.keepPut wD hp2 (.cells [.slice a' (acc++[(rdE 16 r).1]).length c'])
  have aF:AE h1.blks.length (hD.put p2 (.cells [.slice a' (acc++[(rdE 16 r).1]).length c'])) (.slice a' (acc++[(rdE 16 r).1]).length c') (acc++[(rdE 16 r).1]):=Acc.keepPut g2 (fun e=>by have:=Acc.ge g2 e;omega) _
  have kD:=kX.trans (Keeps.inn (S:=No) (g3.dn (by omega)))
  have kF:=kD.trans (In.put (S:=No) (Nat.le_trans kD.le kD.len) (p:=p2) (.inl (by omega)) (.cells [.slice a' (acc++[(rdE 16 r).1]).length c']))
  have hst:=zAp dD2 (o:=0) (vs:=[.slice a' (acc++[(rdE 16 r).1]).length c']) (by simp)
  simp only[List.take_zero,List.nil_append,List.append_nil,List.length_cons,List.length_nil,List.drop_succ_cons,List.drop_zero,Nat.zero_add] at hst
  rw[hE] at hst
  have hlF:(hD.put p2 (.cells [.slice a' (acc++[(rdE 16 r).1]).length c'])).blks.length=hD.blks.length:=Heap.put_len _ _ _
  have lD:=g3.len
  have dn:decide (((n+1:Nat):Int)>0)=true:=decide_eq_true (by omega)
  have wn:IntKind.u64.wrap (((n+1:Nat):Int)-1)=((n:Nat):Int):=by rw[wrap_u64]<;>omega
  have hrw:acc++(rdN (n+1) r).1=(acc++[(rdE 16 r).1])++(rdN n (rdE 16 r).2).1:=by simp[rdN]
  have hr2:(rdN (n+1) r).2=(rdN n (rdE 16 r).2).2:=rfl
  rw[show ((16:Nat):Int)=16 from rfl] at q1 q3
  rw[show ((2^64-1:Nat):Int)=18446744073709551615 from rfl] at q2
  have mall:∀b∈[p2],∀x∈hC.mods++(hB.mods++hA.mods),b≠x:=fun b hb x hx e=>by
   rw[List.mem_singleton] at hb
   have:Just p x:=by
    rcases List.mem_append.1 hx with hx | hx
    ·exact m4 x hx
    ·rcases List.mem_append.1 hx with hx | hx
     ·exact m2 x hx
     ·exact m1 x hx
   have:x=p:=this
   omega
  rw[lK_eq,hrw,hr2]
  simp -implicitDefEqProofs (disch:=omega) only[↓c29_1_eq,↓c29_2_eq,Ac,Ae,Af,Ag,dn,faL,ldEs,l2,q1,cvv,q2,q3,am_nm,nm_mods,List.nil_append,q4,hX,bdE3,show ([.int .i64 ((numP r 16).1:Int),.int .u64 ((numP (numP r 16).2 (2^64-1)).1:Int),.int .u64 ((numP (numP (numP r 16).2 (2^64-1)).2 65535).1:Int)]:List Value)=entC ⟨(numP r 16).1,(numP (numP r 16).2 (2^64-1)).1,(numP (numP (numP r 16).2 (2^64-1)).2 65535).1⟩ from rfl,entA,bs,g1,stEs,hst,rb_ptr,List.append_nil,wn,↓zAc,↓zAb,↓Option.bind_some,↓zAa,sxB,Nat.reduceBEq]
  rw[chk_ne mall]
  refine ih (rdE 16 r).2 _ ?_ ?_ ?_ _ _ a' c' kF (by rw[Heap.put_len];omega) cF0 wF cF aF ?_ ?_ ?_ ?_
  ·unfold rdE;simp only;omega
  ·rw[List.length_append,List.length_singleton];omega
  ·intro e he
   rcases List.mem_append.1 he with he | he
   ·exact hw e he
   ·rw[List.mem_singleton] at he;subst he;exact rdE_wide 16 r
  ·exact Ac
  ·exact Ae
  ·exact Af
  ·rfl
end Go.Am
namespace Go.Am
open Go.Proofs
set_option maxRecDepth 100000
set_option linter.all false
attribute [local congr] zAf zAq zAr zAs zAj zAg
theorem spec_Get18 {h:Heap} {v:Value} {bs:List UInt8} (s:SB h v bs) (hl:bs.length<2^30):∃a c h',evC Tryz.prog 29 #[v] h=some (.tuple #[.agg #[.slice a ((getP bs).getD []).length c],.bool (getP bs).isSome],h')/\HExt h h'/\AE h.blks.length h' (.slice a ((getP bs).getD []).length c) ((getP bs).getD []):=by
 rw[call29]
 have c1:=Cells.new (nm h) 51 [.slice none 0 0]
 have s1:SB ((nm h).new (.cells [.slice none 0 0]) 51) v bs:=s.nm.keepNew _ _
 have k1:In h.blks.length No (nm h) ((nm h).new (.cells [.slice none 0 0]) 51):=In.new (h:=nm h) (Nat.le_refl h.blks.length) _ _
 have e0:(nm h).blks.length=h.blks.length:=rfl
 have e1:((nm h).new (.cells [.slice none 0 0]) 51).blks.length=h.blks.length+1:=by simp[Heap.new]
 generalize hh:(nm h).new (.cells [.slice none 0 0]) 51=h1 at c1 s1 k1 e1
 rw[e0] at c1
 obtain ⟨h2,p,q2,Ac,w2,hp⟩:=spec_NewReader s1 (by omega)
 have hx2:=Ac.len
 have c2:=c1.ext Ac
 have k2:=k1.trans (Ac.inn (by omega))
 have c3:=c2.keepNew (.cells [.slice none 0 0]) 51
 have w3:=w2.same (Same.new h2 (.cells [.slice none 0 0]) 51)
 have k3:=k2.trans (In.new (S:=No) (by omega) (.cells [.slice none 0 0]) 51)
 have d3:=Cells.new h2 51 [.slice none 0 0]
 have hp2:=w2.lt
 have n3:(h2.new (.cells [.slice none 0 0]) 51).blks.length=h2.blks.length+1:=by simp[Heap.new]
 generalize hh3:h2.new (.cells [.slice none 0 0]) 51=h3 at c3 w3 k3 d3 n3
 obtain ⟨va,vc,rfl⟩:=s.shape
 have n1:=numP_le (some bs) bs.length
 have hrb:(rbs (some bs)).length=bs.length:=rfl
 rw[hrb] at n1
 obtain ⟨h4,q4,y4,w4⟩:=spec_RNum w3 bs.length (by omega) (by rw[hrb];omega)
 have cv:=fun h=>cvI64 (bs.length:Int) h (by omega) (by omega)
 have k4:=k3.trans (y4.inn (by omega) (fun b hb e=>by have:b=p:=e;omega))
 have hy4:=y4.len
 have c4:=c3.mod y4 (fun e=>by have:h.blks.length=p:=e;omega)
 have d4:=d3.mod y4 (fun e=>by have:h2.blks.length=p:=e;omega)
 have lp:=get_loop18 (h0:=h) (h1:=h4) (p0:=h.blks.length) (p:=p) (p2:=h2.blks.length) (by omega) (by omega) (by omega) (by omega) (numP (some bs) bs.length).1 (numP (some bs) bs.length).2 [] (by omega) (by simp;omega) (fun e he=>(List.not_mem_nil he).elim)
 have fin':∀ {r:Option (Value × Heap)},(∃a c h',r=some (.tuple #[.agg #[.slice a ((getP bs).getD []).length c],.bool (getP bs).isSome],done h h')/\In h.blks.length No (nm h) h'/\AE h4.blks.length h' (.slice a ((getP bs).getD []).length c) ((getP bs).getD []))->∃a c h',r=some (.tuple #[.agg #[.slice a ((getP bs).getD []).length c],.bool (getP bs).isSome],h')/\HExt h h'/\AE h.blks.length h' (.slice a ((getP bs).getD []).length c) ((getP bs).getD []):=fun ⟨a,c,h',g1,g2,g3⟩=>⟨a,c,_,g1,zAl g2,(Acc.up g3 (by omega)).done⟩
 simp -implicitDefEqProofs (disch:=omega) only[↓c29_0_eq,alL,e0,hh,q2,hh3,lnB8,cv,q4,↓zAc,↓zAb,↓Option.bind_some,↓zAa,sxB,Nat.reduceBEq]
 refine fin' (lp _ _ none 0 k4 (Nat.le_refl _) c4 w4 d4 (AE.nil _ _) ?_ ?_ ?_ ?_)
 all_goals rfl
end Go.Am
namespace Go.Am
open Go.Proofs
set_option maxRecDepth 100000
set_option linter.all false
attribute [local congr] zAf zAq zAr zAs zAj zAg
theorem etV:ElemT Tryz.prog 45 30 1 8 (.int .u64 0):=⟨by kernel_rfl,by kernel_rfl,by kernel_rfl,by kernel_rfl,by omega,rfl,rfl⟩
theorem zeros_list (z:Value) (n:Nat):((Array.range (n * #[z].size)).map fun i=>#[z][i % #[z].size]!).toList=List.replicate n z:=by
 have e:(fun i:Nat=>#[z][i % #[z].size]!)=fun _=>z:=by
  funext i
  have:i % #[z].size=0:=Nat.mod_one i
  rw[this];rfl
 rw[e]
 simp[List.map_const']
theorem mkV (m:Nat) (hm:m<=64) (h:Heap):zBd Tryz.prog 45 (.int .i64 m) (.int .i64 m) h=some (.slice (some ⟨h.blks.length,0,none⟩) m m,h.new (.cells ((List.replicate m 0).map u64V)) 30):=by
 unfold zBd
 simp only[etV.under,zBq,etV.size,etV.bytes,etV.zero]
 rw[if_pos ⟨Nat.le_refl _,by omega,by omega,by omega,etV.zs,etV.zg⟩]
 have:=zeros_list (.int .u64 0) m
 rw[show ((Array.range (m*1)).map fun x=>(Value.int .u64 0).cells[x % (Value.int .u64 0).cells.size]!).toList=List.replicate m (.int .u64 0) from this,List.map_replicate]
 rfl
theorem spec_vecNew (m:Nat) (hm:m<=64) (h:Heap):∃h',evC Tryz.prog 30 #[.int .i64 m] h=some (.slice (some ⟨h.blks.length,0,none⟩) m m,h')/\HExt h h'/\h'.blks.length=h.blks.length+1/\Cells h' h.blks.length 30 ((List.replicate m 0).map u64V):=by
 rw[call30]
 have e1:max (m:Int) 0=m:=by omega
 have e2:min (m:Int) 64=m:=by omega
 refine ⟨_,?_,zAl (In.new (h:=nm h) (Nat.le_refl _) (.cells ((List.replicate m 0).map u64V)) 30),?_,(Cells.new (nm h) _ _).done⟩
 ·simp -implicitDefEqProofs (disch:=omega) only[↓c30_0_eq,vmaxI,vminI,e1,e2,mkV m hm,↓ret30,↓zAc,↓zAb,↓Option.bind_some,↓zAa,sxB,Nat.reduceBEq]
  rfl
 ·simp[Heap.new,nm]
structure LEn (h:Heap) (p s:Nat) (n me:Int) (num:Nat) (es:List E3) (ns:List Nat):Prop where
 eng:∃la lc,Cells h p 90 [.int .i64 n,.int .i64 me,.slice la es.length lc,.int .u64 num,.slice (some ⟨s,0,none⟩) ns.length ns.length]/\AE 0 h (.slice la es.length lc) es
 seen:Cells h s 30 (ns.map u64V)
 len:ns.length<=64
theorem bdLn (n me:Int) (m:Nat) (s:Nat):buildV Tryz.prog 90 #[(0,.int .i64 n),(1,.int .i64 me),(4,.slice (some ⟨s,0,none⟩) m m)]=some (.agg #[.int .i64 n,.int .i64 me,.slice none 0 0,.int .u64 0,.slice (some ⟨s,0,none⟩) m m]):=by kernel_rfl
theorem bxLn (a b c d e:Value) (h:Heap):boxV Tryz.prog 90 (.agg #[a,b,c,d,e]) h=some (.pointer (some ⟨h.blks.length,0,none⟩),h.new (.cells [a,b,c,d,e]) 90):=by kernel_rfl
theorem spec_leanNew (n:Nat) (me:Int) (h1:1<=n) (h2:n<=16) (h3:0<=me) (h4:me<n) (h:Heap):∃h',evC Tryz.prog 6 #[.int .i64 n,.int .i64 me] h=some (.tuple #[.pointer (some ⟨h.blks.length+1,0,none⟩),.int .i64 0],h')/\HExt h h'/\LEn h' (h.blks.length+1) h.blks.length n me 0 [] (List.replicate n 0):=by
 rw[call6]
 obtain ⟨h2',q2,Ac,l2,c2⟩:=spec_vecNew n (by omega) (nm h)
 have e0:(nm h).blks.length=h.blks.length:=rfl
 rw[e0] at q2 l2 c2
 have k2:In h.blks.length No (nm h) h2':=Ac.inn (Nat.le_refl h.blks.length)
 have d3:=Cells.new h2' 90 [.int .i64 n,.int .i64 me,.slice none 0 0,.int .u64 0,.slice (some ⟨h.blks.length,0,none⟩) n n]
 have k3:=k2.trans (In.new (S:=No) (by omega) (.cells [.int .i64 n,.int .i64 me,.slice none 0 0,.int .u64 0,.slice (some ⟨h.blks.length,0,none⟩) n n]) 90)
 have c3:=c2.keepNew (.cells [.int .i64 n,.int .i64 me,.slice none 0 0,.int .u64 0,.slice (some ⟨h.blks.length,0,none⟩) n n]) 90
 rw[l2] at d3
 refine ⟨_,?_,zAl k3,⟨⟨none,0,?_,AE.nil _ _⟩,c3.done,by rw[List.length_replicate];omega⟩⟩
 ·simp -implicitDefEqProofs (disch:=omega) only[↓c6_0_eq,dcT,dcF,q2,bdLn,bxLn,l2,↓ret6,↓zAc,↓zAb,↓Option.bind_some,↓zAa,sxB,Nat.reduceBEq]
 ·rw[List.length_replicate];exact d3.done
end Go.Am
namespace Go.Am
open Go.Proofs
set_option maxRecDepth 100000
set_option linter.all false
attribute [local congr] zAf zAq zAr zAs zAj zAg
theorem callCan1 (a0 a1:Value) (h:Heap):evC Tryz.prog 47 #[a0,a1] h=cK c47_0 32 (up un [(0,a0),(1,a1)]) (nm h) (zBb Tryz.f47 Tryz.prog h):=
 (zAo 47 Tryz.f47 c47_0 Tryz.func47 (by kernel_rfl) #[a0,a1] h).trans (by kernel_rfl)
theorem faLn0 (p:Nat):zAe Tryz.prog 90 (.pointer (some ⟨p,0,none⟩)) 0=some (.pointer (some ⟨p,0,none⟩)):=by kernel_rfl
theorem faLn1 (p:Nat):zAe Tryz.prog 90 (.pointer (some ⟨p,0,none⟩)) 1=some (.pointer (some ⟨p,1,none⟩)):=by kernel_rfl
theorem faLn2 (p:Nat):zAe Tryz.prog 90 (.pointer (some ⟨p,0,none⟩)) 2=some (.pointer (some ⟨p,2,none⟩)):=by kernel_rfl
theorem faLn3 (p:Nat):zAe Tryz.prog 90 (.pointer (some ⟨p,0,none⟩)) 3=some (.pointer (some ⟨p,3,none⟩)):=by kernel_rfl
theorem faLn4 (p:Nat):zAe Tryz.prog 90 (.pointer (some ⟨p,0,none⟩)) 4=some (.pointer (some ⟨p,4,none⟩)):=by kernel_rfl
theorem ldLnP (p o:Nat) (h:Heap):zAw Tryz.prog 24 (.pointer (some ⟨p,o,none⟩)) h=h.load1 p o:=by kernel_rfl
theorem ldVec (p o:Nat) (h:Heap):zAw Tryz.prog 45 (.pointer (some ⟨p,o,none⟩)) h=h.load1 p o:=by kernel_rfl
theorem ldU64 (p o:Nat) (h:Heap):zAw Tryz.prog 30 (.pointer (some ⟨p,o,none⟩)) h=h.load1 p o:=by kernel_rfl
theorem lnVec (a:Option Addr) (n c:Nat) (h:Heap):lenV Tryz.prog 45 (.slice a n c) h=some (.int .i64 n):=by kernel_rfl
def atN (ns:List Nat) (i:Int):Nat:=if i<0\/(ns.length:Int)<=i then 0 else ns.getD i.toNat 0
theorem spec_vecAt {h:Heap} {v:Value} {ns:List Nat} (s:SU h v ns) (i:Int):evC Tryz.prog 49 #[v,.int .i64 i] h=some (.int .u64 (atN ns i),h):=by
 rw[call49]
 obtain ⟨a,c,rfl⟩:=s.shape
 unfold atN
 by_cases h1:i<0
 ·rw[if_pos (.inl h1)]
  simp -implicitDefEqProofs (disch:=omega) only[↓c49_0_eq,dcT,↓ret49,↓zAc,↓zAb,↓Option.bind_some,↓zAa,sxB,Nat.reduceBEq]
  rfl
 ·by_cases h2:(ns.length:Int)<=i
  ·rw[if_pos (.inr h2)]
   have g:i>=(ns.length:Int):=h2
   simp -implicitDefEqProofs (disch:=omega) only[↓c49_0_eq,dcT,dcF,lnVec,↓ret49,↓zAc,↓zAb,↓Option.bind_some,↓zAa,sxB,Nat.reduceBEq]
   rfl
  ·rw[if_neg (by omega)]
   obtain ⟨k,rfl⟩:∃k:Nat,i=k:=⟨i.toNat,by omega⟩
   rw[Int.toNat_natCast]
   obtain ⟨ad,e1,e2⟩:=su_at (Sl.nm s) (t:=45) (by kernel_rfl) (i:=k) (by omega)
   simp -implicitDefEqProofs (disch:=omega) only[↓c49_0_eq,dcT,dcF,lnVec,e1,e2,↓ret49,↓zAc,↓zAb,↓Option.bind_some,↓zAa,sxB,Nat.reduceBEq]
def stopE (me:Int) (ns:List Nat) (x:E3):Bool:=hasB x.t me && (decide (x.f≠me) && decide ((atN ns x.f:Int)<x.n))
theorem LEn.seenS {h:Heap} {p s:Nat} {n me:Int} {num:Nat} {es:List E3} {ns:List Nat} (l:LEn h p s n me num es ns):SU h (.slice (some ⟨s,0,none⟩) ns.length ns.length) ns:=
 .mk (l.seen.loadN (n:=ns.length*1) (by simp)) (.inr ⟨Nat.le_refl _,by have:=l.len;unfold UNK;omega⟩)
theorem LEn.same {h h':Heap} {p s:Nat} {n me:Int} {num:Nat} {es:List E3} {ns:List Nat} (l:LEn h p s n me num es ns) (e:Same h h'):LEn h' p s n me num es ns:=
 let ⟨la,lc,a,b⟩:=l.eng
 ⟨⟨la,lc,a.same e,b.same e⟩,l.seen.same e,l.len⟩
theorem spec_Can1 {h:Heap} {pb p s:Nat} {n me:Int} {num:Nat} {es:List E3} {ns:List Nat} (cb:Cells h pb 24 [.pointer (some ⟨p,0,none⟩)]) (l:LEn h p s n me num es ns) (x:E3) (hx:x.t<2^64) :
  ∃h',evC Tryz.prog 47 #[entV x,.pointer (some ⟨pb,0,none⟩)] h=some (.bool (stopE me ns x),h')/\HExt h h':=by
 rw[callCan1]
 have c1:=Cells.new (nm h) 99 (entC x)
 have k1:In h.blks.length No (nm h) ((nm h).new (.cells (entC x)) 99):=In.new (h:=nm h) (Nat.le_refl h.blks.length) _ _
 have sm:Same h ((nm h).new (.cells (entC x)) 99):=Same.new (nm h) _ _
 have e0:(nm h).blks.length=h.blks.length:=rfl
 rw[e0] at c1
 generalize hh:(nm h).new (.cells (entC x)) 99=h1 at c1 k1 sm
 have l1:=l.same sm
 obtain ⟨la,lc,ce,_⟩:=l1.eng
 have Aa:h1.load1 h.blks.length 0=some (.int .i64 x.f):=c1.load 0
 have Ab:h1.load1 h.blks.length (0+1)=some (.int .u64 x.n):=c1.load 1
 have Ac:h1.load1 h.blks.length (0+2)=some (.int .u64 x.t):=c1.load 2
 have p0:h1.load1 pb 0=some (.pointer (some ⟨p,0,none⟩)):=(cb.same sm).load 0
 have m1:h1.load1 p 1=some (.int .i64 me):=ce.load 1
 have m4:h1.load1 p 4=some (.slice (some ⟨s,0,none⟩) ns.length ns.length):=ce.load 4
 have q1:=spec_Has x.t hx me h1
 have q2:=spec_vecAt (Sl.nm l1.seenS) x.f
 unfold stopE
 refine ⟨_,?_,zAl k1⟩
 cases hb:hasB x.t me with
 | false=>
  rw[hb] at q1
  simp -implicitDefEqProofs (disch:=omega) only[↓c47_0_eq,↓c47_1_eq,↓c47_2_eq,↓c47_3_eq,↓c47_4_eq,↓d47_0_0,↓d47_0_1,↓d47_0_2,↓d47_0_3,↓d47_0_4,↓d47_0_5,↓d47_0_6,↓d47_0_7,↓d47_0_8,↓d47_0_9,↓d47_0_10,↓d47_0_11,↓d47_0_12,↓d47_0_13,↓d47_0_14,↓d47_0_15,↓d47_0_16,↓d47_0_17,↓d47_0_18,↓d47_0_19,↓d47_0_20,↓d47_0_21,↓d47_0_22,↓d47_0_23,↓d47_0_24,↓d47_0_25,↓d47_0_26,↓d47_0_27,↓d47_0_28,↓d47_0_29,bxEe,e0,hh,faE0,faE1,faE2,ldS,ldInt,ldU64,ldLnP,ldVec,Aa,Ab,Ac,p0,zAt,faLn1,faLn4,m1,m4,q1,Bool.false_and,am_nm,nm_mods,List.nil_append,List.append_nil,chk_nil_r,↓ret47,↓zAc,↓zAb,↓Option.bind_some,↓zAa,sxB,Nat.reduceBEq]
 | true=>
  rw[hb] at q1
  by_cases hf:x.f=me
  ·have d1:decide (x.f≠me)=false:=decide_eq_false (fun h=>h hf)
   simp -implicitDefEqProofs (disch:=omega) only[↓c47_0_eq,↓c47_1_eq,↓c47_2_eq,↓c47_3_eq,↓c47_4_eq,↓d47_0_0,↓d47_0_1,↓d47_0_2,↓d47_0_3,↓d47_0_4,↓d47_0_5,↓d47_0_6,↓d47_0_7,↓d47_0_8,↓d47_0_9,↓d47_0_10,↓d47_0_11,↓d47_0_12,↓d47_0_13,↓d47_0_14,↓d47_0_15,↓d47_0_16,↓d47_0_17,↓d47_0_18,↓d47_0_19,↓d47_0_20,↓d47_0_21,↓d47_0_22,↓d47_0_23,↓d47_0_24,↓d47_0_25,↓d47_0_26,↓d47_0_27,↓d47_0_28,↓d47_0_29,bxEe,e0,hh,faE0,faE1,faE2,ldS,ldInt,ldU64,ldLnP,ldVec,Aa,Ab,Ac,p0,zAt,faLn1,faLn4,m1,m4,q1,d1,Bool.false_and,Bool.true_and,am_nm,nm_mods,List.nil_append,List.append_nil,chk_nil_r,↓ret47,↓zAc,↓zAb,↓Option.bind_some,↓zAa,sxB,Nat.reduceBEq]
  ·have d1:decide (x.f≠me)=true:=decide_eq_true hf
   simp -implicitDefEqProofs (disch:=omega) only[↓c47_0_eq,↓c47_1_eq,↓c47_2_eq,↓c47_3_eq,↓c47_4_eq,↓d47_0_0,↓d47_0_1,↓d47_0_2,↓d47_0_3,↓d47_0_4,↓d47_0_5,↓d47_0_6,↓d47_0_7,↓d47_0_8,↓d47_0_9,↓d47_0_10,↓d47_0_11,↓d47_0_12,↓d47_0_13,↓d47_0_14,↓d47_0_15,↓d47_0_16,↓d47_0_17,↓d47_0_18,↓d47_0_19,↓d47_0_20,↓d47_0_21,↓d47_0_22,↓d47_0_23,↓d47_0_24,↓d47_0_25,↓d47_0_26,↓d47_0_27,↓d47_0_28,↓d47_0_29,bxEe,e0,hh,faE0,faE1,faE2,ldS,ldInt,ldU64,ldLnP,ldVec,Aa,Ab,Ac,p0,zAt,faLn1,faLn4,m1,m4,q1,d1,q2,am_nm,nm_mods,List.nil_append,List.append_nil,chk_nil_r,Bool.true_and,↓ret47,↓zAc,↓zAb,↓Option.bind_some,↓zAa,sxB,Nat.reduceBEq]
end Go.Am
namespace Go.Am
open Go.Proofs
set_option maxRecDepth 100000
set_option linter.all false
attribute [local congr] zAf zAq zAr zAs zAj zAg
theorem sameNm (h:Heap):Same h (nm h):=⟨Nat.le_refl _,fun _ _=>rfl⟩
theorem callClos (a b:Value) (h:Heap):callV Tryz.prog (evC Tryz.prog) (.func (.func 47) #[] #[b]) #[a] h=evC Tryz.prog 47 #[a,b] h:=by kernel_rfl
theorem idx_loop {h0 h1:Heap} {v:Value} {g:List E3} {pb p s:Nat} {n me:Int} {num:Nat} {es:List E3} {ns:List Nat} (sv:SE h1 v g) (hw:wide g) (hl:g.length<2^40) (cb:Cells h1 pb 24 [.pointer (some ⟨p,0,none⟩)]) (l:LEn h1 p s n me num es ns) :
  ∀(m i:Nat),g.length-i=m->i<=g.length->∀(x:Nat->Value) (h:Heap),In h0.blks.length No (nm h0) h->Same h1 h->x 0=v->x 1=.func (.func 47) #[] #[.pointer (some ⟨pb,0,none⟩)]->x 7=.int .i64 g.length->x 8=.int .i64 i->
  ∃(k:Int) (h':Heap),lK c89_1 19 x h (zAu 0 (sK c89_2 (zBb Tryz.f89 Tryz.prog h0)))=some (.int .i64 k,done h0 h')/\In h0.blks.length No (nm h0) h'/\decide (k>=0)=(g.drop i).any (stopE me ns):=by
 intro m
 induction m with
 | zero=>
  intro i e1 e2 x h hin hs Aa Ab Ah Ai
  obtain rfl:i=g.length:=by omega
  rw[lK_eq,List.drop_length]
  refine ⟨-1,h,?_,hin,rfl⟩
  simp -implicitDefEqProofs (disch:=omega) only[↓c89_1_eq,↓c89_2_eq,Ah,Ai,dcF,↓ret89,↓zAc,↓zAb,↓Option.bind_some,↓zAa,sxB,Nat.reduceBEq]
 | succ m ih=>
  intro i hm hi x h hin hs Aa Ab Ah Ai
  have hil:i<g.length:=by omega
  obtain ⟨b,o,hb,hbl,e1,e2⟩:=sv.at' (t:=49) (el:=99) (by kernel_rfl) (by kernel_rfl) hil
  obtain ⟨f1,_⟩:=e2 h (hs.2 b hbl)
  obtain ⟨h2,q2,y2⟩:=spec_Can1 (cb.same hs) (l.same hs) g[i] (hw _ (List.getElem_mem hil)).2
  have hin2:=hin.trans (y2.inn (Nat.le_trans hin.le hin.len))
  have wi:IntKind.i64.wrap ((i:Int)+1)=((i+1:Nat):Int):=by rw[wrap_i64]<;>omega
  rw[lK_eq,List.drop_eq_getElem_cons hil,List.any_cons]
  cases hst:stopE me ns g[i] with
  | true=>
   rw[hst] at q2
   refine ⟨i,h2,?_,hin2,by simp⟩
   simp -implicitDefEqProofs (disch:=omega) only[↓c89_1_eq,↓c89_2_eq,Aa,Ab,Ah,Ai,dcT,e1,ldE,f1,Option.map_some,entA,callClos,q2,↓ret89,↓zAc,↓zAb,↓Option.bind_some,↓zAa,sxB,Nat.reduceBEq]
  | false=>
   rw[hst] at q2
   rw[Bool.false_or]
   simp -implicitDefEqProofs (disch:=omega) only[↓c89_1_eq,↓c89_2_eq,Aa,Ab,Ah,Ai,dcT,e1,ldE,f1,Option.map_some,entA,callClos,q2,wi,↓zAc,↓zAb,↓Option.bind_some,↓zAa,sxB,Nat.reduceBEq]
   refine ih (i+1) (by omega) (by omega) _ h2 hin2 (hs.trans y2.same) ?_ ?_ ?_ ?_
   ·exact Aa
   ·exact Ab
   ·exact Ah
   ·rfl
theorem spec_Contains {h:Heap} {v:Value} {g:List E3} {pb p s:Nat} {n me:Int} {num:Nat} {es:List E3} {ns:List Nat} (sv:SE h v g) (hw:wide g) (hl:g.length<2^40) (cb:Cells h pb 24 [.pointer (some ⟨p,0,none⟩)]) (l:LEn h p s n me num es ns) :
  ∃h',evC Tryz.prog 46 #[v,.func (.func 47) #[] #[.pointer (some ⟨pb,0,none⟩)]] h=some (.bool (g.any (stopE me ns)),h')/\HExt h h':=by
 have ix:∀h,SE h v g->Cells h pb 24 [.pointer (some ⟨p,0,none⟩)]->LEn h p s n me num es ns->∃(k:Int) (h':Heap),evC Tryz.prog 89 #[v,.func (.func 47) #[] #[.pointer (some ⟨pb,0,none⟩)]] h=some (.int .i64 k,h')/\HExt h h'/\decide (k>=0)=g.any (stopE me ns):=fun h sv cb l=>by
  rw[call89]
  have lp:=idx_loop (h0:=h) (h1:=nm h) sv.nm hw hl cb (l.same (sameNm h)) g.length 0 (by omega) (by omega)
  obtain ⟨a,c,rfl⟩:=sv.shape
  have fin':∀ {r:Option (Value × Heap)},(∃(k:Int) (h':Heap),r=some (.int .i64 k,done h h')/\In h.blks.length No (nm h) h'/\decide (k>=0)=(g.drop 0).any (stopE me ns))->∃(k:Int) (h':Heap),r=some (.int .i64 k,h')/\HExt h h'/\decide (k>=0)=g.any (stopE me ns):=fun ⟨k,h',q1,q2,q3⟩=>⟨k,_,q1,zAl q2,q3⟩
  simp -implicitDefEqProofs (disch:=omega) only[↓c89_0_eq,lnEs,↓zAc,↓zAb,↓Option.bind_some,↓zAa,sxB,Nat.reduceBEq]
  refine fin' (lp _ _ (In.refl (Nat.le_refl _)) (Same.refl _) ?_ ?_ ?_ ?_)
  all_goals rfl
 rw[call46]
 obtain ⟨k,h2,q2,Ac,hk⟩:=ix (nm h) sv.nm cb (l.same (sameNm h))
 refine ⟨_,?_,zAl (Ac.inn (Nat.le_refl h.blks.length))⟩
 simp -implicitDefEqProofs (disch:=omega) only[↓c46_0_eq,q2,hk,↓ret46,↓zAc,↓zAb,↓Option.bind_some,↓zAa,sxB,Nat.reduceBEq]
def canE (n me:Int) (ns:List Nat) (fr:Int) (num:Nat) (bs:List UInt8):Bool:=match getP bs with
 | none=>false
 | some g=>if fr<0\/n<=fr\/fr=me\/num<1 then false else !g.any (stopE me ns)
theorem bxLnP (p:Nat) (h:Heap):boxV Tryz.prog 24 (.pointer (some ⟨p,0,none⟩)) h=some (.pointer (some ⟨h.blks.length,0,none⟩),h.new (.cells [.pointer (some ⟨p,0,none⟩)]) 24):=by kernel_rfl
theorem getP_wide {bs:List UInt8} {g:List E3} (h:getP bs=some g):wide g:=by
 unfold getP logOf at h
 split at h
 ·cases h;exact rdN_wide _ _
 ·cases h
theorem spec_Can {h:Heap} {p s:Nat} {n me:Int} {num:Nat} {es:List E3} {ns:List Nat} (l:LEn h p s n me num es ns) (fr:Int) (k:Nat) {v:Value} {bs:List UInt8} (sb:SB h v bs) (hl:bs.length<2^30) :
  ∃h',evC Tryz.prog 11 #[.pointer (some ⟨p,0,none⟩),.int .i64 fr,.int .u64 k,v] h=some (.bool (canE n me ns fr k bs),h')/\HExt h h':=by
 rw[call11]
 have c1:=Cells.new (nm h) 24 [.pointer (some ⟨p,0,none⟩)]
 have k1:In h.blks.length No (nm h) ((nm h).new (.cells [.pointer (some ⟨p,0,none⟩)]) 24):=In.new (h:=nm h) (Nat.le_refl h.blks.length) _ _
 have sm:Same h ((nm h).new (.cells [.pointer (some ⟨p,0,none⟩)]) 24):=Same.new (nm h) _ _
 have e0:(nm h).blks.length=h.blks.length:=rfl
 have e1:((nm h).new (.cells [.pointer (some ⟨p,0,none⟩)]) 24).blks.length=h.blks.length+1:=by simp[Heap.new]
 rw[e0] at c1
 generalize hh:(nm h).new (.cells [.pointer (some ⟨p,0,none⟩)]) 24=h1 at c1 k1 sm e1
 obtain ⟨a2,c2,h2,q2,Ac,r2⟩:=spec_Get18 (Sl.same sb sm) hl
 have hx2:=Ac.len
 have d3:=Cells.new h2 51 [.slice none 0 0]
 have st:=zAp d3 (o:=0) (vs:=[.slice a2 ((getP bs).getD []).length c2]) (by simp)
 simp only[List.take_zero,List.nil_append,List.append_nil,List.length_cons,List.length_nil,List.drop_succ_cons,List.drop_zero,Nat.zero_add] at st
 have k2:=k1.trans (Ac.inn (by omega))
 have k3:=(k2.trans (In.new (S:=No) (by omega) (.cells [.slice none 0 0]) 51)).trans (In.put (S:=No) (by simp[Heap.new];omega) (p:=h2.blks.length) (.inl (by omega)) (.cells [.slice a2 ((getP bs).getD []).length c2]))
 have y3:=same_np h2 (.cells [.slice none 0 0]) (.cells [.slice a2 ((getP bs).getD []).length c2]) 51
 have g3:=d3.put [.slice a2 ((getP bs).getD []).length c2]
 have s3:SE ((h2.new (.cells [.slice none 0 0]) 51).put h2.blks.length (.cells [.slice a2 ((getP bs).getD []).length c2])) (.slice a2 ((getP bs).getD []).length c2) ((getP bs).getD []):=Sl.same (AE.se r2) y3
 generalize hh3:(h2.new (.cells [.slice none 0 0]) 51).put h2.blks.length (.cells [.slice a2 ((getP bs).getD []).length c2])=h3 at st k3 y3 g3 s3
 have sm3:=(sm.trans Ac.same).trans y3
 have l3:=l.same sm3
 obtain ⟨la,lc,ce,_⟩:=l3.eng
 have p0:h3.load1 h.blks.length 0=some (.pointer (some ⟨p,0,none⟩)):=((c1.ext Ac).same y3).load 0
 have m0:h3.load1 p 0=some (.int .i64 n):=ce.load 0
 have m1:h3.load1 p 1=some (.int .i64 me):=ce.load 1
 have lg:h3.load1 h2.blks.length 0=some (.slice a2 ((getP bs).getD []).length c2):=g3.load 0
 unfold canE
 cases hg:getP bs with
 | none=>
  rw[hg] at q2 st
  simp only[Option.getD_none,Option.isSome_none] at q2 st
  refine ⟨_,?_,zAl k3⟩
  simp -implicitDefEqProofs (disch:=omega) only[↓c11_0_eq,bxLnP,e0,hh,q2,extractV_tuple,alL,stL,st,↓ret11,↓zAc,↓zAb,↓Option.bind_some,↓zAa,sxB,Nat.reduceBEq]
 | some g=>
  rw[hg] at q2 st s3 lg
  simp only[Option.getD_some,Option.isSome_some] at q2 st s3 lg
  by_cases hbad:fr<0\/n<=fr\/fr=me\/k<1
  ·refine ⟨_,?_,zAl k3⟩
   simp only[if_pos hbad]
   by_cases b1:fr<0
   ·simp -implicitDefEqProofs (disch:=omega) only[↓c11_0_eq,bxLnP,e0,hh,q2,extractV_tuple,alL,stL,st,dcT,↓ret11,↓zAc,↓zAb,↓Option.bind_some,↓zAa,sxB,Nat.reduceBEq]
   ·by_cases b2:fr>=n
    ·simp -implicitDefEqProofs (disch:=omega) only[↓c11_0_eq,bxLnP,e0,hh,q2,extractV_tuple,alL,stL,st,dcT,dcF,ldLnP,p0,zAt,faLn0,ldI,m0,↓ret11,↓zAc,↓zAb,↓Option.bind_some,↓zAa,sxB,Nat.reduceBEq]
    ·by_cases b3:fr=me
     ·have d3:decide (fr=me)=true:=decide_eq_true b3
      simp -implicitDefEqProofs (disch:=omega) only[↓c11_0_eq,bxLnP,e0,hh,q2,extractV_tuple,alL,stL,st,dcT,dcF,ldLnP,p0,zAt,faLn0,faLn1,ldI,m0,m1,d3,↓ret11,↓zAc,↓zAb,↓Option.bind_some,↓zAa,sxB,Nat.reduceBEq]
     ·have d3:decide (fr=me)=false:=decide_eq_false b3
      have b4:(k:Int)<1:=by omega
      simp -implicitDefEqProofs (disch:=omega) only[↓c11_0_eq,bxLnP,e0,hh,q2,extractV_tuple,alL,stL,st,dcT,dcF,ldLnP,p0,zAt,faLn0,faLn1,ldI,m0,m1,d3,↓ret11,↓zAc,↓zAb,↓Option.bind_some,↓zAa,sxB,Nat.reduceBEq]
  ·simp only[if_neg hbad]
   have gl:g.length<2^40:=by
    have:=getP_len bs
    rw[hg] at this
    simp only[Option.getD_some] at this
    omega
   obtain ⟨h4,q4,Ae⟩:=spec_Contains s3 (getP_wide hg) gl ((c1.ext Ac).same y3) l3
   refine ⟨_,?_,zAl (k3.trans (Ae.inn (Nat.le_trans k3.le k3.len)))⟩
   have d3:decide (fr=me)=false:=decide_eq_false (by omega)
   simp -implicitDefEqProofs (disch:=omega) only[↓c11_0_eq,bxLnP,e0,hh,q2,extractV_tuple,alL,stL,st,dcT,dcF,ldLnP,p0,zAt,faLn0,faLn1,ldI,m0,m1,d3,faL,ldEs,lg,q4,↓ret11,↓zAc,↓zAb,↓Option.bind_some,↓zAa,sxB,Nat.reduceBEq]
end Go.Am
namespace Go.Am
open Go.Proofs
set_option maxRecDepth 100000
set_option linter.all false
attribute [local congr] zAf zAq zAr zAs zAj zAg
theorem faLo (p o:Nat):zAe Tryz.prog 51 (.pointer (some ⟨p,o,none⟩)) 0=some (.pointer (some ⟨p,o,none⟩)):=by kernel_rfl
theorem ldLo (p o:Nat) (h:Heap):zAw Tryz.prog 51 (.pointer (some ⟨p,o,none⟩)) h=(h.loadN p o 1).map fun cs=>.agg cs.toArray:=by kernel_rfl
theorem stLo (p o:Nat) (a:Option Addr) (n c:Nat) (h:Heap):zBc Tryz.prog 51 (.pointer (some ⟨p,o,none⟩)) (.agg #[.slice a n c]) h=h.storeN p o [.slice a n c]:=by kernel_rfl
theorem spec_Log {h:Heap} {p s:Nat} {n me:Int} {num:Nat} {es:List E3} {ns:List Nat} (l:LEn h p s n me num es ns) (hl:es.length<2^39) :
  ∃a c h',evC Tryz.prog 17 #[.pointer (some ⟨p,0,none⟩)] h=some (.agg #[.slice a es.length c],h')/\HExt h h'/\SE h' (.slice a es.length c) es:=by
 rw[call17]
 have c1:=Cells.new (nm h) 51 [.slice none 0 0]
 have k1:In h.blks.length No (nm h) ((nm h).new (.cells [.slice none 0 0]) 51):=In.new (h:=nm h) (Nat.le_refl h.blks.length) _ _
 have sm:Same h ((nm h).new (.cells [.slice none 0 0]) 51):=Same.new (nm h) _ _
 have e0:(nm h).blks.length=h.blks.length:=rfl
 have e1:((nm h).new (.cells [.slice none 0 0]) 51).blks.length=h.blks.length+1:=by simp[Heap.new]
 rw[e0] at c1
 generalize hh:(nm h).new (.cells [.slice none 0 0]) 51=h1 at c1 k1 sm e1
 obtain ⟨la,lc,ce,ae⟩:=(l.same sm).eng
 have m2:h1.load1 p 2=some (.slice la es.length lc):=ce.load 2
 obtain ⟨a,c,h2,q2,Ac,r2⟩:=spec_CloneE ae.se hl
 have d2:=c1.ext Ac
 have st:=zAp d2 (o:=0) (vs:=[.slice a es.length c]) (by simp)
 simp only[List.take_zero,List.nil_append,List.append_nil,List.length_cons,List.length_nil,List.drop_succ_cons,List.drop_zero,Nat.zero_add] at st
 have g:=d2.put [.slice a es.length c]
 have k2:=k1.trans (Ac.inn (by omega))
 have k3:=k2.trans (In.put (S:=No) (Nat.le_trans k2.le k2.len) (p:=h.blks.length) (.inl (Nat.le_refl _)) (.cells [.slice a es.length c]))
 have lg:(Heap.loadN (h2.put h.blks.length (.cells [.slice a es.length c])) h.blks.length 0 1).map (fun cs=>Value.agg cs.toArray)=some (.agg #[.slice a es.length c]):=by rw[g.loadN (n:=1) rfl];rfl
 refine ⟨a,c,_,?_,zAl k3,Sl.done ((AE.se r2).keepPut (fun e=>by have:=Acc.ge r2 e;omega) _)⟩
 simp -implicitDefEqProofs (disch:=omega) only[↓c17_0_eq,alL,e0,hh,zAt,faLn2,faLo,ldEs,m2,q2,bdL,stL,st,ldL,lg,rvals,↓ret17,↓zAc,↓zAb,↓Option.bind_some,↓zAa,sxB,Nat.reduceBEq]
theorem nilV (xo yo:Operand):zBk Tryz.prog .eql 45 xo yo (.slice none 0 0) (.slice none 0 0)=some (.bool true):=by kernel_rfl
theorem mkV0 (h:Heap):zAi Tryz.prog 45 0 #[] h=some (.slice (some ⟨h.blks.length,0,none⟩) 0 0,h.new (.cells []) 30):=by kernel_rfl
end Go.Am
