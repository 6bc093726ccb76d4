/- Part of the proof: the logic, the walks, and what they compute. -/
import Derived.ChangeSame
import Derived.Test.YteicbpfkljnemaaGreatTF
set_option linter.all false
namespace Go.Proofs.YteicbpfkljnemaaGreat
open Go Go.HW
set_option maxRecDepth 8000
theorem bl_irr:∀x:List UInt8,Op.bytesLess x x=false
 | []=>rfl
 | a::x=>by simp [Op.bytesLess,bl_irr x]
theorem bl_tr:∀{x y z:List UInt8},Op.bytesLess x y=true→Op.bytesLess y z=true→Op.bytesLess x z=true
 | _,[],_,h,_=>by simp [Op.bytesLess] at h
 | _,_::_,[],_,h=>by simp [Op.bytesLess] at h
 | [],_::_,_::_,_,_=>rfl
 | a::x,b::y,c::z,h1,h2=>by
  simp only [Op.bytesLess,Bool.or_eq_true,Bool.and_eq_true,decide_eq_true_eq,beq_iff_eq] at h1 h2 ⊢
  rcases h1 with h1 | ⟨rfl,h1⟩
  ·rcases h2 with h2 | ⟨rfl,h2⟩
   ·exact .inl (UInt8.lt_trans h1 h2)
   exact .inl h1
  rcases h2 with h2 | ⟨rfl,h2⟩
  ·exact .inl h2
  exact .inr ⟨rfl,bl_tr h1 h2⟩
theorem bl_tot:∀{x y:List UInt8},x≠y→Op.bytesLess x y=false→Op.bytesLess y x=true
 | [],[],h,_=>absurd rfl h
 | [],_::_,_,h=>by simp [Op.bytesLess] at h
 | _::_,[],_,_=>rfl
 | a::x,b::y,hn,h=>by
  simp only [Op.bytesLess,Bool.or_eq_false_iff,Bool.and_eq_false_iff,decide_eq_false_iff_not,Bool.or_eq_true,Bool.and_eq_true,decide_eq_true_eq,beq_iff_eq,beq_eq_false_iff_ne] at h ⊢
  obtain ⟨h1,h2⟩:=h
  by_cases e:a=b
  ·subst e
   rcases h2 with h2 | h2
   ·exact absurd rfl h2
   exact .inr ⟨rfl,bl_tot (fun e=>hn (by rw [e])) h2⟩
  rcases UInt8.lt_or_lt_of_ne e with h3 | h3
  ·exact absurd h3 h1
  exact .inl h3
def Bl (x y:ByteArray):Prop:=Op.bytesLess x.toList y.toList=true
theorem Bl.irr {x:ByteArray} (h:Bl x x):False:=by unfold Bl at h;rw [bl_irr] at h;cases h
theorem Bl.tr {x y z:ByteArray} (h1:Bl x y) (h2:Bl y z):Bl x z:=bl_tr h1 h2
theorem Bl.tot {x y:ByteArray} (h:x≠y) (h2:Op.bytesLess x.toList y.toList=false):Bl y x:=bl_tot (fun e=>h (by
 rw [ByteArray.toList_eq,ByteArray.toList_eq] at e
 exact Go.WideShapes.bytes_inj e)) h2
theorem kins_cons (x:ByteArray) (l:List ByteArray) (k:ByteArray):kins (x::l) k=bif Op.bytesLess x.toList k.toList then x::kins l k else k::x::l:=by
 simp only [kins,kat]
 cases Op.bytesLess x.toList k.toList <;> simp
theorem kins_mem {z k:ByteArray}:∀{l:List ByteArray},z∈kins l k↔z=k∨z∈l
 | []=>by simp [kins]
 | x::l=>by
  rw [kins_cons]
  cases Op.bytesLess x.toList k.toList with
  | false=>simp
  | true =>
   simp only [cond_true,List.mem_cons,kins_mem (l:=l)]
   constructor
   ·rintro (h | h | h) <;> simp [h]
   rintro (h | h | h) <;> simp [h]
theorem kins_ord {k:ByteArray}:∀{l:List ByteArray},l.Pairwise Bl→k∉l→(kins l k).Pairwise Bl
 | [],_,_=>by simp [kins]
 | x::l,h,hk=>by
  rw [kins_cons]
  obtain ⟨h1,h2⟩:=List.pairwise_cons.1 h
  simp only [List.mem_cons,not_or] at hk
  cases hx:Op.bytesLess x.toList k.toList with
  | true =>
   refine List.pairwise_cons.2 ⟨fun z hz=>?_,kins_ord h2 hk.2⟩
   rcases kins_mem.1 hz with rfl | hz
   ·exact hx
   exact h1 z hz
  | false =>
   have hb:Bl k x:=Bl.tot (fun e=>hk.1 e.symm) hx
   refine List.pairwise_cons.2 ⟨fun z hz=>?_,h⟩
   rcases List.mem_cons.1 hz with rfl | hz
   ·exact hb
   exact hb.tr (h1 z hz)
theorem kall_iff {is:Nat→Bool} {ky:Nat→ByteArray} {z:ByteArray}:∀{n:Nat},z∈kall is ky n↔∃i,i < n∧is i=true∧ky i=z
 | 0=>by simp [kall]
 | n+1=>by
  have ih:=kall_iff (is:=is) (ky:=ky) (z:=z) (n:=n)
  cases hi:is n with
  | false =>
   rw [kall_skip hi,ih]
   constructor
   ·rintro ⟨i,h1,h2⟩;exact ⟨i,by omega,h2⟩
   rintro ⟨i,h1,h2,h3⟩
   have:i≠n:=by rintro rfl;rw [hi] at h2;cases h2
   exact ⟨i,by omega,h2,h3⟩
  | true =>
   rw [kall_ins hi,kins_mem,ih]
   constructor
   ·rintro (h | ⟨i,h1,h2⟩)
    ·exact ⟨n,by omega,hi,h.symm⟩
    exact ⟨i,by omega,h2⟩
   rintro ⟨i,h1,h2,h3⟩
   by_cases e:i=n
   ·subst e;exact .inl h3.symm
   exact .inr ⟨i,by omega,h2,h3⟩
theorem kall_ord {is:Nat→Bool} {ky:Nat→ByteArray}:∀{n:Nat},(∀i j,i < n→j < n→is i=true→is j=true→ky i=ky j→i=j)→(kall is ky n).Pairwise Bl
 | 0,_=>by simp [kall]
 | n+1,h=>by
  have ih:=kall_ord (is:=is) (ky:=ky) (n:=n) fun i j hi hj=>h i j (by omega) (by omega)
  cases hi:is n with
  | false=>rw [kall_skip hi];exact ih
  | true =>
   rw [kall_ins hi]
   refine kins_ord ih fun hm=>?_
   obtain ⟨i,h1,h2,h3⟩:=kall_iff.1 hm
   have:=h i n (by omega) (by omega) h2 hi h3
   omega
theorem ord_ext:∀{l1 l2:List ByteArray},l1.Pairwise Bl→l2.Pairwise Bl→(∀z,z∈l1↔z∈l2)→l1=l2
 | [],[],_,_,_=>rfl
 | [],b::l2,_,_,h=>by have:=(h b).2 (by simp);simp at this
 | a::l1,[],_,_,h=>by have:=(h a).1 (by simp);simp at this
 | a::l1,b::l2,h1,h2,h=>by
  obtain ⟨a1,a2⟩:=List.pairwise_cons.1 h1
  obtain ⟨b1,b2⟩:=List.pairwise_cons.1 h2
  have e:a=b:=by
   rcases List.mem_cons.1 ((h a).1 (by simp)) with e | e
   ·exact e
   rcases List.mem_cons.1 ((h b).2 (by simp)) with e2 | e2
   ·exact e2.symm
   exact ((b1 a e).tr (a1 b e2)).irr.elim
  subst e
  rw [ord_ext a2 b2 fun z=>?_]
  constructor
  ·intro hz
   rcases List.mem_cons.1 ((h z).1 (by simp [hz])) with e | e
   ·subst e;exact (a1 z hz).irr.elim
   exact e
  intro hz
  rcases List.mem_cons.1 ((h z).2 (by simp [hz])) with e | e
  ·subst e;exact (b1 z hz).irr.elim
  exact e
section
variable {F E V:Nat} {K a:Int} {cells:List HCell} {keys:List (ByteArray×Int)} {fl:List RPlace} {S:MSpec}
theorem keys_same (h:Rl E V K cells keys fl):srt (keys.map (·.1))=kall (kis fl) (kky fl) fl.length:=by
 refine ord_ext (srt_less h.nd) (kall_ord fun i j hi hj h1 h2 he=>?_) fun z=>?_
 ·have b1:=(h.back (i:Int) (inb_iff.2 ⟨by omega,by have:=h.flen;omega⟩) h1).2
  have b2:=(h.back (j:Int) (inb_iff.2 ⟨by omega,by have:=h.flen;omega⟩) h2).2
  have he':(gt fl (i:Int)).fkey=(gt fl (j:Int)).fkey:=he
  rw [he',b2] at b1;omega
 rw [(srt_perm _).mem_iff,kall_iff,List.mem_map]
 constructor
 ·rintro ⟨q,h1,h2⟩
  obtain ⟨k1,k2,k3⟩:=h.key z ((mhas_iff keys z).2 ⟨q,h1,h2⟩)
  have k0:=inb_iff.1 k1
  have e:((mget keys z 0).toNat:Int)=mget keys z 0:=by omega
  refine ⟨(mget keys z 0).toNat,by have:=h.flen;omega,?_,?_⟩
  ·exact k2
  exact k3
 rintro ⟨i,h1,h2,h3⟩
 have b:=(h.back (i:Int) (inb_iff.2 ⟨by omega,by have:=h.flen;omega⟩) h2).1
 exact (mhas_iff keys z).1 (h3▸b)
theorem keys_both (h:Rl E V K cells keys fl) (hE:E≤10000) (hF:30000≤F) (VV EE:Int) :
  ∃L,fn14 F cells a K VV EE keys=some L∧fn16 ⟨S,fl⟩=some L∧L.length≤20000∧∀x∈L,x.length≤20000:=by
 have hk:∀p∈keys,p.1.size≤1000:=fun p hp=>h.kz ((mhas_iff keys p.1).2 ⟨p,hp,rfl⟩)
 have hs:=keys_same h
 have hl:keys.length≤E:=by
  have h1:=(srt_perm (keys.map (·.1))).length_eq
  rw [hs,List.length_map] at h1
  rw [← h1,← h.flen];exact kall_len _ _ _
 have e1:decide (fl.length≤1000000)=true:=by rw [h.flen];simp;omega
 have e2:fl.all (fun x=>decide (x.fkey.size≤1000000))=true:=List.all_eq_true.2 fun x hx=>by
  obtain ⟨i,hi,rfl⟩:=List.mem_iff_getElem.1 hx
  have:=h.fz (i:Int) (inb_iff.2 ⟨by omega,by have:=h.flen;omega⟩)
  unfold gt at this
  rw [Int.toNat_natCast,List.getD_eq_getElem?_getD,List.getElem?_eq_getElem hi] at this
  simp only [Option.getD_some] at this
  simp;omega
 refine ⟨(kall (kis fl) (kky fl) fl.length).map numsOf,?_,?_,?_,fun x hx=>?_⟩
 ·rw [keys_ok (by omega) (by omega) (fun p hp=>by have:=hk p hp;omega),hs]
 ·simp only [fn16,e1,e2];rfl
 ·rw [List.length_map,← hs,(srt_perm _).length_eq,List.length_map];omega
 obtain ⟨z,hz,rfl⟩:=List.mem_map.1 hx
 rw [← hs,(srt_perm _).mem_iff,List.mem_map] at hz
 obtain ⟨p,hp,rfl⟩:=hz
 have:=hk p hp
 rw [numsOf,List.length_map,Array.length_toList]
 show p.1.size≤20000
 omega
end
section
variable {F E V:Nat} {K a:Int} {cells:List HCell} {keys:List (ByteArray×Int)} {fl:List RPlace} {S:MSpec}
theorem step_ok (h:Rl E V K cells keys fl) (hS:S.fKey=K) (hSV:S.fValue=(V:Int)) (hV:V≤2000) (hE:E≤2000) (hF:30000≤F) (EE:Int) (d:Do) (hk:d.fKey.length≤20000) (hb:d.fB.length≤20000) :
  ∃c q f,fn9 F cells a K (V:Int) EE keys ⟨S,fl⟩ d=some (true,c,q,f)∧Rl E V K c q f:=by
 obtain ⟨v5,hp,_⟩:=pick_ok d.fWhat 6 (by omega) (by omega)
 have hva:∀{c q f},Rl E V K c q f→(valAt c d.fPlace).1.length≤20000:=fun h'=>Nat.le_trans (valAt_len h') (by omega)
 have hVm:V≤1000000:=by omega
 simp only [fn9,lent_eq hF hk,lent_eq hF hb,hp,Option.bind_some,cut_l]
 cases h2:v5 == 2 with
 | true =>
  obtain ⟨L,k1,k2,k3,k4⟩:=keys_both (a:=a) (S:=S) h (by omega) hF (V:Int) EE
  refine ⟨cells,keys,fl,?_,h⟩
  simp only [cond_true,look_all,ref_look h hS (by omega) hF,Option.bind_some,beq_self_eq_true,Bool.and_self,cnt_eq hF hk,cnt_eq hF hb,fin_eq hF hk,fin_eq hF hb,val_all h hVm,ref_val h hVm,same_eq hF (hva h),apB_eq (hva h) (hva h),k1,k2,rows_eq hF k3 k4]
 | false =>
 cases h3:v5 == 3 with
 | true =>
  obtain ⟨e,c,f,e1,e2,h'⟩:=set_both (a:=a) (S:=S) (v:=d.fB) h hSV (by omega) hb d.fPlace d.fOff EE
  obtain ⟨L,k1,k2,k3,k4⟩:=keys_both (a:=a) (S:=S) h' (by omega) hF (V:Int) EE
  refine ⟨c,keys,f,?_,h'⟩
  simp only [cond_true,cond_false,e1,e2,Option.bind_some,beq_self_eq_true,Bool.and_self,cnt_eq hF hk,cnt_eq hF hb,fin_eq hF hk,fin_eq hF hb,val_all h' hVm,ref_val h' hVm,same_eq hF (hva h'),apB_eq (hva h') (hva h'),k1,k2,rows_eq hF k3 k4]
 | false =>
 cases h4:v5 == 4 with
 | true =>
  obtain ⟨e,c,q,f,e1,e2,h'⟩:=del_both (a:=a) (S:=S) (k:=d.fKey) h hS (by omega) hF (V:Int) EE
  obtain ⟨L,k1,k2,k3,k4⟩:=keys_both (a:=a) (S:=S) h' (by omega) hF (V:Int) EE
  refine ⟨c,q,f,?_,h'⟩
  simp only [cond_true,cond_false,e1,e2,Option.bind_some,beq_self_eq_true,Bool.and_self,cnt_eq hF hk,cnt_eq hF hb,fin_eq hF hk,fin_eq hF hb,val_all h' hVm,ref_val h' hVm,same_eq hF (hva h'),apB_eq (hva h') (hva h'),k1,k2,rows_eq hF k3 k4]
 | false =>
 cases h5:v5 == 5 with
 | true =>
  obtain ⟨e,c,q,f,e1,e2,h'⟩:=del_both (a:=a) (S:=S) (k:=d.fKey) h hS (by omega) hF (V:Int) EE
  obtain ⟨L,k1,k2,k3,k4⟩:=keys_both (a:=a) (S:=S) h' (by omega) hF (V:Int) EE
  refine ⟨c,q,f,?_,h'⟩
  simp only [cond_true,cond_false,e1,e2,Option.bind_some,beq_self_eq_true,Bool.and_self,cnt_eq hF hk,cnt_eq hF hb,fin_eq hF hk,fin_eq hF hb,val_all h' hVm,ref_val h' hVm,same_eq hF (hva h'),apB_eq (hva h') (hva h'),k1,k2,rows_eq hF k3 k4]
 | false =>
  obtain ⟨e,c,q,f,e1,e2,h'⟩:=upd_both (a:=a) (S:=S) (k:=d.fKey) (v:=d.fB) h hS hSV (by omega) (by omega) hF d.fFlags EE
  obtain ⟨L,k1,k2,k3,k4⟩:=keys_both (a:=a) (S:=S) h' (by omega) hF (V:Int) EE
  refine ⟨c,q,f,?_,h'⟩
  simp only [cond_true,cond_false,e1,e2,Option.bind_some,beq_self_eq_true,Bool.and_self,cnt_eq hF hk,cnt_eq hF hb,fin_eq hF hk,fin_eq hF hb,val_all h' hVm,ref_val h' hVm,same_eq hF (hva h'),apB_eq (hva h') (hva h'),k1,k2,rows_eq hF k3 k4]
end
theorem awake:fn6 30000=some true:=by kernel_rfl
def chn (a b c:Bool):Int:=bif !a then 2 else bif !b then 2 else bif !c then 2 else 0
theorem chn_eq (a b c:Bool):chn a b c=bif !(a&&(b&&c)) then 2 else 0:=by cases a <;> cases b <;> cases c <;> rfl
theorem chn_eq2 (a b c:Bool):chn a b c=bif !((a&&b)&&c) then 2 else 0:=by cases a <;> cases b <;> cases c <;> rfl
theorem bd_one (n x:Int):(decide (n≤x)&&decide (x≤n))=(x == n):=by
 rw [Bool.eq_iff_iff];simp;omega
theorem spec_same:∀p:MSpec,fn23 p=fn25 p
 | ⟨kd,K,V,E⟩=>by
  by_cases h1:kd=1
  ·subst h1;rw [show fn23 ⟨1,K,V,E⟩=chn (decide (4≤K)&&decide (K≤4)) (fn54 V 1 1024) (fn54 E 1 1024) from rfl,bd_one,chn_eq];rfl
  by_cases h2:kd=2
  ·subst h2;rw [show fn23 ⟨2,K,V,E⟩=chn (fn54 K 1 64) (fn54 V 1 1024) (fn54 E 1 1024) from rfl,chn_eq];rfl
  by_cases h3:kd=3
  ·subst h3;rw [show fn23 ⟨3,K,V,E⟩=chn (fn54 K 1 64) (fn54 V 1 1024) (fn54 E 1 1024) from rfl,chn_eq];rfl
  by_cases h4:kd=4
  ·subst h4;rw [show fn23 ⟨4,K,V,E⟩=chn (fn54 K 5 36) (fn54 V 1 1024) (fn54 E 1 1024) from rfl,chn_eq];rfl
  by_cases h5:kd=5
  ·subst h5;rw [show fn23 ⟨5,K,V,E⟩=chn (decide (0≤K)&&decide (K≤0)) (fn54 V 1 1024) (fn54 E 1 1024) from rfl,bd_one,chn_eq];rfl
  by_cases h6:kd=6
  ·subst h6;rw [show fn23 ⟨6,K,V,E⟩=chn (decide (0≤K)&&decide (K≤0)) (fn54 V 1 1024) (fn54 E 1 1024) from rfl,bd_one,chn_eq];rfl
  by_cases h7:kd=7
  ·subst h7;rw [show fn23 ⟨7,K,V,E⟩=chn (decide (0≤K)&&decide (K≤0)) (decide (0≤V)&&decide (V≤0)) (fn54 E 16 16384) from rfl,bd_one,bd_one,chn_eq2];rfl
  by_cases h8:kd=8
  ·subst h8;rw [show fn23 ⟨8,K,V,E⟩=chn (decide (4≤K)&&decide (K≤4)) (decide (8≤V)&&decide (V≤8)) (fn54 E 1 64) from rfl,bd_one,bd_one,chn_eq2];rfl
  have e:∀n:Int,kd≠n→(kd == n)=false:=fun n h=>by simpa using h
  have g:∀n:Int,kd≠n→decide (n=kd)=false:=fun n h=>by simp;exact fun e=>h e.symm
  have e9:fn25 ⟨kd,K,V,E⟩=9:=by
   simp only [fn25,e 1 h1,e 2 h2,e 3 h3,e 4 h4,e 5 h5,e 6 h6,e 7 h7,e 8 h8,cond_false]
  rw [e9]
  simp only [fn23,mk8,mhas_put,g 1 h1,g 2 h2,g 3 h3,g 4 h4,g 5 h5,g 6 h6,g 7 h7,g 8 h8,Bool.false_or]
  rfl
theorem ref_new_l (p:MSpec) (hE:p.fEntries≤10000) (hV:0≤p.fValue) (hV2:p.fValue≤10000):∀(m n i:Nat) (xs:List RPlace),((m+i:Nat):Int)=p.fEntries→m < n→xs.length=i →
  fn8_l1 p n xs (i:Int)=some (xs++List.replicate m ⟨false,⟨#[]⟩,List.replicate p.fValue.toNat 0⟩)
 | 0,n+1,i,xs,h,hn,hx=>by
  have e2:decide ((i:Int) < p.fEntries)=false:=by simp;omega
  simp only [fn8_l1,fn8_b1,e2,cond_false,List.replicate_zero,List.append_nil]
 | m+1,n+1,i,xs,h,hn,hx=>by
  have e2:decide ((i:Int) < p.fEntries)=true:=by simp;omega
  have e3:(decide ((0:Int)≤p.fValue)&&decide (p.fValue≤p.fValue)&&decide ((1:Int) * p.fValue≤281474976710656)&&decide (p.fValue≤9223372036854775807))=true:=by simp;omega
  have e4:decide ((xs.length+1) * 48≤140737488355328∧xs.length+1≤9223372036854775807)=true:=by simp;omega
  have e5:IntKind.i64.wrap ((i:Int)+1)=((i+1:Nat):Int):=by rw [w64 (by omega)];rfl
  simp only [fn8_l1,fn8_b1,e2,e3,e4,e5,cond_true]
  rw [ref_new_l p hE hV hV2 m n (i+1) _ (by omega) (by omega) (by simp [hx]),List.append_assoc]
  rfl
theorem new_both (p:MSpec):(∃e,fn7 30000 p=some (.inl e)∧fn8 30000 p=some (.inl e)) ∨
  (p.fKind=2∧(1≤p.fKey∧p.fKey≤64)∧(1≤p.fValue∧p.fValue≤1024)∧(1≤p.fEntries∧p.fEntries≤1024) ∧
   fn7 30000 p=some (.inr (List.replicate p.fEntries.toNat ⟨false,List.replicate p.fValue.toNat 0⟩,2,p.fKey,p.fValue,p.fEntries,[],0)) ∧
   fn8 30000 p=some (.inr (2,p.fKey,p.fValue,p.fEntries,List.replicate p.fEntries.toNat ⟨false,⟨#[]⟩,List.replicate p.fValue.toNat 0⟩,0))):=by
 have hs:=spec_same p
 by_cases h0:fn23 p=0
 ·by_cases h2:p.fKind=2
  ·obtain ⟨kd,K,V,E⟩:=p
   have h2':kd=2:=h2
   subst h2'
   have h0':=h0
   rw [spec_hash] at h0'
   have hb:(1≤K∧K≤64)∧(1≤V∧V≤1024)∧(1≤E∧E≤1024):=by
    cases h3:decide (1≤K)&&decide (K≤64) with
    | false=>rw [h3] at h0';cases h0'
    | true =>
    cases h4:decide (1≤V)&&decide (V≤1024) with
    | false=>rw [h3,h4] at h0';cases h0'
    | true =>
    cases h5:decide (1≤E)&&decide (E≤1024) with
    | false=>rw [h3,h4,h5] at h0';cases h0'
    | true=>simp only [Bool.and_eq_true,decide_eq_true_eq] at h3 h4 h5;exact ⟨h3,h4,h5⟩
   obtain ⟨b1,b2,b3⟩:=hb
   refine .inr ⟨rfl,b1,b2,b3,new_ok (by omega) b1 b2 b3,?_⟩
   have e1:=ref_new_l ⟨2,K,V,E⟩ (by show E≤_;omega) (by show 0≤V;omega) (by show V≤_;omega) E.toNat 30000 0 [] (by show _=E;omega) (by omega) rfl
   rw [show ((0:Nat):Int)=0 from rfl] at e1
   simp only [fn8,← hs,h0,e1,bne_self_eq_false,cond_false,Option.bind_some,fn8_k1,List.nil_append]
  refine .inl ⟨9,?_,?_⟩
  ·have e:(p.fKind == 2)=false:=by simpa using h2
   simp only [fn7,fn21,fn22,fn24,h0,e,beq_self_eq_true,Bool.not_true,Bool.not_false,cond_false,cond_true,frk2,fn52]
  have e:(p.fKind != 2)=true:=by simpa using h2
  simp only [fn8,← hs,h0,e,bne_self_eq_false,cond_false,cond_true]
 refine .inl ⟨fn23 p,?_,?_⟩
 ·have e:(fn23 p == 0)=false:=by simpa using h0
  simp only [fn7,fn21,fn22,fn24,e,Bool.not_false,cond_true,frk2,fn52]
 have e:(fn23 p != 0)=true:=by simpa using h0
 simp only [fn8,← hs,e,cond_true]
theorem gt_rep {α:Type} [Inhabited α] {n:Nat} {x:α} {i:Int} (h:inb i n=true):gt (List.replicate n x) i=x:=by
 have:=inb_iff.1 h
 have h2:i.toNat < n:=by omega
 unfold gt
 rw [List.getD_eq_getElem?_getD,List.getElem?_replicate,if_pos h2];rfl
theorem Rl.init (E V:Nat) {K:Int} (hK:K≤1000):Rl E V K (List.replicate E ⟨false,List.replicate V 0⟩) [] (List.replicate E ⟨false,⟨#[]⟩,List.replicate V 0⟩):=by
 refine ⟨by simp,by simp,fun i hi=>?_,fun i hi=>?_,by simp [KND],fun k h=>by simp [mhas,mfind] at h,fun i hi h=>?_,fun k h=>by simp [mhas,mfind] at h,fun i hi=>?_,hK⟩
 ·rw [gt_rep hi,gt_rep hi];exact ⟨rfl,rfl⟩
 ·rw [gt_rep hi];simp
 ·rw [gt_rep hi] at h;cases h
 rw [gt_rep hi];exact Nat.zero_le _
theorem great_l {p1:List DoK} (hb:∀x∈p1,x.fKey.2.length≤140737488351232∧x.fB.2.length≤140737488351232) (hl:p1.length≤300):∀(m n i:Nat) (x:Int),m+i=p1.length→m < n→0≤x →
  ∃r,fn5_l1 p1 n x (i:Int)=some r∧(r≤300→x≤300∧∀j:Nat,i≤j→j < p1.length→(gt p1 (j:Int)).fKey.2.length≤20000∧(gt p1 (j:Int)).fB.2.length≤20000)
 | 0,n+1,i,x,h,hn,hx=>by
  have e2:decide ((i:Int) < (p1.length:Int))=false:=by simp;omega
  refine ⟨x,by simp only [fn5_l1,fn5_b1,e2,Bool.false_and,cond_false],fun hr=>⟨hr,fun j h1 h2=>by omega⟩⟩
 | m+1,n+1,i,x,h,hn,hx=>by
  have e2:decide ((i:Int) < (p1.length:Int))=true:=by simp;omega
  by_cases h3:x≤300
  ·have e3:decide (x≤300)=true:=by simpa using h3
   have e4:inb (i:Int) p1.length=true:=inb_iff.2 ⟨by omega,by omega⟩
   have e5:IntKind.i64.wrap ((i:Int)+1)=((i+1:Nat):Int):=by rw [w64 (by omega)];rfl
   obtain ⟨b1,b2⟩:=hb _ (gt_mem e4)
   have e6:((((gt p1 (i:Int)).fKey.2).length:Int)+(((gt p1 (i:Int)).fB.2).length:Int)).tdiv 40=((((gt p1 (i:Int)).fKey.2).length+((gt p1 (i:Int)).fB.2).length) / 40:Nat):=by
    rw [Int.tdiv_eq_ediv_of_nonneg (by omega)];omega
   have e7:IntKind.i64.wrap ((((gt p1 (i:Int)).fKey.2).length:Int)+(((gt p1 (i:Int)).fB.2).length:Int))=(((gt p1 (i:Int)).fKey.2).length:Int)+(((gt p1 (i:Int)).fB.2).length:Int):=w64 (by omega)
   obtain ⟨r,hr,hq⟩:=great_l hb hl m n (i+1) (x+((((gt p1 (i:Int)).fKey.2).length+((gt p1 (i:Int)).fB.2).length) / 40:Nat)) (by omega) (by omega) (by omega)
   refine ⟨r,?_,fun hr3=>?_⟩
   ·simp only [fn5_l1,fn5_b1,e2,e3,e4,e5,e6,e7,Bool.and_self,cond_true]
    rw [w64 (n:=(((((gt p1 (i:Int)).fKey.2).length+((gt p1 (i:Int)).fB.2).length) / 40:Nat):Int)) (by omega),w64 (by omega)]
    exact hr
   obtain ⟨q1,q2⟩:=hq hr3
   refine ⟨h3,fun j h1 h2=>?_⟩
   by_cases hj:j=i
   ·subst hj;omega
   exact q2 j (by omega) h2
  have e3:decide (x≤300)=false:=by simpa using h3
  exact ⟨x,by simp only [fn5_l1,fn5_b1,e2,e3,Bool.and_false,cond_false],fun hr=>absurd hr h3⟩
theorem great_ok {p0:MSpec} {p1:List DoK} (hb:∀x∈p1,x.fKey.2.length≤140737488351232∧x.fB.2.length≤140737488351232) :
  ∃b,fn5 30000 p0 p1=some b∧(b=false→p1.length≤300∧∀j:Nat,j < p1.length→(gt p1 (j:Int)).fKey.2.length≤20000∧(gt p1 (j:Int)).fB.2.length≤20000):=by
 by_cases hl:p1.length≤300
 ·obtain ⟨r,hr,hq⟩:=great_l hb hl p1.length 30000 0 (p1.length:Int) (by omega) (by omega) (by omega)
  rw [show ((0:Nat):Int)=0 from rfl] at hr
  refine ⟨_,by simp only [fn5,hr,Option.bind_some,fn5_k1];rfl,fun h=>⟨hl,?_⟩⟩
  simp only [Bool.or_eq_false_iff,decide_eq_false_iff_not] at h
  exact fun j hj=>(hq (by omega)).2 j (Nat.zero_le _) hj
 have e3:decide ((p1.length:Int)≤300)=false:=by simp;omega
 have e4:decide ((300:Int) < (p1.length:Int))=true:=by simp;omega
 have hr:fn5_l1 p1 30000 (p1.length:Int) 0=some (p1.length:Int):=by
  show fn5_b1 p1 (fn5_l1 p1 29999) (p1.length:Int) 0=_
  simp only [fn5_b1,e3,Bool.and_false,cond_false]
 exact ⟨true,by simp only [fn5,hr,Option.bind_some,fn5_k1,e4,Bool.true_or],fun h=>by cases h⟩
section
variable {F E V:Nat} {K:Int} {c0:List HCell} {q0:List (ByteArray×Int)} {f0:List RPlace}
theorem deeds_l {p1:List DoK} (hF:30000≤F) (hV:V≤2000) (hE:E≤2000) (hl:p1.length≤300) (hd:∀j:Nat,j < p1.length→(gt p1 (j:Int)).fKey.2.length≤20000∧(gt p1 (j:Int)).fB.2.length≤20000) (EE kd:Int):∀(m n i:Nat) (c:List HCell) (q:List (ByteArray×Int)) (f:List RPlace),m+i=p1.length→m < n→Rl E V K c q f →
  ∃c' q' f',fn3_l1 F p1 (c0,2,K,(V:Int),EE,q0,0) (kd,K,(V:Int),EE,f0,0) n c q f (i:Int)=some (.inl (c',q',f'))∧Rl E V K c' q' f'
 | 0,n+1,i,c,q,f,h,hn,hR=>by
  have e2:decide ((i:Int) < (p1.length:Int))=false:=by simp;omega
  exact ⟨c,q,f,by simp only [fn3_l1,fn3_b1,e2,cond_false],hR⟩
 | m+1,n+1,i,c,q,f,h,hn,hR=>by
  have e2:decide ((i:Int) < (p1.length:Int))=true:=by simp;omega
  have e4:inb (i:Int) p1.length=true:=inb_iff.2 ⟨by omega,by omega⟩
  have e5:IntKind.i64.wrap ((i:Int)+1)=((i+1:Nat):Int):=by rw [w64 (by omega)];rfl
  obtain ⟨d1,d2⟩:=hd i (by omega)
  obtain ⟨c1,q1,f1,hs,hR1⟩:=step_ok (F:=F) (a:=2) (S:=⟨kd,K,(V:Int),EE⟩) hR rfl rfl hV hE hF EE ⟨(gt p1 (i:Int)).fWhat,(gt p1 (i:Int)).fKey.2,(gt p1 (i:Int)).fB.2,(gt p1 (i:Int)).fFlags,(gt p1 (i:Int)).fPlace,(gt p1 (i:Int)).fOff⟩ d1 d2
  obtain ⟨c2,q2,f2,hr,hR2⟩:=deeds_l hF hV hE hl hd EE kd m n (i+1) c1 q1 f1 (by omega) (by omega) hR1
  refine ⟨c2,q2,f2,?_,hR2⟩
  simp only [fn3_l1,fn3_b1,e2,e4,e5,hs,cond_true,cond_false,Option.bind_some,Bool.not_true]
  exact hr
theorem vals_l {p0:MSpec} {c:List HCell} {q:List (ByteArray×Int)} {f:List RPlace} (hF:30000≤F) (hV:V≤2000) (hE:E≤2000) (hp:p0.fEntries=(E:Int)) (hR:Rl E V K c q f) (EE kd:Int):∀(m n i:Nat),m+i=E→m < n →
  fn3_l2 F p0 (c0,2,K,(V:Int),EE,q0,0) (kd,K,(V:Int),EE,f0,0) c q f n (i:Int)=some (.inl ())
 | 0,n+1,i,h,hn=>by
  have e2:decide ((i:Int) < p0.fEntries)=false:=by rw [hp];simp;omega
  simp only [fn3_l2,fn3_b2,e2,cond_false]
 | m+1,n+1,i,h,hn=>by
  have e2:decide ((i:Int) < p0.fEntries)=true:=by rw [hp];simp;omega
  have e5:IntKind.i64.wrap ((i:Int)+1)=((i+1:Nat):Int):=by rw [w64 (by omega)];rfl
  have hva:(valAt c (i:Int)).1.length≤20000:=Nat.le_trans (valAt_len hR) (by omega)
  simp only [fn3_l2,fn3_b2,e2,e5,val_all hR (show V≤1000000 by omega),ref_val hR (show V≤1000000 by omega),same_eq hF hva,cond_true,cond_false,Option.bind_some,Bool.not_true]
  exact vals_l hF hV hE hp hR EE kd m n (i+1) (by omega) (by omega)
theorem ends_ok {c:List HCell} {q:List (ByteArray×Int)} {f:List RPlace} (hE:E≤2000) (hR:Rl E V K c q f) (EE kd:Int) :
  fn3_k2 30000 (c0,2,K,(V:Int),EE,q0,0) (kd,K,(V:Int),EE,f0,0) c q f=some true:=by
 obtain ⟨L,k1,k2,k3,k4⟩:=keys_both (F:=30000) (a:=2) (S:=⟨kd,K,(V:Int),EE⟩) hR (by omega) (by omega) (V:Int) EE
 simp only [fn3_k2,k1,k2,apR_eq k3 k4,rows_eq (show 30000≤30000 by omega) k3 k4,awake,cond_true,Option.bind_some,Bool.and_self]
end
theorem hashLives_plain (p0:MSpec) (p1:List DoK) (hb:∀x∈p1,x.fKey.2.length≤140737488351232∧x.fB.2.length≤140737488351232):fn3 30000 p0 p1=some true:=by
 obtain ⟨b,hg,hq⟩:=great_ok (p0:=p0) hb
 simp only [fn3,hg,Option.bind_some]
 cases b with
 | true=>simp only [cond_true,awake,Option.bind_some]
 | false =>
  obtain ⟨hl,hd⟩:=hq rfl
  simp only [cond_false]
  rcases new_both p0 with ⟨e,h1,h2⟩ | ⟨hk,⟨k1,k2⟩,⟨v1,v2⟩,⟨n1,n2⟩,h1,h2⟩
  ·simp only [h1,h2,frk2,bne_self_eq_false,cond_false,awake,Option.bind_some]
  have eV:p0.fValue=((p0.fValue.toNat:Nat):Int):=by omega
  have eE:p0.fEntries=((p0.fEntries.toNat:Nat):Int):=by omega
  have hR0:=Rl.init p0.fEntries.toNat p0.fValue.toNat (K:=p0.fKey) (by omega)
  simp only [h1,h2,frk2,bne_self_eq_false,cond_false]
  have h3:=deeds_l (F:=30000) (c0:=List.replicate p0.fEntries.toNat ⟨false,List.replicate p0.fValue.toNat 0⟩) (q0:=[]) (f0:=List.replicate p0.fEntries.toNat ⟨false,⟨#[]⟩,List.replicate p0.fValue.toNat 0⟩) (by omega) (by omega) (by omega) hl hd p0.fEntries 2 p1.length 30000 0 _ _ _ (by omega) (by omega) hR0
  obtain ⟨c,q,f,h3,hR⟩:=h3
  have h4:=vals_l (F:=30000) (p0:=p0) (c0:=List.replicate p0.fEntries.toNat ⟨false,List.replicate p0.fValue.toNat 0⟩) (q0:=[]) (f0:=List.replicate p0.fEntries.toNat ⟨false,⟨#[]⟩,List.replicate p0.fValue.toNat 0⟩) (by omega) (by omega) (by omega) eE hR p0.fEntries 2 p0.fEntries.toNat 30000 0 (by omega) (by omega)
  have h5:=ends_ok (c0:=List.replicate p0.fEntries.toNat ⟨false,List.replicate p0.fValue.toNat 0⟩) (q0:=[]) (f0:=List.replicate p0.fEntries.toNat ⟨false,⟨#[]⟩,List.replicate p0.fValue.toNat 0⟩) (by omega) hR p0.fEntries 2
  rw [show ((0:Nat):Int)=0 from rfl,← eV] at h3 h4
  rw [← eV] at h5
  simp only [h3,Option.bind_some,fn3_k1,h4,h5]
def zipD:List Do→List Sl→List DoK
 | y::ys,h1::h2::hl=>⟨y.fWhat,(h1,y.fKey),(h2,y.fB),y.fFlags,y.fPlace,y.fOff⟩::zipD ys hl
 | _,_=>[]
def kidsD:List Do→List (List Int)
 | []=>[]
 | y::ys=>y.fKey::y.fB::kidsD ys
def mkPv:Nat→List Do→List (Nat×SV)→List (Nat×SV)
 | i,y::ys,(_,k)::(_,b)::kv=>(i,.ag [vi y.fWhat,k,b,.v (.int .u64 y.fFlags),vi y.fPlace,vi y.fOff])::mkPv (i+1) ys kv
 | _,_,_=>[]
def kidV:List (Nat×SV)→Nat→Option (List (Nat×SV))
 | [],_=>some []
 | (_,.ag [_,k,b,_,_,_])::r,j=>match kidV r (j+2) with
  | some l=>some ((j,k)::(j+1,b)::l)
  | none=>none
 | _,_=>none
def pDo (ys:List Do):HW.Loc→List Value→Blocks→Prop:=fun l _ f=>∃hl Hs rs,l.len=ys.length∧hl.length=(kidsD ys).length∧OwnL DoK.E.toEn 39 l.sp l.cap (zipD ys hl) Hs∧InAll (Et.int .u8).toEn 5 hl (kidsD ys) rs∧f=Hs++rs.flatten
theorem evSp_gen {ρ:Env} {L:SL} (hD:DensL ρ L):∀{ps:List (Nat×Operand)} {pv:List (Nat×SV)} {vals:List Value} {i:Nat},evSp L ps=some pv→vals.length=pv.length →
  (∀(k:Nat) (p:Nat×SV),pv[k]?=some p→p.1=i+k∧∃v,vals[k]?=some v∧p.2.den ρ=some v)→evp (realL ρ L) ps=some ((List.range' i vals.length).zip vals)
 | [],pv,vals,i,h,hn,hq=>by
  cases h
  have:vals=[]:=List.eq_nil_of_length_eq_zero hn
  subst this;rfl
 | (j,x)::ps,pv,vals,i,h,hn,hq=>by
  simp only [evSp] at h;split at h
  ·rename_i v vs h1 h2;cases h
   cases vals with
   | nil=>simp at hn
   | cons h0 vals =>
    obtain ⟨e1,h,e2,e3⟩:=hq 0 _ rfl
    simp at e2;subst e2
    obtain ⟨u,u1,u2⟩:=evS_ok hD h1
    simp only at e3 e1
    rw [e3] at u1;cases u1
    have:=evSp_gen hD (vals:=vals) (i:=i+1) h2 (by simpa using hn) (fun k p hk=>by
     obtain ⟨f1,hh,f2,f3⟩:=hq (k+1) p (by simpa using hk)
     exact ⟨by omega,hh,by simpa using f2,f3⟩)
    simp only [evp,u2,this,List.length_cons,List.range'_succ,List.zip_cons_cons]
    rw [e1];rfl
  cases h
theorem kidsD_len:∀ys,(kidsD ys).length=2 * ys.length
 | []=>rfl
 | y::ys=>by simp [kidsD,kidsD_len ys];omega
def aggD (x:DoK):Value:=.agg x.enc.toArray
theorem mkPv_ok {ρ:Env}:∀(ys:List Do) (kv:List (Nat×SV)) (hl:List Sl) (i:Nat),kv.length=2 * ys.length→hl.length=kv.length →
  (∀(k:Nat) (p:Nat×SV),kv[k]?=some p→∃h:Sl,hl[k]?=some h∧p.2.den ρ=some (.slice h.1 h.2.1 h.2.2)) →
  (zipD ys hl).length=ys.length∧(mkPv i ys kv).length=ys.length∧∀(k:Nat) (p:Nat×SV),(mkPv i ys kv)[k]?=some p→p.1=i+k∧∃v,((zipD ys hl).map aggD)[k]?=some v∧p.2.den ρ=some v
 | [],kv,hl,i,h1,h2,h3=>⟨by simp [zipD],by simp [mkPv],fun k p hk=>by simp [mkPv] at hk⟩
 | y::ys,[],hl,i,h1,h2,h3=>by simp at h1
 | y::ys,[_],hl,i,h1,h2,h3=>by simp at h1;omega
 | y::ys,(j1,k)::(j2,b)::kv,[],i,h1,h2,h3=>by simp at h2
 | y::ys,(j1,k)::(j2,b)::kv,[_],i,h1,h2,h3=>by simp at h2
 | y::ys,(j1,k)::(j2,b)::kv,a1::a2::hl,i,h1,h2,h3=>by
  obtain ⟨q1,q2,q3⟩:=mkPv_ok (ρ:=ρ) ys kv hl (i+1) (by simp at h1;omega) (by simpa using h2) (fun k p hk=>h3 (k+2) p (by simpa using hk))
  refine ⟨by simp [zipD,q1],by simp [mkPv,q2],fun n p hn=>?_⟩
  cases n with
  | zero =>
   simp [mkPv] at hn;subst hn
   obtain ⟨g1,e1,d1⟩:=h3 0 _ rfl
   obtain ⟨g2,e2,d2⟩:=h3 1 _ rfl
   simp at e1 e2;subst e1;subst e2
   refine ⟨rfl,_,rfl,?_⟩
   have hd:SV.dens ρ [vi y.fWhat,k,b,.v (.int .u64 y.fFlags),vi y.fPlace,vi y.fOff]=some (DoK.enc ⟨y.fWhat,(a1,y.fKey),(a2,y.fB),y.fFlags,y.fPlace,y.fOff⟩) :=
    dens_cons_some.2 ⟨[.int .i64 y.fWhat],_,deni_of (by rw [SV.den]),dens_cons_some.2 ⟨[_],_,deni_of d1,dens_cons_some.2 ⟨[_],_,deni_of d2,dens_cons_some.2 ⟨[.int .u64 y.fFlags],_,deni_of (by rw [SV.den]),dens_cons_some.2 ⟨[.int .i64 y.fPlace],_,deni_of (by rw [SV.den]),dens_cons_some.2 ⟨[.int .i64 y.fOff],_,deni_of (by rw [SV.den]),dens_nil,rfl⟩,rfl⟩,rfl⟩,rfl⟩,rfl⟩,rfl⟩
   show SV.den ρ (.ag _)=_
   rw [SV.den,hd];rfl
  | succ n =>
   obtain ⟨e1,v,e2,e3⟩:=q3 n p (by simpa [mkPv] using hn)
   exact ⟨by omega,v,by simpa [zipD] using e2,e3⟩
def kdF (ys:List Do):EvF:=fun b L H n op=>match op with
 | .buildSlice X m ps=>match evSp L ps.toList,lk b.t.und X with
  | some pv,some (.slice A)=>match lk b.t.siz A,lk b.z.z A,kidV pv 0 with
   | some sz,some zi,some kv=>match gatL (Et.int .u8) 5 kv (kidsD ys) 0 H with
    | some (cs,H')=>bif Nat.beq A 39&&Nat.beq sz 6&&Nat.beq (sizeI zi) 6&&Nat.beq ys.length m&&Nat.ble (m * 6) 16777216 then some ((pv=mkPv 0 ys kv)::cs,some (.sl n),(n,.ex (pDo ys) [])::H',n+1) else none
    | none=>none
   | _,_,_=>none
  | _,_=>none
 | _=>none
theorem kdF_ok {c:C4} {ys:List Do}:EvOk c (kdF ys):=by
 intro b L H n op cs r H' n' hB h hc dst T pos af g hdr hd
 unfold kdF at h
 split at h
 ·rename_i X m ps;split at h
  ·rename_i pv A hp hX;split at h
   ·rename_i sz zi kv hs hz hkv;split at h
    ·rename_i cs1 H1 hg
     cases hb:Nat.beq A 39&&Nat.beq sz 6&&Nat.beq (sizeI zi) 6&&Nat.beq ys.length m&&Nat.ble (m * 6) 16777216 with
     | false=>rw [hb] at h;cases h
     | true =>
      rw [hb,cond_true] at h;cases h
      simp only [Bool.and_eq_true] at hb
      obtain ⟨⟨⟨⟨b0,b1⟩,b2⟩,b3⟩,b5⟩:=hb
      have b0:=Nat.eq_of_beq_eq_true b0;subst b0
      have b1:=Nat.eq_of_beq_eq_true b1;subst b1
      have b2:=Nat.eq_of_beq_eq_true b2
      have b3:=Nat.eq_of_beq_eq_true b3
      obtain ⟨hpv,hc⟩:=allP_cons' hc
      cases dst with
      | none=>simp at hdr
      | some d =>
       refine ⟨rfl,OT.ofTX hd fun ρ F Fx o Lr hLr Q hk=>?_⟩
       obtain ⟨zv,zvs,z1,z2,z3⟩:=hB.z.z.mem _ (lk_mem hz)
       have hzs:zv.cells.size=DoK.E.toEn.sz:=by rw [z2,List.size_toArray,dens_size z3,b2];rfl
       obtain ⟨hl,rs,F',q1,q2,q3,q4,q5,q6⟩:=gatL_ok hg hc o.reps
       obtain ⟨m1,m2,m3⟩:=mkPv_ok (ρ:=ρ) ys kv hl 0 (by rw [← q5,kidsD_len]) q4 (fun k p hk=>(q6 k p hk).2)
       have hev:=evSp_gen (vals:=(zipD ys hl).map aggD) (i:=0) o.dens hp (by rw [hpv,m2,List.length_map,m1]) (by rw [hpv];exact m3)
       have ep:ps=ps.toList.toArray:=by simp
       rw [ep]
       have hfl:((zipD ys hl).map aggD).flatMap (fun v=>v.cells.toList)=(zipD ys hl).flatMap DoK.E.toEn.enc:=by
        rw [List.flatMap_map];rfl
       have hal:(((zipD ys hl).map aggD).all fun v=>Nat.beq v.cells.toList.length 6)=true:=by
        rw [List.all_eq_true];intro v hv
        obtain ⟨h,_,rfl⟩:=List.mem_map.1 hv;rfl
       refine TX.permL (H':=⟨[],rs.flatten::(F'++Fx)⟩) ?_ (TX.buildS (N:=DoK.E.toEn) (ys:=zipD ys hl) (E:=[]) (S:=rs.flatten::(F'++Fx)) (hB.t.und.mem _ (lk_mem hX)) (hB.t.siz.mem _ (lk_mem hs)) z1 hzs (evp_ext hLr hev) (by rw [m1,b3]) b5 (fillS _ (by simp) (by simp [m1,b3]) hal hfl) hd (fun sp Hs ho=>?_))
       ·simp only [Hp.all,List.nil_append,List.flatten_append,List.flatten_cons]
        rw [← List.append_assoc]
        exact List.Perm.append_right _ q3.symm
       have:=hk (ρ.set n ⟨sp,m,m⟩) ((Hs++rs.flatten)::F') _ (Env.set_grow o.fr) (by rw [Option.getD_some,SV.den,Env.set_self];rfl) (Env.set_row q2 o.fr ⟨⟨sp,m,m⟩,[],Env.set_self,dens_nil,hl,Hs,rs,b3.symm,by rw [q4,q5],ho,q1,rfl⟩)
       refine TO.perm ?_ this
       simp [Hp.all]
    cases h
   cases h
  cases h
 cases h
theorem ownRd {α:Type} {N:En α} {e:TypeId} {w:World} {cap:Nat} {sp:Option Addr} {xs:List α} {Hs:Blocks} (h:OwnL N e sp cap xs Hs) (hm:∀p∈Hs,w.heap[p.1]?=some p.2):RdS N w sp xs:=by
 rcases h with ⟨rfl,rfl,rfl,rfl⟩ | ⟨g,cur,rfl,⟨fz,hfz,rfl⟩,h1,h2,h3,h4⟩
 ·exact .nil _ _ _
 refine ⟨by omega,.inr ⟨_,rfl,rfl,fun k x hk j v hj=>?_⟩⟩
 have hb:w.heap[g]?=some (.cells cur e fz):=hm (g,.cells cur e fz) (by simp)
 have hf:=flat_get N xs k j x v hk hj
 rw [← h4,List.getElem?_take] at hf
 split at hf
 ·simp [World.cell?,hb];simpa using hf
 cases hf
theorem kids_rd {w:World}:∀{ys:List Do} {hl:List Sl} {rs:List Blocks},InAll (Et.int .u8).toEn 5 hl (kidsD ys) rs→(∀p∈rs.flatten,w.heap[p.1]?=some p.2) →
  ∀x∈zipD ys hl,∀k∈DoK.K x,RdS k.N.toEn w k.sl.1 k.xs∧k.xs.length=k.sl.2.1∧k.xs.length≤k.sl.2.2
 | [],hl,rs,h,hm,x,hx=>by simp [zipD] at hx
 | y::ys,h1::h2::hl,r1::r2::rs,h,hm,x,hx=>by
  obtain ⟨⟨a1,a2⟩,⟨a3,a4⟩,h⟩:=h
  rcases List.mem_cons.1 hx with rfl | hx
  ·intro k hk
   simp only [DoK.K,List.mem_cons,List.not_mem_nil,or_false] at hk
   rcases hk with rfl | rfl
   ·exact ⟨ownRd a1 (fun p hp=>hm p (by simp [hp])),a2,OwnL.le_cap a1⟩
   exact ⟨ownRd a3 (fun p hp=>hm p (by simp [hp])),a4,OwnL.le_cap a3⟩
  exact kids_rd h (fun p hp=>hm p (by simp only [List.flatten_cons,List.mem_append];exact .inr (.inr hp))) x hx
 | _::_,[],_,h,_,_,_=>by simp [InAll,kidsD] at h
 | _::_,[_],rs,h,_,_,_=>by cases rs <;> simp [InAll,kidsD] at h
 | _::_,_::_::_,[],h,_,_,_=>by simp [InAll,kidsD] at h
 | _::_,_::_::_,[_],h,_,_,_=>by simp [InAll,kidsD] at h
theorem zipD_ok:∀{ys:List Do} {hl:List Sl} {P:List Int→Prop},(∀y∈ys,P y.fKey∧P y.fB)→∀x∈zipD ys hl,P x.fKey.2∧P x.fB.2
 | [],hl,P,h,x,hx=>by simp [zipD] at hx
 | y::ys,[],P,h,x,hx=>by simp [zipD] at hx
 | y::ys,[_],P,h,x,hx=>by simp [zipD] at hx
 | y::ys,h1::h2::hl,P,h,x,hx=>by
  rcases List.mem_cons.1 hx with rfl | hx
  ·exact h y (by simp)
  exact zipD_ok (fun y hy=>h y (by simp [hy])) x hx
theorem zipD_len:∀{ys:List Do} {hl:List Sl},hl.length=(kidsD ys).length→(zipD ys hl).length=ys.length
 | [],hl,h=>by simp [zipD]
 | y::ys,[],h=>by simp [kidsD] at h
 | y::ys,[_],h=>by simp [kidsD] at h
 | y::ys,h1::h2::hl,h=>by simp [zipD,zipD_len (ys:=ys) (hl:=hl) (by simpa [kidsD] using h)]
theorem Ret.drop {P:Program} {f:FuncId} {args:List Value} {w:World} {post:Value→Hp→Prop} {R:Hp} (h:Ret P f args w Hp.nil fun v R=>post v R∧R=Hp.nil):Ret P f args w R fun v R'=>post v Hp.nil∧R'=Hp.nil :=
 Calls.mono h fun e w' ⟨v,R',he,hf,hp,hR⟩=>⟨v,Hp.nil,he,⟨⟨hf.ext.os,hf.ext.tape,hf.ext.output,hf.ext.size,fun k hk hn=>hf.ext.same k hk (by simp [Hp.all])⟩,by simp [Hp.all],fun p hp=>by simp [Hp.all] at hp,fun p hp=>by simp [Hp.all] at hp⟩,hR▸hp,rfl⟩
def fn3L (p0:MSpec) (ys:List Do):Option Bool:=bif ys.all (fun y=>decide (y.fKey.length≤100000)&&decide (y.fB.length≤100000)) then some true else none
theorem c3L (p0:MSpec) (ys:List Do) (r:Bool) (h:fn3L p0 ys=some r):Con Tryz.prog 3 [.ag [vb p0.fKind,vi p0.fKey,vi p0.fValue,vi p0.fEntries],.sl 0] [(0,.ex (pDo ys) [])] 1 (.v (.bool r)) [] 1:=by
 have hk:(∀y∈ys,y.fKey.length≤140737488351232∧y.fB.length≤140737488351232)∧r=true:=by
  unfold fn3L at h
  cases hd:ys.all (fun y=>decide (y.fKey.length≤100000)&&decide (y.fB.length≤100000)) with
  | true =>
   rw [hd,cond_true] at h
   refine ⟨fun y hy=>?_,(Option.some.inj h).symm⟩
   have:=List.all_eq_true.1 hd y hy
   simp only [Bool.and_eq_true,decide_eq_true_eq] at this
   omega
  | false=>rw [hd] at h;cases h
 obtain ⟨hk,rfl⟩:=hk
 intro w ρ F vs ha hr hf hh hnd gl
 obtain ⟨f1,F2,rfl,⟨⟨sp,cap,len⟩,vs0,q1,q2,hl,Hs,rs,d1,d2,d3,d4,rfl⟩,hF⟩:=hr
 have hF:F2=[]:=hF
 subst hF
 have d1:len=ys.length:=d1
 have hz:=zipD_len d2
 have hc:=c3 30000 p0 (zipD ys hl) true (hashLives_plain _ _ (zipD_ok (P:=fun l=>l.length≤140737488351232) hk)) w ρ [[]] vs ha
  ⟨[],[],rfl,⟨sp,cap,by rw [q1,d1,hz],rfl,OwnL.le_cap d3,(ownRd d3 (fun p hp=>hh p (by simp [hp]))).rdf,fun x hx k hk=>by
   obtain ⟨e1,e2,e3⟩:=kids_rd d4 (fun p hp=>hh p (by
    simp only [List.flatten_cons,List.flatten_nil,List.append_nil,List.mem_append];exact .inr hp)) x hx k hk
   exact ⟨e1.rdf,e2,e3⟩⟩,rfl⟩ hf (fun p hp=>by simp at hp) (by simp) (fun _ _=>trivial)
 have h0:Ret Tryz.prog 3 vs w Hp.nil fun v R=>v=.bool true∧R=Hp.nil:=by
  refine Ret.mono (Ret.allEq (R:=⟨[],[[]]⟩) (by simp [Hp.all]) hc) ?_
  rintro v R' ⟨c,ρ',F',rfl,_,hv,hR⟩
  rw [SV.den] at hv;cases hv
  have hR:F'=[]:=hR
  subst hR
  exact ⟨rfl,rfl⟩
 refine Ret.mono (Ret.drop h0) ?_
 rintro v R' ⟨rfl,rfl⟩
 exact post0 hf
def fn3N (p0:MSpec):Option Bool:=some true
theorem c3N (p0:MSpec) (r:Bool) (h:fn3N p0=some r):Con Tryz.prog 3 [.ag [vb p0.fKind,vi p0.fKey,vi p0.fValue,vi p0.fEntries],.v (.slice none 0 0)] [] 0 (.v (.bool r)) [] 0:=by
 obtain rfl:=Option.some.inj h
 intro w ρ F vs ha hr hf hh hnd gl
 have hF:F=[]:=hr
 subst hF
 have hv:vs=[.agg #[.int .u8 p0.fKind,.int .i64 p0.fKey,.int .i64 p0.fValue,.int .i64 p0.fEntries],.slice none 0 0]:=by
  have e:SV.dens ρ [.ag [vb p0.fKind,vi p0.fKey,vi p0.fValue,vi p0.fEntries],.v (.slice none 0 0)]=some [.agg #[.int .u8 p0.fKind,.int .i64 p0.fKey,.int .i64 p0.fValue,.int .i64 p0.fEntries],.slice none 0 0]:=by
   simp [dens_nil,dens_cons,SV.den,SV.deni]
  rw [e] at ha;exact (Option.some.inj ha).symm
 subst hv
 have hc:=c3 30000 p0 [] true (hashLives_plain _ _ (fun x hx=>by simp at hx)) w (fun t=>([⟨none,0,0⟩]:List HW.Loc)[t]?) [[]] _ (by first | rfl | simp [dens_nil,dens_cons,SV.den,SV.deni])
  ⟨[],[],rfl,⟨none,0,rfl,rfl,Nat.le_refl _,RdF.nil,fun x hx=>by simp at hx⟩,rfl⟩ (fun t ht=>List.getElem?_eq_none ht) (fun p hp=>by simp at hp) (by simp) (fun _ _=>trivial)
 refine Ret.mono (Ret.allEq (R:=⟨[],[[]]⟩) (by simp [Hp.all]) hc) ?_
 rintro v R' ⟨c,ρ',F',rfl,_,hv,hR⟩
 rw [SV.den] at hv;cases hv
 have hR:F'=[]:=hR
 subst hR
 exact post0 hf
end Go.Proofs.YteicbpfkljnemaaGreat
namespace Go.HW
def Ev.kD {c:C4} (ys:List Go.Proofs.YteicbpfkljnemaaGreat.Do):Ev c:=.ot (Go.Proofs.YteicbpfkljnemaaGreat.kdF ys) Go.Proofs.YteicbpfkljnemaaGreat.kdF_ok
end Go.HW
namespace Go.Proofs.YteicbpfkljnemaaGreat
open Go Go.HW
set_option maxRecDepth 40000
set_option maxHeartbeats 8000000
def fn38v1:Option (Int) :=
 frk1 (fn24v2 1) (fun v1=>some (v1))
theorem c38v1 (r:Int) (h:fn38v1=some r):ConO Tryz.prog 38 [.v (.pointer none)] [] 0 (.pan (.iface 29 (.int .i64 r)) [] 0):=by
 rw [fn38v1] at h
 refine ConO.of_body Tryz.func38 Tryz.ntmps38 fun w F0 ρ gl=>?_
 refine VL [(3,4,false)] 9 [.pn] (aC rfl aN) ?_
 refine fk1 h (fun v1 hv2 h=>?_)
 refine V0 0 ?_
 refine G4.imp Imp.refl ?_
 refine CX_ tbOk [] (c24v2_0 1 v1 hv2) (aK aN) ?_
 refine V0 0 ?_
 obtain rfl:=sj h
 exact TP_ []
theorem c38v1_0 (r:Int) (h:fn38v1=some r):ConX Tryz.prog 38 [.v (.pointer none)] [] 0 (.iface 29 (.int .i64 r)) [] 0:=c38v1 _ h
def fn47v1 (p1:List Int):Option (Int) :=
 frk1 fn38v1 (fun v1=>some (v1))
theorem c47v1 (p1:List Int) (r:Int) (h:fn47v1 p1=some r):ConO Tryz.prog 47 [.v (.pointer none),.sl 0] [(0,.rd (Et.int .u8) p1)] 1 (.pan (.iface 29 (.int .i64 r)) [] 1):=by
 rw [fn47v1] at h
 refine ConO.of_body Tryz.func47 Tryz.ntmps47 fun w F0 ρ gl=>?_
 refine V0 3 ?_
 refine fk1 h (fun v1 hv2 h=>?_)
 refine V0 0 ?_
 refine CX_ tbOk [] (c38v1_0 v1 hv2) (aK aN) ?_
 refine V0 0 ?_
 obtain rfl:=sj h
 exact TP_ [0]
theorem c47v1_0 (p1:List Int) (r:Int) (h:fn47v1 p1=some r):ConX Tryz.prog 47 [.v (.pointer none),.sl 0] [(0,.rd (Et.int .u8) p1)] 1 (.iface 29 (.int .i64 r)) [] 1:=c47v1 p1 _ h
def fn49v1 (p1:List Int):Option (Int) :=
 frk1 (fn47v1 p1) (fun v1=>some (v1))
theorem c49v1 (p1:List Int) (r:Int) (h:fn49v1 p1=some r):ConO Tryz.prog 49 [.p 0 0,.p 1 0] [(0,.cells 28 [.v (.pointer none)]),(1,.cells 36 [.sl 2]),(2,.rd (Et.int .u8) p1)] 3 (.pan (.iface 29 (.int .i64 r)) [(0,.cells 28 [.v (.pointer none)]),(1,.cells 36 [.sl 2])] 3):=by
 rw [fn49v1] at h
 refine ConO.of_body Tryz.func49 Tryz.ntmps49 fun w F0 ρ gl=>?_
 refine V0 3 ?_
 refine fk1 h (fun v1 hv2 h=>?_)
 refine V0 0 ?_
 refine CX_ tbOk [2] (c47v1_0 p1 v1 hv2) (aK aN) ?_
 refine V0 0 ?_
 obtain rfl:=sj h
 exact TP_ [0,1,2]
theorem c49v1_0 (p1:List Int) (r:Int) (h:fn49v1 p1=some r):ConX Tryz.prog 49 [.p 0 0,.p 1 0] [(0,.cells 28 [.v (.pointer none)]),(1,.cells 36 [.sl 2]),(2,.rd (Et.int .u8) p1)] 3 (.iface 29 (.int .i64 r)) [(0,.cells 28 [.v (.pointer none)]),(1,.cells 36 [.sl 2])] 3:=c49v1 p1 _ h
def fn45v3 (p0c1:List Int):Option (Int×Int) :=
 frk1 (fn49v1 p0c1) (fun v2=>some (((fn87 0 0 v2).2,(fn87 0 0 v2).1)))
theorem c45v3 (p0c1:List Int) (r:Int×Int) (h:fn45v3 p0c1=some r):ConO Tryz.prog 45 [.fn (.func 49) [] [.p 0 0,.p 1 0]] [(0,.cells 28 [.v (.pointer none)]),(1,.cells 36 [.sl 2]),(2,.rd (Et.int .u8) p0c1)] 3 (.ret (.tu [vi r.1,vi r.2]) [(0,.cells 28 [.v (.pointer none)]),(1,.cells 36 [.sl 2])] 3):=by
 rw [fn45v3] at h
 refine ConO.of_body Tryz.func45 Tryz.ntmps45 fun w F0 ρ gl=>?_
 refine V0 3 ?_
 refine DF_ (fun vs1=>?_)
 refine V0 1 ?_
 refine fk1 h (fun v2 hv3 h=>?_)
 refine V0 0 ?_
 refine CX_ tbOk [0,1,2] (c49v1_0 p0c1 v2 hv3) (aK aN) ?_
 refine V0 0 ?_
 obtain rfl:=sj h
 exact TDP_ tbOk Tryz.results45 5 [4,3] (c87 0 0 v2 _ rfl) [0,1,2]
theorem c45v3_0 (p0c1:List Int) (r:Int×Int) (h:fn45v3 p0c1=some r):Con Tryz.prog 45 [.fn (.func 49) [] [.p 0 0,.p 1 0]] [(0,.cells 28 [.v (.pointer none)]),(1,.cells 36 [.sl 2]),(2,.rd (Et.int .u8) p0c1)] 3 (.tu [vi r.1,vi r.2]) [(0,.cells 28 [.v (.pointer none)]),(1,.cells 36 [.sl 2])] 3:=c45v3 p0c1 _ h
def fn19v1 (p1:List Int):Option (Int×Int) :=
 frk1 (fn45v3 p1) (fun v1=>some ((v1.1,v1.2)))
theorem c19v1 (p1:List Int) (r:Int×Int) (h:fn19v1 p1=some r):Con Tryz.prog 19 [.v (.pointer none),.sl 0] [(0,.rd (Et.int .u8) p1)] 1 (.tu [vi r.1,vi r.2]) [] 1:=by
 rw [fn19v1] at h
 refine Con.of_body Tryz.func19 rfl Tryz.ntmps19 rfl fun w F0 ρ gl=>?_
 refine V0 5 ?_
 refine fk1 h (fun v1 hv2 h=>?_)
 refine V_ 1 [.cl true [1,2,0] (fun _=>c45v3_0 p1 v1 hv2)] (aK aN) ?_
 refine V0 4 ?_
 obtain rfl:=sj h
 exact T_ tbOk.t Tryz.results19 [0]
def fn37v1 (p1:Int):Option (Int) :=
 frk1 fn38v1 (fun v1=>some (v1))
theorem c37v1 (p1:Int) (r:Int) (h:fn37v1 p1=some r):ConO Tryz.prog 37 [.p 0 0,.p 1 0] [(0,.cells 28 [.v (.pointer none)]),(1,.cells 3 [vi p1])] 2 (.pan (.iface 29 (.int .i64 r)) [(0,.cells 28 [.v (.pointer none)]),(1,.cells 3 [vi p1])] 2):=by
 rw [fn37v1] at h
 refine ConO.of_body Tryz.func37 Tryz.ntmps37 fun w F0 ρ gl=>?_
 refine V0 2 ?_
 refine fk1 h (fun v1 hv2 h=>?_)
 refine V0 0 ?_
 refine CX_ tbOk [] (c38v1_0 v1 hv2) (aK aN) ?_
 refine V0 0 ?_
 obtain rfl:=sj h
 exact TP_ [0,1]
theorem c37v1_0 (p1:Int) (r:Int) (h:fn37v1 p1=some r):ConX Tryz.prog 37 [.p 0 0,.p 1 0] [(0,.cells 28 [.v (.pointer none)]),(1,.cells 3 [vi p1])] 2 (.iface 29 (.int .i64 r)) [(0,.cells 28 [.v (.pointer none)]),(1,.cells 3 [vi p1])] 2:=c37v1 p1 _ h
def fn36v1 (p0c1:Int):Option ((List Int)×Int) :=
 frk1 (fn37v1 p0c1) (fun v2=>some (((fn59 0 ([]:List Int) v2).2,(fn59 0 ([]:List Int) v2).1)))
theorem c36v1 (p0c1:Int) (r:(List Int)×Int) (h:fn36v1 p0c1=some r):ConO Tryz.prog 36 [.fn (.func 37) [] [.p 0 0,.p 1 0]] [(0,.cells 28 [.v (.pointer none)]),(1,.cells 3 [vi p0c1])] 2 (.ret (.tu [.sl 2,vi r.2]) [(0,.cells 28 [.v (.pointer none)]),(1,.cells 3 [vi p0c1]),(2,.row (Et.int .u8) 5 r.1 r.1.length .unk)] 3):=by
 rw [fn36v1] at h
 refine ConO.of_body Tryz.func36 Tryz.ntmps36 fun w F0 ρ gl=>?_
 refine V0 3 ?_
 refine DF_ (fun vs1=>?_)
 refine V0 1 ?_
 refine fk1 h (fun v2 hv3 h=>?_)
 refine V0 0 ?_
 refine CX_ tbOk [0,1] (c37v1_0 p0c1 v2 hv3) (aK aN) ?_
 refine V0 0 ?_
 refine G4.imp (Imp.nilC (Et.int .u8) 5 2 0 (by rfl) (by rfl) (by rfl)) ?_
 obtain rfl:=sj h
 exact TDP_ tbOk Tryz.results36 4 [3,2,5] (c59 0 ([]:List Int) v2 _ rfl) [0,1,6]
theorem c36v1_0 (p0c1:Int) (r:(List Int)×Int) (h:fn36v1 p0c1=some r):Con Tryz.prog 36 [.fn (.func 37) [] [.p 0 0,.p 1 0]] [(0,.cells 28 [.v (.pointer none)]),(1,.cells 3 [vi p0c1])] 2 (.tu [.sl 2,vi r.2]) [(0,.cells 28 [.v (.pointer none)]),(1,.cells 3 [vi p0c1]),(2,.row (Et.int .u8) 5 r.1 r.1.length .unk)] 3:=c36v1 p0c1 _ h
def fn10v1 (p1:Int):Option ((List Int)×Int) :=
 frk1 (fn36v1 p1) (fun v1=>some ((v1.1,v1.2)))
theorem c10v1 (p1:Int) (r:(List Int)×Int) (h:fn10v1 p1=some r):Con Tryz.prog 10 [.v (.pointer none),vi p1] [] 0 (.tu [.sl 0,vi r.2]) [(0,.row (Et.int .u8) 5 r.1 r.1.length .unk)] 1:=by
 rw [fn10v1] at h
 refine Con.of_body Tryz.func10 rfl Tryz.ntmps10 rfl fun w F0 ρ gl=>?_
 refine V0 5 ?_
 refine fk1 h (fun v1 hv2 h=>?_)
 refine V_ 1 [.cl true [0,1] (fun _=>c36v1_0 p1 v1 hv2)] (aK aN) ?_
 refine V0 4 ?_
 obtain rfl:=sj h
 exact T_ tbOk.t Tryz.results10 [2]
def fn46v1 (p1:List Int) (p2:List Int) (p3:Int):Option (Int) :=
 frk1 (fn47v1 p1) (fun v1=>some (v1))
theorem c46v1 (p1:List Int) (p2:List Int) (p3:Int) (r:Int) (h:fn46v1 p1 p2 p3=some r):ConO Tryz.prog 46 [.p 0 0,.p 1 0,.p 3 0,.p 5 0] [(0,.cells 28 [.v (.pointer none)]),(1,.cells 36 [.sl 2]),(2,.rd (Et.int .u8) p1),(3,.cells 36 [.sl 4]),(4,.rd (Et.int .u8) p2),(5,.cells 37 [.v (.int .u64 p3)])] 6 (.pan (.iface 29 (.int .i64 r)) [(0,.cells 28 [.v (.pointer none)]),(1,.cells 36 [.sl 2]),(3,.cells 36 [.sl 4]),(5,.cells 37 [.v (.int .u64 p3)])] 6):=by
 rw [fn46v1] at h
 refine ConO.of_body Tryz.func46 Tryz.ntmps46 fun w F0 ρ gl=>?_
 refine V0 3 ?_
 refine fk1 h (fun v1 hv2 h=>?_)
 refine V0 0 ?_
 refine CX_ tbOk [2] (c47v1_0 p1 v1 hv2) (aK aN) ?_
 refine V0 0 ?_
 obtain rfl:=sj h
 exact TP_ [0,1,2,3,4,5]
theorem c46v1_0 (p1:List Int) (p2:List Int) (p3:Int) (r:Int) (h:fn46v1 p1 p2 p3=some r):ConX Tryz.prog 46 [.p 0 0,.p 1 0,.p 3 0,.p 5 0] [(0,.cells 28 [.v (.pointer none)]),(1,.cells 36 [.sl 2]),(2,.rd (Et.int .u8) p1),(3,.cells 36 [.sl 4]),(4,.rd (Et.int .u8) p2),(5,.cells 37 [.v (.int .u64 p3)])] 6 (.iface 29 (.int .i64 r)) [(0,.cells 28 [.v (.pointer none)]),(1,.cells 36 [.sl 2]),(3,.cells 36 [.sl 4]),(5,.cells 37 [.v (.int .u64 p3)])] 6:=c46v1 p1 p2 p3 _ h
def fn45v4 (p0c1:List Int) (p0c2:List Int) (p0c3:Int):Option (Int×Int) :=
 frk1 (fn46v1 p0c1 p0c2 p0c3) (fun v2=>some (((fn87 0 0 v2).2,(fn87 0 0 v2).1)))
theorem c45v4 (p0c1:List Int) (p0c2:List Int) (p0c3:Int) (r:Int×Int) (h:fn45v4 p0c1 p0c2 p0c3=some r):ConO Tryz.prog 45 [.fn (.func 46) [] [.p 0 0,.p 1 0,.p 3 0,.p 5 0]] [(0,.cells 28 [.v (.pointer none)]),(1,.cells 36 [.sl 2]),(2,.rd (Et.int .u8) p0c1),(3,.cells 36 [.sl 4]),(4,.rd (Et.int .u8) p0c2),(5,.cells 37 [.v (.int .u64 p0c3)])] 6 (.ret (.tu [vi r.1,vi r.2]) [(0,.cells 28 [.v (.pointer none)]),(1,.cells 36 [.sl 2]),(3,.cells 36 [.sl 4]),(5,.cells 37 [.v (.int .u64 p0c3)])] 6):=by
 rw [fn45v4] at h
 refine ConO.of_body Tryz.func45 Tryz.ntmps45 fun w F0 ρ gl=>?_
 refine V0 3 ?_
 refine DF_ (fun vs1=>?_)
 refine V0 1 ?_
 refine fk1 h (fun v2 hv3 h=>?_)
 refine V0 0 ?_
 refine CX_ tbOk [0,1,2,3,4,5] (c46v1_0 p0c1 p0c2 p0c3 v2 hv3) (aK aN) ?_
 refine V0 0 ?_
 obtain rfl:=sj h
 exact TDP_ tbOk Tryz.results45 8 [7,6] (c87 0 0 v2 _ rfl) [0,1,2,3,4,5]
theorem c45v4_0 (p0c1:List Int) (p0c2:List Int) (p0c3:Int) (r:Int×Int) (h:fn45v4 p0c1 p0c2 p0c3=some r):Con Tryz.prog 45 [.fn (.func 46) [] [.p 0 0,.p 1 0,.p 3 0,.p 5 0]] [(0,.cells 28 [.v (.pointer none)]),(1,.cells 36 [.sl 2]),(2,.rd (Et.int .u8) p0c1),(3,.cells 36 [.sl 4]),(4,.rd (Et.int .u8) p0c2),(5,.cells 37 [.v (.int .u64 p0c3)])] 6 (.tu [vi r.1,vi r.2]) [(0,.cells 28 [.v (.pointer none)]),(1,.cells 36 [.sl 2]),(3,.cells 36 [.sl 4]),(5,.cells 37 [.v (.int .u64 p0c3)])] 6:=c45v4 p0c1 p0c2 p0c3 _ h
def fn51v1 (p1:List Int):Option (Int) :=
 frk1 (fn47v1 p1) (fun v1=>some (v1))
theorem c51v1 (p1:List Int) (r:Int) (h:fn51v1 p1=some r):ConO Tryz.prog 51 [.p 0 0,.p 1 0] [(0,.cells 28 [.v (.pointer none)]),(1,.cells 36 [.sl 2]),(2,.rd (Et.int .u8) p1)] 3 (.pan (.iface 29 (.int .i64 r)) [(0,.cells 28 [.v (.pointer none)]),(1,.cells 36 [.sl 2])] 3):=by
 rw [fn51v1] at h
 refine ConO.of_body Tryz.func51 Tryz.ntmps51 fun w F0 ρ gl=>?_
 refine V0 3 ?_
 refine fk1 h (fun v1 hv2 h=>?_)
 refine V0 0 ?_
 refine CX_ tbOk [2] (c47v1_0 p1 v1 hv2) (aK aN) ?_
 refine V0 0 ?_
 obtain rfl:=sj h
 exact TP_ [0,1,2]
theorem c51v1_0 (p1:List Int) (r:Int) (h:fn51v1 p1=some r):ConX Tryz.prog 51 [.p 0 0,.p 1 0] [(0,.cells 28 [.v (.pointer none)]),(1,.cells 36 [.sl 2]),(2,.rd (Et.int .u8) p1)] 3 (.iface 29 (.int .i64 r)) [(0,.cells 28 [.v (.pointer none)]),(1,.cells 36 [.sl 2])] 3:=c51v1 p1 _ h
def fn50v1 (p0c1:List Int):Option (Bool×Int) :=
 frk1 (fn51v1 p0c1) (fun v2=>some (((fn89 0 false v2).2,(fn89 0 false v2).1)))
theorem c50v1 (p0c1:List Int) (r:Bool×Int) (h:fn50v1 p0c1=some r):ConO Tryz.prog 50 [.fn (.func 51) [] [.p 0 0,.p 1 0]] [(0,.cells 28 [.v (.pointer none)]),(1,.cells 36 [.sl 2]),(2,.rd (Et.int .u8) p0c1)] 3 (.ret (.tu [.v (.bool r.1),vi r.2]) [(0,.cells 28 [.v (.pointer none)]),(1,.cells 36 [.sl 2])] 3):=by
 rw [fn50v1] at h
 refine ConO.of_body Tryz.func50 Tryz.ntmps50 fun w F0 ρ gl=>?_
 refine V0 3 ?_
 refine DF_ (fun vs1=>?_)
 refine V0 1 ?_
 refine fk1 h (fun v2 hv3 h=>?_)
 refine V0 0 ?_
 refine CX_ tbOk [0,1,2] (c51v1_0 p0c1 v2 hv3) (aK aN) ?_
 refine V0 0 ?_
 obtain rfl:=sj h
 exact TDP_ tbOk Tryz.results50 5 [4,3] (c89 0 false v2 _ rfl) [0,1,2]
theorem c50v1_0 (p0c1:List Int) (r:Bool×Int) (h:fn50v1 p0c1=some r):Con Tryz.prog 50 [.fn (.func 51) [] [.p 0 0,.p 1 0]] [(0,.cells 28 [.v (.pointer none)]),(1,.cells 36 [.sl 2]),(2,.rd (Et.int .u8) p0c1)] 3 (.tu [.v (.bool r.1),vi r.2]) [(0,.cells 28 [.v (.pointer none)]),(1,.cells 36 [.sl 2])] 3:=c50v1 p0c1 _ h
def fn57v1 (p1:Int) (p2:Int) (p3:List Int):Option (Int) :=
 frk1 fn38v1 (fun v1=>some (v1))
theorem c57v1 (p1:Int) (p2:Int) (p3:List Int) (r:Int) (h:fn57v1 p1 p2 p3=some r):ConO Tryz.prog 57 [.p 0 0,.p 1 0,.p 2 0,.p 3 0] [(0,.cells 28 [.v (.pointer none)]),(1,.cells 3 [vi p1]),(2,.cells 3 [vi p2]),(3,.cells 36 [.sl 4]),(4,.rd (Et.int .u8) p3)] 5 (.pan (.iface 29 (.int .i64 r)) [(0,.cells 28 [.v (.pointer none)]),(1,.cells 3 [vi p1]),(2,.cells 3 [vi p2]),(3,.cells 36 [.sl 4])] 5):=by
 rw [fn57v1] at h
 refine ConO.of_body Tryz.func57 Tryz.ntmps57 fun w F0 ρ gl=>?_
 refine V0 2 ?_
 refine fk1 h (fun v1 hv2 h=>?_)
 refine V0 0 ?_
 refine CX_ tbOk [] (c38v1_0 v1 hv2) (aK aN) ?_
 refine V0 0 ?_
 obtain rfl:=sj h
 exact TP_ [0,1,2,3,4]
theorem c57v1_0 (p1:Int) (p2:Int) (p3:List Int) (r:Int) (h:fn57v1 p1 p2 p3=some r):ConX Tryz.prog 57 [.p 0 0,.p 1 0,.p 2 0,.p 3 0] [(0,.cells 28 [.v (.pointer none)]),(1,.cells 3 [vi p1]),(2,.cells 3 [vi p2]),(3,.cells 36 [.sl 4]),(4,.rd (Et.int .u8) p3)] 5 (.iface 29 (.int .i64 r)) [(0,.cells 28 [.v (.pointer none)]),(1,.cells 3 [vi p1]),(2,.cells 3 [vi p2]),(3,.cells 36 [.sl 4])] 5:=c57v1 p1 p2 p3 _ h
def fn45v5 (p0c1:Int) (p0c2:Int) (p0c3:List Int):Option (Int×Int) :=
 frk1 (fn57v1 p0c1 p0c2 p0c3) (fun v2=>some (((fn87 0 0 v2).2,(fn87 0 0 v2).1)))
theorem c45v5 (p0c1:Int) (p0c2:Int) (p0c3:List Int) (r:Int×Int) (h:fn45v5 p0c1 p0c2 p0c3=some r):ConO Tryz.prog 45 [.fn (.func 57) [] [.p 0 0,.p 1 0,.p 2 0,.p 3 0]] [(0,.cells 28 [.v (.pointer none)]),(1,.cells 3 [vi p0c1]),(2,.cells 3 [vi p0c2]),(3,.cells 36 [.sl 4]),(4,.rd (Et.int .u8) p0c3)] 5 (.ret (.tu [vi r.1,vi r.2]) [(0,.cells 28 [.v (.pointer none)]),(1,.cells 3 [vi p0c1]),(2,.cells 3 [vi p0c2]),(3,.cells 36 [.sl 4])] 5):=by
 rw [fn45v5] at h
 refine ConO.of_body Tryz.func45 Tryz.ntmps45 fun w F0 ρ gl=>?_
 refine V0 3 ?_
 refine DF_ (fun vs1=>?_)
 refine V0 1 ?_
 refine fk1 h (fun v2 hv3 h=>?_)
 refine V0 0 ?_
 refine CX_ tbOk [0,1,2,3,4] (c57v1_0 p0c1 p0c2 p0c3 v2 hv3) (aK aN) ?_
 refine V0 0 ?_
 obtain rfl:=sj h
 exact TDP_ tbOk Tryz.results45 7 [6,5] (c87 0 0 v2 _ rfl) [0,1,2,3,4]
theorem c45v5_0 (p0c1:Int) (p0c2:Int) (p0c3:List Int) (r:Int×Int) (h:fn45v5 p0c1 p0c2 p0c3=some r):Con Tryz.prog 45 [.fn (.func 57) [] [.p 0 0,.p 1 0,.p 2 0,.p 3 0]] [(0,.cells 28 [.v (.pointer none)]),(1,.cells 3 [vi p0c1]),(2,.cells 3 [vi p0c2]),(3,.cells 36 [.sl 4]),(4,.rd (Et.int .u8) p0c3)] 5 (.tu [vi r.1,vi r.2]) [(0,.cells 28 [.v (.pointer none)]),(1,.cells 3 [vi p0c1]),(2,.cells 3 [vi p0c2]),(3,.cells 36 [.sl 4])] 5:=c45v5 p0c1 p0c2 p0c3 _ h
def fn14v1:(List (List Int)) :=
 ([]:List (List Int))
theorem c14v1 (r:(List (List Int))) (h:fn14v1=r):Con Tryz.prog 14 [.v (.pointer none)] [] 0 (.sl 0) [(0,.rowL (Et.int .u8) 5 36 r r.length)] 1:=by
 rw [fn14v1] at h
 refine Con.of_body Tryz.func14 rfl Tryz.ntmps14 rfl fun w F0 ρ gl=>?_
 refine V_ 3 [.pn] aN ?_
 refine CDT rfl (by rfl) ?_
 refine V0 1 ?_
 subst h
 refine G4.imp (Imp.nilL (Et.int .u8) 5 36 2 (by rfl)) ?_
 exact T_ tbOk.t Tryz.results14 [0]
def fn18v2 (p1:List Int) (p2:List Int) (p3:Int):Option (Int) :=
 frk1 (fn45v4 p1 p2 p3) (fun v1=>some (v1.2))
theorem c18v2 (p1:List Int) (p2:List Int) (p3:Int) (r:Int) (h:fn18v2 p1 p2 p3=some r):Con Tryz.prog 18 [.v (.pointer none),.sl 0,.sl 1,.v (.int .u64 p3)] [(0,.rd (Et.int .u8) p1),(1,.rd (Et.int .u8) p2)] 2 (vi r) [] 2:=by
 rw [fn18v2] at h
 refine Con.of_body Tryz.func18 rfl Tryz.ntmps18 rfl fun w F0 ρ gl=>?_
 refine V0 6 ?_
 refine fk1 h (fun v1 hv2 h=>?_)
 refine V_ 1 [.cl true [2,3,0,4,1,5] (fun _=>c45v4_0 p1 p2 p3 v1 hv2)] (aK aN) ?_
 refine V0 7 ?_
 obtain rfl:=sj h
 exact T_ tbOk.t Tryz.results18 [0,1]
def fn20v2 (p1:List Int):Option (Int) :=
 frk1 (fn50v1 p1) (fun v1=>some (v1.2))
theorem c20v2 (p1:List Int) (r:Int) (h:fn20v2 p1=some r):Con Tryz.prog 20 [.v (.pointer none),.sl 0] [(0,.rd (Et.int .u8) p1)] 1 (vi r) [] 1:=by
 rw [fn20v2] at h
 refine Con.of_body Tryz.func20 rfl Tryz.ntmps20 rfl fun w F0 ρ gl=>?_
 refine V0 4 ?_
 refine fk1 h (fun v1 hv2 h=>?_)
 refine V_ 1 [.cl true [1,2,0] (fun _=>c50v1_0 p1 v1 hv2)] (aK aN) ?_
 refine V0 7 ?_
 obtain rfl:=sj h
 exact T_ tbOk.t Tryz.results20 [0]
def fn29v2 (p1:Int) (p2:Int) (p3:List Int):Option (Int) :=
 frk1 (fn45v5 p1 p2 p3) (fun v1=>some (v1.2))
theorem c29v2 (p1:Int) (p2:Int) (p3:List Int) (r:Int) (h:fn29v2 p1 p2 p3=some r):Con Tryz.prog 29 [.v (.pointer none),vi p1,vi p2,.sl 0] [(0,.rd (Et.int .u8) p3)] 1 (vi r) [] 1:=by
 rw [fn29v2] at h
 refine Con.of_body Tryz.func29 rfl Tryz.ntmps29 rfl fun w F0 ρ gl=>?_
 refine V0 6 ?_
 refine fk1 h (fun v1 hv2 h=>?_)
 refine V_ 1 [.cl true [1,2,3,4,0] (fun _=>c45v5_0 p1 p2 p3 v1 hv2)] (aK aN) ?_
 refine V0 7 ?_
 obtain rfl:=sj h
 exact T_ tbOk.t Tryz.results29 [0]
def fn38v2 (p0_0:List HCell) (p0_1:Int) (p0_2:Int) (p0_3:Int) (p0_4:Int):Option (Int) :=
 frk1 (fn24v2 1) (fun v1=>some (v1))
theorem c38v2 (p0_0:List HCell) (p0_1:Int) (p0_2:Int) (p0_3:Int) (p0_4:Int) (r:Int) (h:fn38v2 p0_0 p0_1 p0_2 p0_3 p0_4=some r):ConO Tryz.prog 38 [.p 0 0] [(0,.cells 63 [.sl 1,vb p0_1,vi p0_2,vi p0_3,vi p0_4,.v (.map none)]),(1,.ex (pO HCell.D 65 p0_0) [])] 2 (.pan (.iface 29 (.int .i64 r)) [(0,.cells 63 [.sl 1,vb p0_1,vi p0_2,vi p0_3,vi p0_4,.v (.map none)]),(1,.ex (pO HCell.D 65 p0_0) [])] 2):=by
 rw [fn38v2] at h
 refine ConO.of_body Tryz.func38 Tryz.ntmps38 fun w F0 ρ gl=>?_
 refine VL [(3,4,true)] 9 [.pn,.ni] (aC rfl aN) ?_
 refine fk1 h (fun v1 hv2 h=>?_)
 refine V0 0 ?_
 refine G4.imp Imp.refl ?_
 refine CX_ tbOk [] (c24v2_0 1 v1 hv2) (aK aN) ?_
 refine V0 0 ?_
 obtain rfl:=sj h
 exact TP_ [0,1]
theorem c38v2_0 (p0_0:List HCell) (p0_1:Int) (p0_2:Int) (p0_3:Int) (p0_4:Int) (r:Int) (h:fn38v2 p0_0 p0_1 p0_2 p0_3 p0_4=some r):ConX Tryz.prog 38 [.p 0 0] [(0,.cells 63 [.sl 1,vb p0_1,vi p0_2,vi p0_3,vi p0_4,.v (.map none)]),(1,.ex (pO HCell.D 65 p0_0) [])] 2 (.iface 29 (.int .i64 r)) [(0,.cells 63 [.sl 1,vb p0_1,vi p0_2,vi p0_3,vi p0_4,.v (.map none)]),(1,.ex (pO HCell.D 65 p0_0) [])] 2:=c38v2 p0_0 p0_1 p0_2 p0_3 p0_4 _ h
def fn47v2 (p0_0:List HCell) (p0_1:Int) (p0_2:Int) (p0_3:Int) (p0_4:Int) (p1:List Int):Option (Int) :=
 frk1 (fn38v2 p0_0 p0_1 p0_2 p0_3 p0_4) (fun v1=>some (v1))
theorem c47v2 (p0_0:List HCell) (p0_1:Int) (p0_2:Int) (p0_3:Int) (p0_4:Int) (p1:List Int) (r:Int) (h:fn47v2 p0_0 p0_1 p0_2 p0_3 p0_4 p1=some r):ConO Tryz.prog 47 [.p 0 0,.sl 2] [(0,.cells 63 [.sl 1,vb p0_1,vi p0_2,vi p0_3,vi p0_4,.v (.map none)]),(1,.ex (pO HCell.D 65 p0_0) []),(2,.rd (Et.int .u8) p1)] 3 (.pan (.iface 29 (.int .i64 r)) [(0,.cells 63 [.sl 1,vb p0_1,vi p0_2,vi p0_3,vi p0_4,.v (.map none)]),(1,.ex (pO HCell.D 65 p0_0) [])] 3):=by
 rw [fn47v2] at h
 refine ConO.of_body Tryz.func47 Tryz.ntmps47 fun w F0 ρ gl=>?_
 refine V0 3 ?_
 refine fk1 h (fun v1 hv2 h=>?_)
 refine V0 0 ?_
 refine CX_ tbOk [0,1] (c38v2_0 p0_0 p0_1 p0_2 p0_3 p0_4 v1 hv2) (aK aN) ?_
 refine V0 0 ?_
 obtain rfl:=sj h
 exact TP_ [0,1,2]
theorem c47v2_0 (p0_0:List HCell) (p0_1:Int) (p0_2:Int) (p0_3:Int) (p0_4:Int) (p1:List Int) (r:Int) (h:fn47v2 p0_0 p0_1 p0_2 p0_3 p0_4 p1=some r):ConX Tryz.prog 47 [.p 0 0,.sl 2] [(0,.cells 63 [.sl 1,vb p0_1,vi p0_2,vi p0_3,vi p0_4,.v (.map none)]),(1,.ex (pO HCell.D 65 p0_0) []),(2,.rd (Et.int .u8) p1)] 3 (.iface 29 (.int .i64 r)) [(0,.cells 63 [.sl 1,vb p0_1,vi p0_2,vi p0_3,vi p0_4,.v (.map none)]),(1,.ex (pO HCell.D 65 p0_0) [])] 3:=c47v2 p0_0 p0_1 p0_2 p0_3 p0_4 p1 _ h
def fn49v2 (p0_0_0:List HCell) (p0_0_1:Int) (p0_0_2:Int) (p0_0_3:Int) (p0_0_4:Int) (p1:List Int):Option (Int) :=
 frk1 (fn47v2 p0_0_0 p0_0_1 p0_0_2 p0_0_3 p0_0_4 p1) (fun v1=>some (v1))
theorem c49v2 (p0_0_0:List HCell) (p0_0_1:Int) (p0_0_2:Int) (p0_0_3:Int) (p0_0_4:Int) (p1:List Int) (r:Int) (h:fn49v2 p0_0_0 p0_0_1 p0_0_2 p0_0_3 p0_0_4 p1=some r):ConO Tryz.prog 49 [.p 0 0,.p 3 0] [(0,.cells 28 [.p 1 0]),(1,.cells 63 [.sl 2,vb p0_0_1,vi p0_0_2,vi p0_0_3,vi p0_0_4,.v (.map none)]),(2,.ex (pO HCell.D 65 p0_0_0) []),(3,.cells 36 [.sl 4]),(4,.rd (Et.int .u8) p1)] 5 (.pan (.iface 29 (.int .i64 r)) [(0,.cells 28 [.p 1 0]),(1,.cells 63 [.sl 2,vb p0_0_1,vi p0_0_2,vi p0_0_3,vi p0_0_4,.v (.map none)]),(2,.ex (pO HCell.D 65 p0_0_0) []),(3,.cells 36 [.sl 4])] 5):=by
 rw [fn49v2] at h
 refine ConO.of_body Tryz.func49 Tryz.ntmps49 fun w F0 ρ gl=>?_
 refine V0 3 ?_
 refine fk1 h (fun v1 hv2 h=>?_)
 refine V0 0 ?_
 refine CX_ tbOk [1,2,4] (c47v2_0 p0_0_0 p0_0_1 p0_0_2 p0_0_3 p0_0_4 p1 v1 hv2) (aK aN) ?_
 refine V0 0 ?_
 obtain rfl:=sj h
 exact TP_ [0,1,2,3,4]
theorem c49v2_0 (p0_0_0:List HCell) (p0_0_1:Int) (p0_0_2:Int) (p0_0_3:Int) (p0_0_4:Int) (p1:List Int) (r:Int) (h:fn49v2 p0_0_0 p0_0_1 p0_0_2 p0_0_3 p0_0_4 p1=some r):ConX Tryz.prog 49 [.p 0 0,.p 3 0] [(0,.cells 28 [.p 1 0]),(1,.cells 63 [.sl 2,vb p0_0_1,vi p0_0_2,vi p0_0_3,vi p0_0_4,.v (.map none)]),(2,.ex (pO HCell.D 65 p0_0_0) []),(3,.cells 36 [.sl 4]),(4,.rd (Et.int .u8) p1)] 5 (.iface 29 (.int .i64 r)) [(0,.cells 28 [.p 1 0]),(1,.cells 63 [.sl 2,vb p0_0_1,vi p0_0_2,vi p0_0_3,vi p0_0_4,.v (.map none)]),(2,.ex (pO HCell.D 65 p0_0_0) []),(3,.cells 36 [.sl 4])] 5:=c49v2 p0_0_0 p0_0_1 p0_0_2 p0_0_3 p0_0_4 p1 _ h
def fn45v6 (p0c0_0_0:List HCell) (p0c0_0_1:Int) (p0c0_0_2:Int) (p0c0_0_3:Int) (p0c0_0_4:Int) (p0c1:List Int):Option (Int×Int) :=
 frk1 (fn49v2 p0c0_0_0 p0c0_0_1 p0c0_0_2 p0c0_0_3 p0c0_0_4 p0c1) (fun v2=>some (((fn87 0 0 v2).2,(fn87 0 0 v2).1)))
theorem c45v6 (p0c0_0_0:List HCell) (p0c0_0_1:Int) (p0c0_0_2:Int) (p0c0_0_3:Int) (p0c0_0_4:Int) (p0c1:List Int) (r:Int×Int) (h:fn45v6 p0c0_0_0 p0c0_0_1 p0c0_0_2 p0c0_0_3 p0c0_0_4 p0c1=some r):ConO Tryz.prog 45 [.fn (.func 49) [] [.p 0 0,.p 3 0]] [(0,.cells 28 [.p 1 0]),(1,.cells 63 [.sl 2,vb p0c0_0_1,vi p0c0_0_2,vi p0c0_0_3,vi p0c0_0_4,.v (.map none)]),(2,.ex (pO HCell.D 65 p0c0_0_0) []),(3,.cells 36 [.sl 4]),(4,.rd (Et.int .u8) p0c1)] 5 (.ret (.tu [vi r.1,vi r.2]) [(0,.cells 28 [.p 1 0]),(1,.cells 63 [.sl 2,vb p0c0_0_1,vi p0c0_0_2,vi p0c0_0_3,vi p0c0_0_4,.v (.map none)]),(2,.ex (pO HCell.D 65 p0c0_0_0) []),(3,.cells 36 [.sl 4])] 5):=by
 rw [fn45v6] at h
 refine ConO.of_body Tryz.func45 Tryz.ntmps45 fun w F0 ρ gl=>?_
 refine V0 3 ?_
 refine DF_ (fun vs1=>?_)
 refine V0 1 ?_
 refine fk1 h (fun v2 hv3 h=>?_)
 refine V0 0 ?_
 refine CX_ tbOk [0,1,2,3,4] (c49v2_0 p0c0_0_0 p0c0_0_1 p0c0_0_2 p0c0_0_3 p0c0_0_4 p0c1 v2 hv3) (aK aN) ?_
 refine V0 0 ?_
 obtain rfl:=sj h
 exact TDP_ tbOk Tryz.results45 7 [6,5] (c87 0 0 v2 _ rfl) [0,1,2,3,4]
theorem c45v6_0 (p0c0_0_0:List HCell) (p0c0_0_1:Int) (p0c0_0_2:Int) (p0c0_0_3:Int) (p0c0_0_4:Int) (p0c1:List Int) (r:Int×Int) (h:fn45v6 p0c0_0_0 p0c0_0_1 p0c0_0_2 p0c0_0_3 p0c0_0_4 p0c1=some r):Con Tryz.prog 45 [.fn (.func 49) [] [.p 0 0,.p 3 0]] [(0,.cells 28 [.p 1 0]),(1,.cells 63 [.sl 2,vb p0c0_0_1,vi p0c0_0_2,vi p0c0_0_3,vi p0c0_0_4,.v (.map none)]),(2,.ex (pO HCell.D 65 p0c0_0_0) []),(3,.cells 36 [.sl 4]),(4,.rd (Et.int .u8) p0c1)] 5 (.tu [vi r.1,vi r.2]) [(0,.cells 28 [.p 1 0]),(1,.cells 63 [.sl 2,vb p0c0_0_1,vi p0c0_0_2,vi p0c0_0_3,vi p0c0_0_4,.v (.map none)]),(2,.ex (pO HCell.D 65 p0c0_0_0) []),(3,.cells 36 [.sl 4])] 5:=c45v6 p0c0_0_0 p0c0_0_1 p0c0_0_2 p0c0_0_3 p0c0_0_4 p0c1 _ h
def fn19v2 (p0_0:List HCell) (p0_1:Int) (p0_2:Int) (p0_3:Int) (p0_4:Int) (p1:List Int):Option (Int×Int) :=
 frk1 (fn45v6 p0_0 p0_1 p0_2 p0_3 p0_4 p1) (fun v1=>some ((v1.1,v1.2)))
theorem c19v2 (p0_0:List HCell) (p0_1:Int) (p0_2:Int) (p0_3:Int) (p0_4:Int) (p1:List Int) (r:Int×Int) (h:fn19v2 p0_0 p0_1 p0_2 p0_3 p0_4 p1=some r):Con Tryz.prog 19 [.p 0 0,.sl 2] [(0,.cells 63 [.sl 1,vb p0_1,vi p0_2,vi p0_3,vi p0_4,.v (.map none)]),(1,.ex (pO HCell.D 65 p0_0) []),(2,.rd (Et.int .u8) p1)] 3 (.tu [vi r.1,vi r.2]) [(0,.cells 63 [.sl 1,vb p0_1,vi p0_2,vi p0_3,vi p0_4,.v (.map none)]),(1,.ex (pO HCell.D 65 p0_0) [])] 3:=by
 rw [fn19v2] at h
 refine Con.of_body Tryz.func19 rfl Tryz.ntmps19 rfl fun w F0 ρ gl=>?_
 refine V0 5 ?_
 refine fk1 h (fun v1 hv2 h=>?_)
 refine V_ 1 [.cl true [3,0,1,4,2] (fun _=>c45v6_0 p0_0 p0_1 p0_2 p0_3 p0_4 p1 v1 hv2)] (aK aN) ?_
 refine V0 4 ?_
 obtain rfl:=sj h
 exact T_ tbOk.t Tryz.results19 [0,1,2]
def fn37v2 (p0_0_0:List HCell) (p0_0_1:Int) (p0_0_2:Int) (p0_0_3:Int) (p0_0_4:Int) (p1:Int):Option (Int) :=
 frk1 (fn38v2 p0_0_0 p0_0_1 p0_0_2 p0_0_3 p0_0_4) (fun v1=>some (v1))
theorem c37v2 (p0_0_0:List HCell) (p0_0_1:Int) (p0_0_2:Int) (p0_0_3:Int) (p0_0_4:Int) (p1:Int) (r:Int) (h:fn37v2 p0_0_0 p0_0_1 p0_0_2 p0_0_3 p0_0_4 p1=some r):ConO Tryz.prog 37 [.p 0 0,.p 3 0] [(0,.cells 28 [.p 1 0]),(1,.cells 63 [.sl 2,vb p0_0_1,vi p0_0_2,vi p0_0_3,vi p0_0_4,.v (.map none)]),(2,.ex (pO HCell.D 65 p0_0_0) []),(3,.cells 3 [vi p1])] 4 (.pan (.iface 29 (.int .i64 r)) [(0,.cells 28 [.p 1 0]),(1,.cells 63 [.sl 2,vb p0_0_1,vi p0_0_2,vi p0_0_3,vi p0_0_4,.v (.map none)]),(2,.ex (pO HCell.D 65 p0_0_0) []),(3,.cells 3 [vi p1])] 4):=by
 rw [fn37v2] at h
 refine ConO.of_body Tryz.func37 Tryz.ntmps37 fun w F0 ρ gl=>?_
 refine V0 2 ?_
 refine fk1 h (fun v1 hv2 h=>?_)
 refine V0 0 ?_
 refine CX_ tbOk [1,2] (c38v2_0 p0_0_0 p0_0_1 p0_0_2 p0_0_3 p0_0_4 v1 hv2) (aK aN) ?_
 refine V0 0 ?_
 obtain rfl:=sj h
 exact TP_ [0,1,2,3]
theorem c37v2_0 (p0_0_0:List HCell) (p0_0_1:Int) (p0_0_2:Int) (p0_0_3:Int) (p0_0_4:Int) (p1:Int) (r:Int) (h:fn37v2 p0_0_0 p0_0_1 p0_0_2 p0_0_3 p0_0_4 p1=some r):ConX Tryz.prog 37 [.p 0 0,.p 3 0] [(0,.cells 28 [.p 1 0]),(1,.cells 63 [.sl 2,vb p0_0_1,vi p0_0_2,vi p0_0_3,vi p0_0_4,.v (.map none)]),(2,.ex (pO HCell.D 65 p0_0_0) []),(3,.cells 3 [vi p1])] 4 (.iface 29 (.int .i64 r)) [(0,.cells 28 [.p 1 0]),(1,.cells 63 [.sl 2,vb p0_0_1,vi p0_0_2,vi p0_0_3,vi p0_0_4,.v (.map none)]),(2,.ex (pO HCell.D 65 p0_0_0) []),(3,.cells 3 [vi p1])] 4:=c37v2 p0_0_0 p0_0_1 p0_0_2 p0_0_3 p0_0_4 p1 _ h
def fn36v2 (p0c0_0_0:List HCell) (p0c0_0_1:Int) (p0c0_0_2:Int) (p0c0_0_3:Int) (p0c0_0_4:Int) (p0c1:Int):Option ((List Int)×Int) :=
 frk1 (fn37v2 p0c0_0_0 p0c0_0_1 p0c0_0_2 p0c0_0_3 p0c0_0_4 p0c1) (fun v2=>some (((fn59 0 ([]:List Int) v2).2,(fn59 0 ([]:List Int) v2).1)))
theorem c36v2 (p0c0_0_0:List HCell) (p0c0_0_1:Int) (p0c0_0_2:Int) (p0c0_0_3:Int) (p0c0_0_4:Int) (p0c1:Int) (r:(List Int)×Int) (h:fn36v2 p0c0_0_0 p0c0_0_1 p0c0_0_2 p0c0_0_3 p0c0_0_4 p0c1=some r):ConO Tryz.prog 36 [.fn (.func 37) [] [.p 0 0,.p 3 0]] [(0,.cells 28 [.p 1 0]),(1,.cells 63 [.sl 2,vb p0c0_0_1,vi p0c0_0_2,vi p0c0_0_3,vi p0c0_0_4,.v (.map none)]),(2,.ex (pO HCell.D 65 p0c0_0_0) []),(3,.cells 3 [vi p0c1])] 4 (.ret (.tu [.sl 4,vi r.2]) [(0,.cells 28 [.p 1 0]),(1,.cells 63 [.sl 2,vb p0c0_0_1,vi p0c0_0_2,vi p0c0_0_3,vi p0c0_0_4,.v (.map none)]),(2,.ex (pO HCell.D 65 p0c0_0_0) []),(3,.cells 3 [vi p0c1]),(4,.row (Et.int .u8) 5 r.1 r.1.length .unk)] 5):=by
 rw [fn36v2] at h
 refine ConO.of_body Tryz.func36 Tryz.ntmps36 fun w F0 ρ gl=>?_
 refine V0 3 ?_
 refine DF_ (fun vs1=>?_)
 refine V0 1 ?_
 refine fk1 h (fun v2 hv3 h=>?_)
 refine V0 0 ?_
 refine CX_ tbOk [0,1,2,3] (c37v2_0 p0c0_0_0 p0c0_0_1 p0c0_0_2 p0c0_0_3 p0c0_0_4 p0c1 v2 hv3) (aK aN) ?_
 refine V0 0 ?_
 refine G4.imp (Imp.nilC (Et.int .u8) 5 4 0 (by rfl) (by rfl) (by rfl)) ?_
 obtain rfl:=sj h
 exact TDP_ tbOk Tryz.results36 6 [5,4,7] (c59 0 ([]:List Int) v2 _ rfl) [0,1,2,3,8]
theorem c36v2_0 (p0c0_0_0:List HCell) (p0c0_0_1:Int) (p0c0_0_2:Int) (p0c0_0_3:Int) (p0c0_0_4:Int) (p0c1:Int) (r:(List Int)×Int) (h:fn36v2 p0c0_0_0 p0c0_0_1 p0c0_0_2 p0c0_0_3 p0c0_0_4 p0c1=some r):Con Tryz.prog 36 [.fn (.func 37) [] [.p 0 0,.p 3 0]] [(0,.cells 28 [.p 1 0]),(1,.cells 63 [.sl 2,vb p0c0_0_1,vi p0c0_0_2,vi p0c0_0_3,vi p0c0_0_4,.v (.map none)]),(2,.ex (pO HCell.D 65 p0c0_0_0) []),(3,.cells 3 [vi p0c1])] 4 (.tu [.sl 4,vi r.2]) [(0,.cells 28 [.p 1 0]),(1,.cells 63 [.sl 2,vb p0c0_0_1,vi p0c0_0_2,vi p0c0_0_3,vi p0c0_0_4,.v (.map none)]),(2,.ex (pO HCell.D 65 p0c0_0_0) []),(3,.cells 3 [vi p0c1]),(4,.row (Et.int .u8) 5 r.1 r.1.length .unk)] 5:=c36v2 p0c0_0_0 p0c0_0_1 p0c0_0_2 p0c0_0_3 p0c0_0_4 p0c1 _ h
def fn10v2 (p0_0:List HCell) (p0_1:Int) (p0_2:Int) (p0_3:Int) (p0_4:Int) (p1:Int):Option ((List Int)×Int) :=
 frk1 (fn36v2 p0_0 p0_1 p0_2 p0_3 p0_4 p1) (fun v1=>some ((v1.1,v1.2)))
theorem c10v2 (p0_0:List HCell) (p0_1:Int) (p0_2:Int) (p0_3:Int) (p0_4:Int) (p1:Int) (r:(List Int)×Int) (h:fn10v2 p0_0 p0_1 p0_2 p0_3 p0_4 p1=some r):Con Tryz.prog 10 [.p 0 0,vi p1] [(0,.cells 63 [.sl 1,vb p0_1,vi p0_2,vi p0_3,vi p0_4,.v (.map none)]),(1,.ex (pO HCell.D 65 p0_0) [])] 2 (.tu [.sl 2,vi r.2]) [(0,.cells 63 [.sl 1,vb p0_1,vi p0_2,vi p0_3,vi p0_4,.v (.map none)]),(1,.ex (pO HCell.D 65 p0_0) []),(2,.row (Et.int .u8) 5 r.1 r.1.length .unk)] 3:=by
 rw [fn10v2] at h
 refine Con.of_body Tryz.func10 rfl Tryz.ntmps10 rfl fun w F0 ρ gl=>?_
 refine V0 5 ?_
 refine fk1 h (fun v1 hv2 h=>?_)
 refine V_ 1 [.cl true [2,0,1,3] (fun _=>c36v2_0 p0_0 p0_1 p0_2 p0_3 p0_4 p1 v1 hv2)] (aK aN) ?_
 refine V0 4 ?_
 obtain rfl:=sj h
 exact T_ tbOk.t Tryz.results10 [0,1,4]
def fn46v2 (p0_0_0:List HCell) (p0_0_1:Int) (p0_0_2:Int) (p0_0_3:Int) (p0_0_4:Int) (p1:List Int) (p2:List Int) (p3:Int):Option (Int) :=
 frk1 (fn47v2 p0_0_0 p0_0_1 p0_0_2 p0_0_3 p0_0_4 p1) (fun v1=>some (v1))
theorem c46v2 (p0_0_0:List HCell) (p0_0_1:Int) (p0_0_2:Int) (p0_0_3:Int) (p0_0_4:Int) (p1:List Int) (p2:List Int) (p3:Int) (r:Int) (h:fn46v2 p0_0_0 p0_0_1 p0_0_2 p0_0_3 p0_0_4 p1 p2 p3=some r):ConO Tryz.prog 46 [.p 0 0,.p 3 0,.p 5 0,.p 7 0] [(0,.cells 28 [.p 1 0]),(1,.cells 63 [.sl 2,vb p0_0_1,vi p0_0_2,vi p0_0_3,vi p0_0_4,.v (.map none)]),(2,.ex (pO HCell.D 65 p0_0_0) []),(3,.cells 36 [.sl 4]),(4,.rd (Et.int .u8) p1),(5,.cells 36 [.sl 6]),(6,.rd (Et.int .u8) p2),(7,.cells 37 [.v (.int .u64 p3)])] 8 (.pan (.iface 29 (.int .i64 r)) [(0,.cells 28 [.p 1 0]),(1,.cells 63 [.sl 2,vb p0_0_1,vi p0_0_2,vi p0_0_3,vi p0_0_4,.v (.map none)]),(2,.ex (pO HCell.D 65 p0_0_0) []),(3,.cells 36 [.sl 4]),(5,.cells 36 [.sl 6]),(7,.cells 37 [.v (.int .u64 p3)])] 8):=by
 rw [fn46v2] at h
 refine ConO.of_body Tryz.func46 Tryz.ntmps46 fun w F0 ρ gl=>?_
 refine V0 3 ?_
 refine fk1 h (fun v1 hv2 h=>?_)
 refine V0 0 ?_
 refine CX_ tbOk [1,2,4] (c47v2_0 p0_0_0 p0_0_1 p0_0_2 p0_0_3 p0_0_4 p1 v1 hv2) (aK aN) ?_
 refine V0 0 ?_
 obtain rfl:=sj h
 exact TP_ [0,1,2,3,4,5,6,7]
theorem c46v2_0 (p0_0_0:List HCell) (p0_0_1:Int) (p0_0_2:Int) (p0_0_3:Int) (p0_0_4:Int) (p1:List Int) (p2:List Int) (p3:Int) (r:Int) (h:fn46v2 p0_0_0 p0_0_1 p0_0_2 p0_0_3 p0_0_4 p1 p2 p3=some r):ConX Tryz.prog 46 [.p 0 0,.p 3 0,.p 5 0,.p 7 0] [(0,.cells 28 [.p 1 0]),(1,.cells 63 [.sl 2,vb p0_0_1,vi p0_0_2,vi p0_0_3,vi p0_0_4,.v (.map none)]),(2,.ex (pO HCell.D 65 p0_0_0) []),(3,.cells 36 [.sl 4]),(4,.rd (Et.int .u8) p1),(5,.cells 36 [.sl 6]),(6,.rd (Et.int .u8) p2),(7,.cells 37 [.v (.int .u64 p3)])] 8 (.iface 29 (.int .i64 r)) [(0,.cells 28 [.p 1 0]),(1,.cells 63 [.sl 2,vb p0_0_1,vi p0_0_2,vi p0_0_3,vi p0_0_4,.v (.map none)]),(2,.ex (pO HCell.D 65 p0_0_0) []),(3,.cells 36 [.sl 4]),(5,.cells 36 [.sl 6]),(7,.cells 37 [.v (.int .u64 p3)])] 8:=c46v2 p0_0_0 p0_0_1 p0_0_2 p0_0_3 p0_0_4 p1 p2 p3 _ h
def fn45v7 (p0c0_0_0:List HCell) (p0c0_0_1:Int) (p0c0_0_2:Int) (p0c0_0_3:Int) (p0c0_0_4:Int) (p0c1:List Int) (p0c2:List Int) (p0c3:Int):Option (Int×Int) :=
 frk1 (fn46v2 p0c0_0_0 p0c0_0_1 p0c0_0_2 p0c0_0_3 p0c0_0_4 p0c1 p0c2 p0c3) (fun v2=>some (((fn87 0 0 v2).2,(fn87 0 0 v2).1)))
theorem c45v7 (p0c0_0_0:List HCell) (p0c0_0_1:Int) (p0c0_0_2:Int) (p0c0_0_3:Int) (p0c0_0_4:Int) (p0c1:List Int) (p0c2:List Int) (p0c3:Int) (r:Int×Int) (h:fn45v7 p0c0_0_0 p0c0_0_1 p0c0_0_2 p0c0_0_3 p0c0_0_4 p0c1 p0c2 p0c3=some r):ConO Tryz.prog 45 [.fn (.func 46) [] [.p 0 0,.p 3 0,.p 5 0,.p 7 0]] [(0,.cells 28 [.p 1 0]),(1,.cells 63 [.sl 2,vb p0c0_0_1,vi p0c0_0_2,vi p0c0_0_3,vi p0c0_0_4,.v (.map none)]),(2,.ex (pO HCell.D 65 p0c0_0_0) []),(3,.cells 36 [.sl 4]),(4,.rd (Et.int .u8) p0c1),(5,.cells 36 [.sl 6]),(6,.rd (Et.int .u8) p0c2),(7,.cells 37 [.v (.int .u64 p0c3)])] 8 (.ret (.tu [vi r.1,vi r.2]) [(0,.cells 28 [.p 1 0]),(1,.cells 63 [.sl 2,vb p0c0_0_1,vi p0c0_0_2,vi p0c0_0_3,vi p0c0_0_4,.v (.map none)]),(2,.ex (pO HCell.D 65 p0c0_0_0) []),(3,.cells 36 [.sl 4]),(5,.cells 36 [.sl 6]),(7,.cells 37 [.v (.int .u64 p0c3)])] 8):=by
 rw [fn45v7] at h
 refine ConO.of_body Tryz.func45 Tryz.ntmps45 fun w F0 ρ gl=>?_
 refine V0 3 ?_
 refine DF_ (fun vs1=>?_)
 refine V0 1 ?_
 refine fk1 h (fun v2 hv3 h=>?_)
 refine V0 0 ?_
 refine CX_ tbOk [0,1,2,3,4,5,6,7] (c46v2_0 p0c0_0_0 p0c0_0_1 p0c0_0_2 p0c0_0_3 p0c0_0_4 p0c1 p0c2 p0c3 v2 hv3) (aK aN) ?_
 refine V0 0 ?_
 obtain rfl:=sj h
 exact TDP_ tbOk Tryz.results45 10 [9,8] (c87 0 0 v2 _ rfl) [0,1,2,3,4,5,6,7]
theorem c45v7_0 (p0c0_0_0:List HCell) (p0c0_0_1:Int) (p0c0_0_2:Int) (p0c0_0_3:Int) (p0c0_0_4:Int) (p0c1:List Int) (p0c2:List Int) (p0c3:Int) (r:Int×Int) (h:fn45v7 p0c0_0_0 p0c0_0_1 p0c0_0_2 p0c0_0_3 p0c0_0_4 p0c1 p0c2 p0c3=some r):Con Tryz.prog 45 [.fn (.func 46) [] [.p 0 0,.p 3 0,.p 5 0,.p 7 0]] [(0,.cells 28 [.p 1 0]),(1,.cells 63 [.sl 2,vb p0c0_0_1,vi p0c0_0_2,vi p0c0_0_3,vi p0c0_0_4,.v (.map none)]),(2,.ex (pO HCell.D 65 p0c0_0_0) []),(3,.cells 36 [.sl 4]),(4,.rd (Et.int .u8) p0c1),(5,.cells 36 [.sl 6]),(6,.rd (Et.int .u8) p0c2),(7,.cells 37 [.v (.int .u64 p0c3)])] 8 (.tu [vi r.1,vi r.2]) [(0,.cells 28 [.p 1 0]),(1,.cells 63 [.sl 2,vb p0c0_0_1,vi p0c0_0_2,vi p0c0_0_3,vi p0c0_0_4,.v (.map none)]),(2,.ex (pO HCell.D 65 p0c0_0_0) []),(3,.cells 36 [.sl 4]),(5,.cells 36 [.sl 6]),(7,.cells 37 [.v (.int .u64 p0c3)])] 8:=c45v7 p0c0_0_0 p0c0_0_1 p0c0_0_2 p0c0_0_3 p0c0_0_4 p0c1 p0c2 p0c3 _ h
def fn51v2 (p0_0_0:List HCell) (p0_0_1:Int) (p0_0_2:Int) (p0_0_3:Int) (p0_0_4:Int) (p1:List Int):Option (Int) :=
 frk1 (fn47v2 p0_0_0 p0_0_1 p0_0_2 p0_0_3 p0_0_4 p1) (fun v1=>some (v1))
theorem c51v2 (p0_0_0:List HCell) (p0_0_1:Int) (p0_0_2:Int) (p0_0_3:Int) (p0_0_4:Int) (p1:List Int) (r:Int) (h:fn51v2 p0_0_0 p0_0_1 p0_0_2 p0_0_3 p0_0_4 p1=some r):ConO Tryz.prog 51 [.p 0 0,.p 3 0] [(0,.cells 28 [.p 1 0]),(1,.cells 63 [.sl 2,vb p0_0_1,vi p0_0_2,vi p0_0_3,vi p0_0_4,.v (.map none)]),(2,.ex (pO HCell.D 65 p0_0_0) []),(3,.cells 36 [.sl 4]),(4,.rd (Et.int .u8) p1)] 5 (.pan (.iface 29 (.int .i64 r)) [(0,.cells 28 [.p 1 0]),(1,.cells 63 [.sl 2,vb p0_0_1,vi p0_0_2,vi p0_0_3,vi p0_0_4,.v (.map none)]),(2,.ex (pO HCell.D 65 p0_0_0) []),(3,.cells 36 [.sl 4])] 5):=by
 rw [fn51v2] at h
 refine ConO.of_body Tryz.func51 Tryz.ntmps51 fun w F0 ρ gl=>?_
 refine V0 3 ?_
 refine fk1 h (fun v1 hv2 h=>?_)
 refine V0 0 ?_
 refine CX_ tbOk [1,2,4] (c47v2_0 p0_0_0 p0_0_1 p0_0_2 p0_0_3 p0_0_4 p1 v1 hv2) (aK aN) ?_
 refine V0 0 ?_
 obtain rfl:=sj h
 exact TP_ [0,1,2,3,4]
theorem c51v2_0 (p0_0_0:List HCell) (p0_0_1:Int) (p0_0_2:Int) (p0_0_3:Int) (p0_0_4:Int) (p1:List Int) (r:Int) (h:fn51v2 p0_0_0 p0_0_1 p0_0_2 p0_0_3 p0_0_4 p1=some r):ConX Tryz.prog 51 [.p 0 0,.p 3 0] [(0,.cells 28 [.p 1 0]),(1,.cells 63 [.sl 2,vb p0_0_1,vi p0_0_2,vi p0_0_3,vi p0_0_4,.v (.map none)]),(2,.ex (pO HCell.D 65 p0_0_0) []),(3,.cells 36 [.sl 4]),(4,.rd (Et.int .u8) p1)] 5 (.iface 29 (.int .i64 r)) [(0,.cells 28 [.p 1 0]),(1,.cells 63 [.sl 2,vb p0_0_1,vi p0_0_2,vi p0_0_3,vi p0_0_4,.v (.map none)]),(2,.ex (pO HCell.D 65 p0_0_0) []),(3,.cells 36 [.sl 4])] 5:=c51v2 p0_0_0 p0_0_1 p0_0_2 p0_0_3 p0_0_4 p1 _ h
def fn50v2 (p0c0_0_0:List HCell) (p0c0_0_1:Int) (p0c0_0_2:Int) (p0c0_0_3:Int) (p0c0_0_4:Int) (p0c1:List Int):Option (Bool×Int) :=
 frk1 (fn51v2 p0c0_0_0 p0c0_0_1 p0c0_0_2 p0c0_0_3 p0c0_0_4 p0c1) (fun v2=>some (((fn89 0 false v2).2,(fn89 0 false v2).1)))
theorem c50v2 (p0c0_0_0:List HCell) (p0c0_0_1:Int) (p0c0_0_2:Int) (p0c0_0_3:Int) (p0c0_0_4:Int) (p0c1:List Int) (r:Bool×Int) (h:fn50v2 p0c0_0_0 p0c0_0_1 p0c0_0_2 p0c0_0_3 p0c0_0_4 p0c1=some r):ConO Tryz.prog 50 [.fn (.func 51) [] [.p 0 0,.p 3 0]] [(0,.cells 28 [.p 1 0]),(1,.cells 63 [.sl 2,vb p0c0_0_1,vi p0c0_0_2,vi p0c0_0_3,vi p0c0_0_4,.v (.map none)]),(2,.ex (pO HCell.D 65 p0c0_0_0) []),(3,.cells 36 [.sl 4]),(4,.rd (Et.int .u8) p0c1)] 5 (.ret (.tu [.v (.bool r.1),vi r.2]) [(0,.cells 28 [.p 1 0]),(1,.cells 63 [.sl 2,vb p0c0_0_1,vi p0c0_0_2,vi p0c0_0_3,vi p0c0_0_4,.v (.map none)]),(2,.ex (pO HCell.D 65 p0c0_0_0) []),(3,.cells 36 [.sl 4])] 5):=by
 rw [fn50v2] at h
 refine ConO.of_body Tryz.func50 Tryz.ntmps50 fun w F0 ρ gl=>?_
 refine V0 3 ?_
 refine DF_ (fun vs1=>?_)
 refine V0 1 ?_
 refine fk1 h (fun v2 hv3 h=>?_)
 refine V0 0 ?_
 refine CX_ tbOk [0,1,2,3,4] (c51v2_0 p0c0_0_0 p0c0_0_1 p0c0_0_2 p0c0_0_3 p0c0_0_4 p0c1 v2 hv3) (aK aN) ?_
 refine V0 0 ?_
 obtain rfl:=sj h
 exact TDP_ tbOk Tryz.results50 7 [6,5] (c89 0 false v2 _ rfl) [0,1,2,3,4]
theorem c50v2_0 (p0c0_0_0:List HCell) (p0c0_0_1:Int) (p0c0_0_2:Int) (p0c0_0_3:Int) (p0c0_0_4:Int) (p0c1:List Int) (r:Bool×Int) (h:fn50v2 p0c0_0_0 p0c0_0_1 p0c0_0_2 p0c0_0_3 p0c0_0_4 p0c1=some r):Con Tryz.prog 50 [.fn (.func 51) [] [.p 0 0,.p 3 0]] [(0,.cells 28 [.p 1 0]),(1,.cells 63 [.sl 2,vb p0c0_0_1,vi p0c0_0_2,vi p0c0_0_3,vi p0c0_0_4,.v (.map none)]),(2,.ex (pO HCell.D 65 p0c0_0_0) []),(3,.cells 36 [.sl 4]),(4,.rd (Et.int .u8) p0c1)] 5 (.tu [.v (.bool r.1),vi r.2]) [(0,.cells 28 [.p 1 0]),(1,.cells 63 [.sl 2,vb p0c0_0_1,vi p0c0_0_2,vi p0c0_0_3,vi p0c0_0_4,.v (.map none)]),(2,.ex (pO HCell.D 65 p0c0_0_0) []),(3,.cells 36 [.sl 4])] 5:=c50v2 p0c0_0_0 p0c0_0_1 p0c0_0_2 p0c0_0_3 p0c0_0_4 p0c1 _ h
def fn57v2 (p0_0_0:List HCell) (p0_0_1:Int) (p0_0_2:Int) (p0_0_3:Int) (p0_0_4:Int) (p1:Int) (p2:Int) (p3:List Int):Option (Int) :=
 frk1 (fn38v2 p0_0_0 p0_0_1 p0_0_2 p0_0_3 p0_0_4) (fun v1=>some (v1))
theorem c57v2 (p0_0_0:List HCell) (p0_0_1:Int) (p0_0_2:Int) (p0_0_3:Int) (p0_0_4:Int) (p1:Int) (p2:Int) (p3:List Int) (r:Int) (h:fn57v2 p0_0_0 p0_0_1 p0_0_2 p0_0_3 p0_0_4 p1 p2 p3=some r):ConO Tryz.prog 57 [.p 0 0,.p 3 0,.p 4 0,.p 5 0] [(0,.cells 28 [.p 1 0]),(1,.cells 63 [.sl 2,vb p0_0_1,vi p0_0_2,vi p0_0_3,vi p0_0_4,.v (.map none)]),(2,.ex (pO HCell.D 65 p0_0_0) []),(3,.cells 3 [vi p1]),(4,.cells 3 [vi p2]),(5,.cells 36 [.sl 6]),(6,.rd (Et.int .u8) p3)] 7 (.pan (.iface 29 (.int .i64 r)) [(0,.cells 28 [.p 1 0]),(1,.cells 63 [.sl 2,vb p0_0_1,vi p0_0_2,vi p0_0_3,vi p0_0_4,.v (.map none)]),(2,.ex (pO HCell.D 65 p0_0_0) []),(3,.cells 3 [vi p1]),(4,.cells 3 [vi p2]),(5,.cells 36 [.sl 6])] 7):=by
 rw [fn57v2] at h
 refine ConO.of_body Tryz.func57 Tryz.ntmps57 fun w F0 ρ gl=>?_
 refine V0 2 ?_
 refine fk1 h (fun v1 hv2 h=>?_)
 refine V0 0 ?_
 refine CX_ tbOk [1,2] (c38v2_0 p0_0_0 p0_0_1 p0_0_2 p0_0_3 p0_0_4 v1 hv2) (aK aN) ?_
 refine V0 0 ?_
 obtain rfl:=sj h
 exact TP_ [0,1,2,3,4,5,6]
theorem c57v2_0 (p0_0_0:List HCell) (p0_0_1:Int) (p0_0_2:Int) (p0_0_3:Int) (p0_0_4:Int) (p1:Int) (p2:Int) (p3:List Int) (r:Int) (h:fn57v2 p0_0_0 p0_0_1 p0_0_2 p0_0_3 p0_0_4 p1 p2 p3=some r):ConX Tryz.prog 57 [.p 0 0,.p 3 0,.p 4 0,.p 5 0] [(0,.cells 28 [.p 1 0]),(1,.cells 63 [.sl 2,vb p0_0_1,vi p0_0_2,vi p0_0_3,vi p0_0_4,.v (.map none)]),(2,.ex (pO HCell.D 65 p0_0_0) []),(3,.cells 3 [vi p1]),(4,.cells 3 [vi p2]),(5,.cells 36 [.sl 6]),(6,.rd (Et.int .u8) p3)] 7 (.iface 29 (.int .i64 r)) [(0,.cells 28 [.p 1 0]),(1,.cells 63 [.sl 2,vb p0_0_1,vi p0_0_2,vi p0_0_3,vi p0_0_4,.v (.map none)]),(2,.ex (pO HCell.D 65 p0_0_0) []),(3,.cells 3 [vi p1]),(4,.cells 3 [vi p2]),(5,.cells 36 [.sl 6])] 7:=c57v2 p0_0_0 p0_0_1 p0_0_2 p0_0_3 p0_0_4 p1 p2 p3 _ h
def fn45v8 (p0c0_0_0:List HCell) (p0c0_0_1:Int) (p0c0_0_2:Int) (p0c0_0_3:Int) (p0c0_0_4:Int) (p0c1:Int) (p0c2:Int) (p0c3:List Int):Option (Int×Int) :=
 frk1 (fn57v2 p0c0_0_0 p0c0_0_1 p0c0_0_2 p0c0_0_3 p0c0_0_4 p0c1 p0c2 p0c3) (fun v2=>some (((fn87 0 0 v2).2,(fn87 0 0 v2).1)))
theorem c45v8 (p0c0_0_0:List HCell) (p0c0_0_1:Int) (p0c0_0_2:Int) (p0c0_0_3:Int) (p0c0_0_4:Int) (p0c1:Int) (p0c2:Int) (p0c3:List Int) (r:Int×Int) (h:fn45v8 p0c0_0_0 p0c0_0_1 p0c0_0_2 p0c0_0_3 p0c0_0_4 p0c1 p0c2 p0c3=some r):ConO Tryz.prog 45 [.fn (.func 57) [] [.p 0 0,.p 3 0,.p 4 0,.p 5 0]] [(0,.cells 28 [.p 1 0]),(1,.cells 63 [.sl 2,vb p0c0_0_1,vi p0c0_0_2,vi p0c0_0_3,vi p0c0_0_4,.v (.map none)]),(2,.ex (pO HCell.D 65 p0c0_0_0) []),(3,.cells 3 [vi p0c1]),(4,.cells 3 [vi p0c2]),(5,.cells 36 [.sl 6]),(6,.rd (Et.int .u8) p0c3)] 7 (.ret (.tu [vi r.1,vi r.2]) [(0,.cells 28 [.p 1 0]),(1,.cells 63 [.sl 2,vb p0c0_0_1,vi p0c0_0_2,vi p0c0_0_3,vi p0c0_0_4,.v (.map none)]),(2,.ex (pO HCell.D 65 p0c0_0_0) []),(3,.cells 3 [vi p0c1]),(4,.cells 3 [vi p0c2]),(5,.cells 36 [.sl 6])] 7):=by
 rw [fn45v8] at h
 refine ConO.of_body Tryz.func45 Tryz.ntmps45 fun w F0 ρ gl=>?_
 refine V0 3 ?_
 refine DF_ (fun vs1=>?_)
 refine V0 1 ?_
 refine fk1 h (fun v2 hv3 h=>?_)
 refine V0 0 ?_
 refine CX_ tbOk [0,1,2,3,4,5,6] (c57v2_0 p0c0_0_0 p0c0_0_1 p0c0_0_2 p0c0_0_3 p0c0_0_4 p0c1 p0c2 p0c3 v2 hv3) (aK aN) ?_
 refine V0 0 ?_
 obtain rfl:=sj h
 exact TDP_ tbOk Tryz.results45 9 [8,7] (c87 0 0 v2 _ rfl) [0,1,2,3,4,5,6]
theorem c45v8_0 (p0c0_0_0:List HCell) (p0c0_0_1:Int) (p0c0_0_2:Int) (p0c0_0_3:Int) (p0c0_0_4:Int) (p0c1:Int) (p0c2:Int) (p0c3:List Int) (r:Int×Int) (h:fn45v8 p0c0_0_0 p0c0_0_1 p0c0_0_2 p0c0_0_3 p0c0_0_4 p0c1 p0c2 p0c3=some r):Con Tryz.prog 45 [.fn (.func 57) [] [.p 0 0,.p 3 0,.p 4 0,.p 5 0]] [(0,.cells 28 [.p 1 0]),(1,.cells 63 [.sl 2,vb p0c0_0_1,vi p0c0_0_2,vi p0c0_0_3,vi p0c0_0_4,.v (.map none)]),(2,.ex (pO HCell.D 65 p0c0_0_0) []),(3,.cells 3 [vi p0c1]),(4,.cells 3 [vi p0c2]),(5,.cells 36 [.sl 6]),(6,.rd (Et.int .u8) p0c3)] 7 (.tu [vi r.1,vi r.2]) [(0,.cells 28 [.p 1 0]),(1,.cells 63 [.sl 2,vb p0c0_0_1,vi p0c0_0_2,vi p0c0_0_3,vi p0c0_0_4,.v (.map none)]),(2,.ex (pO HCell.D 65 p0c0_0_0) []),(3,.cells 3 [vi p0c1]),(4,.cells 3 [vi p0c2]),(5,.cells 36 [.sl 6])] 7:=c45v8 p0c0_0_0 p0c0_0_1 p0c0_0_2 p0c0_0_3 p0c0_0_4 p0c1 p0c2 p0c3 _ h
def fn44v1:Unit :=
 ()
theorem c44v1 (r:Unit) (h:fn44v1=r):Con Tryz.prog 44 [.v (.map none)] [] 0 (.fn (.func 86) [] [.p 0 0]) [(0,.cells 58 [.v (.map none)])] 1:=by
 rw [fn44v1] at h
 refine Con.of_body Tryz.func44 rfl Tryz.ntmps44 rfl fun w F0 ρ gl=>?_
 refine V0 4 ?_
 subst h
 exact T_ tbOk.t Tryz.results44 [0]
def fn14v2_b1 (rl1:(List (List Int))→Int→Option ((List (List Int)))) (xs5:List (List Int)) (x6:Int):Option ((List (List Int))) :=
 bif decide (x6 < ((fn43v0).length:Int)) then (bif inb x6 ((fn43v0).length) then (bif decide ((gt (fn43v0) x6).size≤9223372036854775807) then (bif decide ((xs5.length+1) * 24≤140737488355328∧xs5.length+1≤9223372036854775807) then (rl1 (xs5++[numsOf (gt (fn43v0) x6)]) (IntKind.i64.wrap (x6+1))) else none) else none) else none) else (some xs5)
def fn14v2_l1:Nat→(List (List Int))→Int→Option ((List (List Int)))
 | 0,_,_=>none
 | n14+1,xs5,x6=>fn14v2_b1 (fn14v2_l1 n14) xs5 x6
theorem fn14v2_l1_s (n14:Nat) (xs5:List (List Int)) (x6:Int):fn14v2_l1 (n14+1) xs5 x6=fn14v2_b1 (fn14v2_l1 n14) xs5 x6:=rfl
def fn14v2_k1 (xs11:List (List Int)):Option (((List (List Int)))) :=
 some (xs11)
def fn14v2 (F:Nat) (p0_0:List HCell) (p0_1:Int) (p0_2:Int) (p0_3:Int) (p0_4:Int):Option ((List (List Int))) :=
 Option.bind (fn14v2_l1 F ([]:List (List Int)) 0) fun o12=>(fn14v2_k1 o12)
theorem c14v2 (F:Nat) (p0_0:List HCell) (p0_1:Int) (p0_2:Int) (p0_3:Int) (p0_4:Int) (r:(List (List Int))) (h:fn14v2 F p0_0 p0_1 p0_2 p0_3 p0_4=some r):Con Tryz.prog 14 [.p 0 0] [(0,.cells 63 [.sl 1,vb p0_1,vi p0_2,vi p0_3,vi p0_4,.v (.map none)]),(1,.ex (pO HCell.D 65 p0_0) [])] 2 (.sl 2) [(0,.cells 63 [.sl 1,vb p0_1,vi p0_2,vi p0_3,vi p0_4,.v (.map none)]),(1,.ex (pO HCell.D 65 p0_0) []),(2,.rowL (Et.int .u8) 5 36 r r.length)] 3:=by
 rw [fn14v2] at h
 refine Con.of_body Tryz.func14 rfl Tryz.ntmps14 rfl fun w F0 ρ gl=>?_
 refine V_ 3 [.pn] aN ?_
 refine CF ?_
 refine V_ 6 [.cl true [] (fun _=>c44v1 _ rfl)] (aK aN) ?_
 refine V_ 1 [.cl true [2] (fun _=>c43v0 _ rfl)] (aK aN) ?_
 refine V0 2 ?_
 refine G4.imp (Imp.nilL (Et.int .u8) 5 36 3 (by rfl)) ?_
 obtain ⟨o12,hl13,h⟩:=bd h
 refine CT 0 ⟨[(3,.sl 2)],[(0,.cells 63 [.sl 1,vb p0_1,vi p0_2,vi p0_3,vi p0_4,.v (.map none)]),(1,.ex (pO HCell.D 65 p0_0) []),(2,.rowL (Et.int .u8) 5 36 o12 o12.length)],3⟩ ?_ ?_
 ·have h016:=h
  clear h
  refine G4.imp (I_ [0,1,3,4]) (LP (fun (n:Nat) (s:(List (List Int))×Int)=>fn14v2_l1 n s.1 s.2) (fun (s:(List (List Int))×Int)=>⟨[(3,.sl 3),(13,.sl 2),(14,vi ((fn43v0).length:Int)),(15,vi s.2)],[(0,.cells 63 [.sl 1,vb p0_1,vi p0_2,vi p0_3,vi p0_4,.v (.map none)]),(1,.ex (pO HCell.D 65 p0_0) []),(2,.row Et.str 9 (fn43v0) ((fn43v0).length) .unk),(3,.rowL (Et.int .u8) 5 36 s.1 s.1.length)],4⟩) (fun _=>rfl) (s0:=(([]:List (List Int)),0)) hl13 ?_)
  clear hl13
  rintro R17 n14 ⟨xs5,x6⟩ h ih15
  replace h:=(fn14v2_l1_s n14 xs5 x6).symm.trans h
  rw [fn14v2_b1] at h
  refine V0 1 ?_
  refine C_ h (fun h hb18=>?_) fun h hb18=>?_
  ·obtain ⟨hk19,h⟩:=ck h
   obtain ⟨hk20,h⟩:=ck h
   obtain ⟨hk21,h⟩:=ck h
   refine V_ 11 [.s2,.b1 (Et.int .u8),.aL (Et.int .u8) 5 _ _] (aC hk19 (aC hk20 (aR (aR (aR (aC hk21 aN)))))) ?_
   exact ih15 (xs5++[numsOf (gt (fn43v0) x6)],IntKind.i64.wrap (x6+1)) h _ _ (I_ [0,1,2,6])
  refine V0 0 ?_
  obtain rfl:=sj h
  exact CE (I_ [0,1,3])
 change fn14v2_k1 o12=_ at h
 rw [fn14v2_k1] at h
 refine V0 2 ?_
 obtain rfl:=sj h
 exact T_ tbOk.t Tryz.results14 [0,1,2]
def fn18v4 (p0_0:List HCell) (p0_1:Int) (p0_2:Int) (p0_3:Int) (p0_4:Int) (p1:List Int) (p2:List Int) (p3:Int):Option (Int) :=
 frk1 (fn45v7 p0_0 p0_1 p0_2 p0_3 p0_4 p1 p2 p3) (fun v1=>some (v1.2))
theorem c18v4 (p0_0:List HCell) (p0_1:Int) (p0_2:Int) (p0_3:Int) (p0_4:Int) (p1:List Int) (p2:List Int) (p3:Int) (r:Int) (h:fn18v4 p0_0 p0_1 p0_2 p0_3 p0_4 p1 p2 p3=some r):Con Tryz.prog 18 [.p 0 0,.sl 2,.sl 3,.v (.int .u64 p3)] [(0,.cells 63 [.sl 1,vb p0_1,vi p0_2,vi p0_3,vi p0_4,.v (.map none)]),(1,.ex (pO HCell.D 65 p0_0) []),(2,.rd (Et.int .u8) p1),(3,.rd (Et.int .u8) p2)] 4 (vi r) [(0,.cells 63 [.sl 1,vb p0_1,vi p0_2,vi p0_3,vi p0_4,.v (.map none)]),(1,.ex (pO HCell.D 65 p0_0) [])] 4:=by
 rw [fn18v4] at h
 refine Con.of_body Tryz.func18 rfl Tryz.ntmps18 rfl fun w F0 ρ gl=>?_
 refine V0 6 ?_
 refine fk1 h (fun v1 hv2 h=>?_)
 refine V_ 1 [.cl true [4,0,1,5,2,6,3,7] (fun _=>c45v7_0 p0_0 p0_1 p0_2 p0_3 p0_4 p1 p2 p3 v1 hv2)] (aK aN) ?_
 refine V0 7 ?_
 obtain rfl:=sj h
 exact T_ tbOk.t Tryz.results18 [0,1,2,3]
def fn20v4 (p0_0:List HCell) (p0_1:Int) (p0_2:Int) (p0_3:Int) (p0_4:Int) (p1:List Int):Option (Int) :=
 frk1 (fn50v2 p0_0 p0_1 p0_2 p0_3 p0_4 p1) (fun v1=>some (v1.2))
theorem c20v4 (p0_0:List HCell) (p0_1:Int) (p0_2:Int) (p0_3:Int) (p0_4:Int) (p1:List Int) (r:Int) (h:fn20v4 p0_0 p0_1 p0_2 p0_3 p0_4 p1=some r):Con Tryz.prog 20 [.p 0 0,.sl 2] [(0,.cells 63 [.sl 1,vb p0_1,vi p0_2,vi p0_3,vi p0_4,.v (.map none)]),(1,.ex (pO HCell.D 65 p0_0) []),(2,.rd (Et.int .u8) p1)] 3 (vi r) [(0,.cells 63 [.sl 1,vb p0_1,vi p0_2,vi p0_3,vi p0_4,.v (.map none)]),(1,.ex (pO HCell.D 65 p0_0) [])] 3:=by
 rw [fn20v4] at h
 refine Con.of_body Tryz.func20 rfl Tryz.ntmps20 rfl fun w F0 ρ gl=>?_
 refine V0 4 ?_
 refine fk1 h (fun v1 hv2 h=>?_)
 refine V_ 1 [.cl true [3,0,1,4,2] (fun _=>c50v2_0 p0_0 p0_1 p0_2 p0_3 p0_4 p1 v1 hv2)] (aK aN) ?_
 refine V0 7 ?_
 obtain rfl:=sj h
 exact T_ tbOk.t Tryz.results20 [0,1,2]
def fn29v4 (p0_0:List HCell) (p0_1:Int) (p0_2:Int) (p0_3:Int) (p0_4:Int) (p1:Int) (p2:Int) (p3:List Int):Option (Int) :=
 frk1 (fn45v8 p0_0 p0_1 p0_2 p0_3 p0_4 p1 p2 p3) (fun v1=>some (v1.2))
theorem c29v4 (p0_0:List HCell) (p0_1:Int) (p0_2:Int) (p0_3:Int) (p0_4:Int) (p1:Int) (p2:Int) (p3:List Int) (r:Int) (h:fn29v4 p0_0 p0_1 p0_2 p0_3 p0_4 p1 p2 p3=some r):Con Tryz.prog 29 [.p 0 0,vi p1,vi p2,.sl 2] [(0,.cells 63 [.sl 1,vb p0_1,vi p0_2,vi p0_3,vi p0_4,.v (.map none)]),(1,.ex (pO HCell.D 65 p0_0) []),(2,.rd (Et.int .u8) p3)] 3 (vi r) [(0,.cells 63 [.sl 1,vb p0_1,vi p0_2,vi p0_3,vi p0_4,.v (.map none)]),(1,.ex (pO HCell.D 65 p0_0) [])] 3:=by
 rw [fn29v4] at h
 refine Con.of_body Tryz.func29 rfl Tryz.ntmps29 rfl fun w F0 ρ gl=>?_
 refine V0 6 ?_
 refine fk1 h (fun v1 hv2 h=>?_)
 refine V_ 1 [.cl true [3,0,1,4,5,6,2] (fun _=>c45v8_0 p0_0 p0_1 p0_2 p0_3 p0_4 p1 p2 p3 v1 hv2)] (aK aN) ?_
 refine V0 7 ?_
 obtain rfl:=sj h
 exact T_ tbOk.t Tryz.results29 [0,1,2]
def fn17 (F:Nat) (p0_0:Int) (p0_3:Int) (p0_4:Int) (p0_5:Int):Option (Bool) :=
 Option.bind (fn19v1 ([]:List Int)) fun v1=>(Option.bind (fn10v1 p0_4) fun v3=>(bif v1.1 != 0 then (some (false)) else (bif v1.2 != 1 then (some (false)) else (bif (v3.1.length:Int) != 0 then (some (false)) else (bif v3.2 != 1 then (some (false)) else (Option.bind (fn18v2 ([]:List Int) ([]:List Int) p0_3) fun v33=>(bif v33 != 1 then (some (false)) else (Option.bind (fn20v2 ([]:List Int)) fun v40=>(bif v40 != 1 then (some (false)) else (Option.bind (fn29v2 p0_4 p0_5 ([]:List Int)) fun v45=>(bif v45 != 1 then (some (false)) else (bif ((fn14v1).length:Int) != 0 then (some (false)) else (Option.bind (fn19v2 ([]:List HCell) 0 0 0 0 ([]:List Int)) fun v49=>(Option.bind (fn10v2 ([]:List HCell) 0 0 0 0 p0_4) fun v51=>(bif v49.1 != 0 then (some (false)) else (bif v49.2 != 1 then (some (false)) else (bif (v51.1.length:Int) != 0 then (some (false)) else (bif v51.2 != 1 then (some (false)) else (Option.bind (fn18v4 ([]:List HCell) 0 0 0 0 ([]:List Int) ([]:List Int) p0_3) fun v81=>(bif v81 != 1 then (some (false)) else (Option.bind (fn20v4 ([]:List HCell) 0 0 0 0 ([]:List Int)) fun v88=>(bif v88 != 1 then (some (false)) else (Option.bind (fn29v4 ([]:List HCell) 0 0 0 0 p0_4 p0_5 ([]:List Int)) fun v93=>(bif v93 != 1 then (some (false)) else (Option.bind (fn14v2 F ([]:List HCell) 0 0 0 0) fun v96=>(bif (v96.length:Int) != 0 then (some (false)) else (Option.bind (fn6 F) fun v99=>(some (v99)))))))))))))))))))))))))))))
theorem c17 (F:Nat) (p0_0:Int) (p0_3:Int) (p0_4:Int) (p0_5:Int) (r:Bool) (h:fn17 F p0_0 p0_3 p0_4 p0_5=some r):Con Tryz.prog 17 [.ag [vi p0_0,.v (.slice none 0 0),.v (.slice none 0 0),.v (.int .u64 p0_3),vi p0_4,vi p0_5]] [] 0 (.v (.bool r)) [] 0:=by
 rw [fn17] at h
 refine Con.of_body Tryz.func17 rfl Tryz.ntmps17 rfl fun w F0 ρ gl=>?_
 refine VL [(13,14,false)] 12 [] (aC rfl aN) ?_
 refine V0 0 ?_
 refine CF ?_
 refine V_ 5 [.sx] aN ?_
 refine LPU 9 fun R0 ih0=>?_
 refine V0 2 ?_
 refine CDT rfl (by rfl) ?_
 refine V_ 8 [.xi 2] (aR (aC rfl aN)) ?_
 refine G4.imp (Imp.nil (Et.int .u8) 5 35 (by rfl)) ?_
 obtain ⟨v1,hv2,h⟩:=bd h
 refine V_ 1 [.cl true [4] (fun _=>c19v1 ([]:List Int) _ hv2)] (aK aN) ?_
 obtain ⟨v3,hv4,h⟩:=bd h
 refine V_ 9 [.cl true [] (fun _=>c10v1 p0_4 _ hv4)] (aK aN) ?_
 refine V0 7 ?_
 refine CDS h (fun h hb11=>?_) (fun h hb11=>?_)
 ·refine VL [(47,48,true),(51,52,true),(56,57,true),(60,61,true)] 22 [] (aC hb11 (aC rfl (aC rfl (aC rfl aN)))) ?_
  refine VL [(60,61,true),(71,72,true)] 7 [] (aC rfl aN) ?_
  refine VL [(71,72,true),(78,79,true)] 11 [] (aC rfl aN) ?_
  refine VL [(78,79,true),(89,90,true)] 5 [] (aC rfl aN) ?_
  refine VL [(89,90,true)] 3 [] aN ?_
  refine V0 0 ?_
  refine CDT rfl (by rfl) ?_
  refine V0 1 ?_
  obtain rfl:=sj h
  exact T_ tbOk.t Tryz.results17 []
 refine VL [(47,48,false)] 4 [] (aC hb11 aN) ?_
 refine CDS h (fun h hb18=>?_) (fun h hb18=>?_)
 ·refine VL [(51,52,true),(56,57,true),(60,61,true)] 18 [] (aC hb18 (aC rfl (aC rfl aN))) ?_
  refine VL [(60,61,true),(71,72,true)] 7 [] (aC rfl aN) ?_
  refine VL [(71,72,true),(78,79,true)] 11 [] (aC rfl aN) ?_
  refine VL [(78,79,true),(89,90,true)] 5 [] (aC rfl aN) ?_
  refine VL [(89,90,true)] 3 [] aN ?_
  refine V0 0 ?_
  refine CDT rfl (by rfl) ?_
  refine V0 1 ?_
  obtain rfl:=sj h
  exact T_ tbOk.t Tryz.results17 []
 refine VL [(51,52,false)] 5 [] (aC hb18 aN) ?_
 refine CDS h (fun h hb25=>?_) (fun h hb25=>?_)
 ·refine VL [(56,57,true),(60,61,true)] 13 [] (aC hb25 (aC rfl aN)) ?_
  refine VL [(60,61,true),(71,72,true)] 7 [] (aC rfl aN) ?_
  refine VL [(71,72,true),(78,79,true)] 11 [] (aC rfl aN) ?_
  refine VL [(78,79,true),(89,90,true)] 5 [] (aC rfl aN) ?_
  refine VL [(89,90,true)] 3 [] aN ?_
  refine V0 0 ?_
  refine CDT rfl (by rfl) ?_
  refine V0 1 ?_
  obtain rfl:=sj h
  exact T_ tbOk.t Tryz.results17 []
 refine VL [(56,57,false)] 4 [] (aC hb25 aN) ?_
 refine CDS h (fun h hb32=>?_) (fun h hb32=>?_)
 ·refine VL [(60,61,true)] 9 [] (aC hb32 aN) ?_
  refine VL [(60,61,true),(71,72,true)] 7 [] (aC rfl aN) ?_
  refine VL [(71,72,true),(78,79,true)] 11 [] (aC rfl aN) ?_
  refine VL [(78,79,true),(89,90,true)] 5 [] (aC rfl aN) ?_
  refine VL [(89,90,true)] 3 [] aN ?_
  refine V0 0 ?_
  refine CDT rfl (by rfl) ?_
  refine V0 1 ?_
  obtain rfl:=sj h
  exact T_ tbOk.t Tryz.results17 []
 refine VL [(60,61,false)] 8 [] (aC hb32 aN) ?_
 refine G4.imp (Imp.nil (Et.int .u8) 5 64 (by rfl)) ?_
 refine VL [(60,61,false)] 0 [] aN ?_
 refine G4.imp (Imp.nil (Et.int .u8) 5 66 (by rfl)) ?_
 obtain ⟨v33,hv34,h⟩:=bd h
 refine VL [(60,61,false)] 1 [.cl true [6,7] (fun _=>c18v2 ([]:List Int) ([]:List Int) p0_3 _ hv34)] (aK aN) ?_
 refine VL [(60,61,false)] 2 [] aN ?_
 refine CDS h (fun h hb39=>?_) (fun h hb39=>?_)
 ·refine VL [(71,72,true)] 5 [] (aC hb39 aN) ?_
  refine VL [(71,72,true),(78,79,true)] 11 [] (aC rfl aN) ?_
  refine VL [(78,79,true),(89,90,true)] 5 [] (aC rfl aN) ?_
  refine VL [(89,90,true)] 3 [] aN ?_
  refine V0 0 ?_
  refine CDT rfl (by rfl) ?_
  refine V0 1 ?_
  obtain rfl:=sj h
  exact T_ tbOk.t Tryz.results17 []
 refine VL [(71,72,false)] 4 [] (aC hb39 aN) ?_
 refine G4.imp (Imp.nil (Et.int .u8) 5 75 (by rfl)) ?_
 obtain ⟨v40,hv41,h⟩:=bd h
 refine VL [(71,72,false)] 1 [.cl true [8] (fun _=>c20v2 ([]:List Int) _ hv41)] (aK aN) ?_
 refine VL [(71,72,false)] 2 [] aN ?_
 refine CDS h (fun h hb44=>?_) (fun h hb44=>?_)
 ·refine VL [(78,79,true)] 9 [] (aC hb44 aN) ?_
  refine VL [(78,79,true),(89,90,true)] 5 [] (aC rfl aN) ?_
  refine VL [(89,90,true)] 3 [] aN ?_
  refine V0 0 ?_
  refine CDT rfl (by rfl) ?_
  refine V0 1 ?_
  obtain rfl:=sj h
  exact T_ tbOk.t Tryz.results17 []
 refine VL [(78,79,false)] 8 [] (aC hb44 aN) ?_
 refine G4.imp (Imp.nil (Et.int .u8) 5 86 (by rfl)) ?_
 obtain ⟨v45,hv46,h⟩:=bd h
 refine VL [(78,79,false)] 1 [.cl true [9] (fun _=>c29v2 p0_4 p0_5 ([]:List Int) _ hv46)] (aK aN) ?_
 refine VL [(78,79,false)] 2 [] aN ?_
 refine CDS h (fun h hb47=>?_) (fun h hb47=>?_)
 ·refine VL [(89,90,true)] 3 [] (aC hb47 aN) ?_
  refine VL [(89,90,true)] 3 [] aN ?_
  refine V0 0 ?_
  refine CDT rfl (by rfl) ?_
  refine V0 1 ?_
  obtain rfl:=sj h
  exact T_ tbOk.t Tryz.results17 []
 refine VL [(89,90,false)] 3 [.cl true [] (fun _=>c14v1 _ rfl)] (aC hb47 (aK aN)) ?_
 refine VL [(89,90,false)] 3 [.ln] aN ?_
 refine V0 0 ?_
 refine C_ h (fun h hb48=>?_) fun h hb48=>?_
 ·refine V0 1 ?_
  obtain rfl:=sj h
  exact T_ tbOk.t Tryz.results17 []
 refine V0 3 ?_
 refine ih0 _ _ ?_
 intro R1 ih1
 refine G4.imp (Imp.keep [1,3,4]) ?_
 refine V0 2 ?_
 refine CDT rfl (by rfl) ?_
 refine V_ 8 [.xi 2] (aR (aC rfl aN)) ?_
 refine G4.imp (Imp.nilOC HCell.D 65 1 0 (by rfl) (by rfl) (by rfl)) ?_
 refine V0 0 ?_
 refine G4.imp (Imp.nil (Et.int .u8) 5 35 (by rfl)) ?_
 obtain ⟨v49,hv50,h⟩:=bd h
 refine V_ 1 [.cl true [1,11,12] (fun _=>c19v2 ([]:List HCell) 0 0 0 0 ([]:List Int) _ hv50)] (aK aN) ?_
 obtain ⟨v51,hv52,h⟩:=bd h
 refine V_ 9 [.cl true [1,11] (fun _=>c10v2 ([]:List HCell) 0 0 0 0 p0_4 _ hv52)] (aK aN) ?_
 refine V0 7 ?_
 refine CDS h (fun h hb59=>?_) (fun h hb59=>?_)
 ·refine VL [(47,48,true),(51,52,true),(56,57,true),(60,61,true)] 22 [] (aC hb59 (aC rfl (aC rfl (aC rfl aN)))) ?_
  refine VL [(60,61,true),(71,72,true)] 7 [] (aC rfl aN) ?_
  refine VL [(71,72,true),(78,79,true)] 11 [] (aC rfl aN) ?_
  refine VL [(78,79,true),(89,90,true)] 5 [] (aC rfl aN) ?_
  refine VL [(89,90,true)] 3 [] aN ?_
  refine V0 0 ?_
  refine CDT rfl (by rfl) ?_
  refine V0 1 ?_
  obtain rfl:=sj h
  exact T_ tbOk.t Tryz.results17 []
 refine VL [(47,48,false)] 4 [] (aC hb59 aN) ?_
 refine CDS h (fun h hb66=>?_) (fun h hb66=>?_)
 ·refine VL [(51,52,true),(56,57,true),(60,61,true)] 18 [] (aC hb66 (aC rfl (aC rfl aN))) ?_
  refine VL [(60,61,true),(71,72,true)] 7 [] (aC rfl aN) ?_
  refine VL [(71,72,true),(78,79,true)] 11 [] (aC rfl aN) ?_
  refine VL [(78,79,true),(89,90,true)] 5 [] (aC rfl aN) ?_
  refine VL [(89,90,true)] 3 [] aN ?_
  refine V0 0 ?_
  refine CDT rfl (by rfl) ?_
  refine V0 1 ?_
  obtain rfl:=sj h
  exact T_ tbOk.t Tryz.results17 []
 refine VL [(51,52,false)] 5 [] (aC hb66 aN) ?_
 refine CDS h (fun h hb73=>?_) (fun h hb73=>?_)
 ·refine VL [(56,57,true),(60,61,true)] 13 [] (aC hb73 (aC rfl aN)) ?_
  refine VL [(60,61,true),(71,72,true)] 7 [] (aC rfl aN) ?_
  refine VL [(71,72,true),(78,79,true)] 11 [] (aC rfl aN) ?_
  refine VL [(78,79,true),(89,90,true)] 5 [] (aC rfl aN) ?_
  refine VL [(89,90,true)] 3 [] aN ?_
  refine V0 0 ?_
  refine CDT rfl (by rfl) ?_
  refine V0 1 ?_
  obtain rfl:=sj h
  exact T_ tbOk.t Tryz.results17 []
 refine VL [(56,57,false)] 4 [] (aC hb73 aN) ?_
 refine CDS h (fun h hb80=>?_) (fun h hb80=>?_)
 ·refine VL [(60,61,true)] 9 [] (aC hb80 aN) ?_
  refine VL [(60,61,true),(71,72,true)] 7 [] (aC rfl aN) ?_
  refine VL [(71,72,true),(78,79,true)] 11 [] (aC rfl aN) ?_
  refine VL [(78,79,true),(89,90,true)] 5 [] (aC rfl aN) ?_
  refine VL [(89,90,true)] 3 [] aN ?_
  refine V0 0 ?_
  refine CDT rfl (by rfl) ?_
  refine V0 1 ?_
  obtain rfl:=sj h
  exact T_ tbOk.t Tryz.results17 []
 refine VL [(60,61,false)] 8 [] (aC hb80 aN) ?_
 refine G4.imp (Imp.nil (Et.int .u8) 5 64 (by rfl)) ?_
 refine VL [(60,61,false)] 0 [] aN ?_
 refine G4.imp (Imp.nil (Et.int .u8) 5 66 (by rfl)) ?_
 obtain ⟨v81,hv82,h⟩:=bd h
 refine VL [(60,61,false)] 1 [.cl true [1,11,14,15] (fun _=>c18v4 ([]:List HCell) 0 0 0 0 ([]:List Int) ([]:List Int) p0_3 _ hv82)] (aK aN) ?_
 refine VL [(60,61,false)] 2 [] aN ?_
 refine CDS h (fun h hb87=>?_) (fun h hb87=>?_)
 ·refine VL [(71,72,true)] 5 [] (aC hb87 aN) ?_
  refine VL [(71,72,true),(78,79,true)] 11 [] (aC rfl aN) ?_
  refine VL [(78,79,true),(89,90,true)] 5 [] (aC rfl aN) ?_
  refine VL [(89,90,true)] 3 [] aN ?_
  refine V0 0 ?_
  refine CDT rfl (by rfl) ?_
  refine V0 1 ?_
  obtain rfl:=sj h
  exact T_ tbOk.t Tryz.results17 []
 refine VL [(71,72,false)] 4 [] (aC hb87 aN) ?_
 refine G4.imp (Imp.nil (Et.int .u8) 5 75 (by rfl)) ?_
 obtain ⟨v88,hv89,h⟩:=bd h
 refine VL [(71,72,false)] 1 [.cl true [1,11,16] (fun _=>c20v4 ([]:List HCell) 0 0 0 0 ([]:List Int) _ hv89)] (aK aN) ?_
 refine VL [(71,72,false)] 2 [] aN ?_
 refine CDS h (fun h hb92=>?_) (fun h hb92=>?_)
 ·refine VL [(78,79,true)] 9 [] (aC hb92 aN) ?_
  refine VL [(78,79,true),(89,90,true)] 5 [] (aC rfl aN) ?_
  refine VL [(89,90,true)] 3 [] aN ?_
  refine V0 0 ?_
  refine CDT rfl (by rfl) ?_
  refine V0 1 ?_
  obtain rfl:=sj h
  exact T_ tbOk.t Tryz.results17 []
 refine VL [(78,79,false)] 8 [] (aC hb92 aN) ?_
 refine G4.imp (Imp.nil (Et.int .u8) 5 86 (by rfl)) ?_
 obtain ⟨v93,hv94,h⟩:=bd h
 refine VL [(78,79,false)] 1 [.cl true [1,11,17] (fun _=>c29v4 ([]:List HCell) 0 0 0 0 p0_4 p0_5 ([]:List Int) _ hv94)] (aK aN) ?_
 refine VL [(78,79,false)] 2 [] aN ?_
 refine CDS h (fun h hb95=>?_) (fun h hb95=>?_)
 ·refine VL [(89,90,true)] 3 [] (aC hb95 aN) ?_
  refine VL [(89,90,true)] 3 [] aN ?_
  refine V0 0 ?_
  refine CDT rfl (by rfl) ?_
  refine V0 1 ?_
  obtain rfl:=sj h
  exact T_ tbOk.t Tryz.results17 []
 obtain ⟨v96,hv97,h⟩:=bd h
 refine VL [(89,90,false)] 3 [.cl true [1,11] (fun _=>c14v2 F ([]:List HCell) 0 0 0 0 _ hv97)] (aC hb95 (aK aN)) ?_
 refine VL [(89,90,false)] 3 [.ln] aN ?_
 refine V0 0 ?_
 refine C_ h (fun h hb98=>?_) fun h hb98=>?_
 ·refine V0 1 ?_
  obtain rfl:=sj h
  exact T_ tbOk.t Tryz.results17 []
 refine V0 3 ?_
 refine ih1 _ _ ?_
 intro R2 ih2
 refine G4.imp (Imp.keep [1,3,4]) ?_
 refine V0 2 ?_
 refine CF ?_
 obtain ⟨v99,hv100,h⟩:=bd h
 refine V_ 1 [.cl true [] (fun _=>c6 F _ hv100)] (aK aN) ?_
 refine V0 1 ?_
 obtain rfl:=sj h
 exact T_ tbOk.t Tryz.results17 []
abbrev nsX:List Int:=[(-9223372036854775808),(-1),0,1,2,3,64,65,1024,1025,9223372036854775807]
abbrev ksX:List ByteArray:=[(⟨#[97,97]⟩:ByteArray),(⟨#[98,98]⟩:ByteArray),(⟨#[99,99]⟩:ByteArray),(⟨#[97]⟩:ByteArray),(⟨#[]⟩:ByteArray),(⟨#[97,97,97]⟩:ByteArray),(⟨#[0,0]⟩:ByteArray),(⟨#[255,255]⟩:ByteArray)]
def fn4_b2 (F:Nat) (x172:Int) (rl2:Int→Option ((Unit)⊕((Unit)⊕(Bool)))) (x405:Int):Option ((Unit)⊕((Unit)⊕(Bool))) :=
 bif decide (x405 < 27) then (bif (x405.tmod 3) == 0 then (bif inb x172 11 then (frk2 (fn7 F (⟨IntKind.u8.wrap (IntKind.i64.wrap (x405.tdiv 3)),gt nsX x172,3,2⟩:MSpec)) (fun v469=>frk2 (fn8 F (⟨IntKind.u8.wrap (IntKind.i64.wrap (x405.tdiv 3)),gt nsX x172,3,2⟩:MSpec)) (fun v471=>bif v469 != v471 then (some (.inr (.inr (false)))) else (bif true != true then (some (.inr (.inr (false)))) else (rl2 (IntKind.i64.wrap (x405+1))))) (fun v475=>none)) (fun v477=>frk2 (fn8 F (⟨IntKind.u8.wrap (IntKind.i64.wrap (x405.tdiv 3)),gt nsX x172,3,2⟩:MSpec)) (fun v479=>none) (fun v481=>bif v477.2.2.2.2.2.2 != v481.2.2.2.2.2 then (some (.inr (.inr (false)))) else (bif false != false then (some (.inr (.inr (false)))) else (rl2 (IntKind.i64.wrap (x405+1))))))) else none) else (bif (x405.tmod 3) == 1 then (bif inb x172 11 then (frk2 (fn7 F (⟨IntKind.u8.wrap (IntKind.i64.wrap (x405.tdiv 3)),2,gt nsX x172,2⟩:MSpec)) (fun v487=>frk2 (fn8 F (⟨IntKind.u8.wrap (IntKind.i64.wrap (x405.tdiv 3)),2,gt nsX x172,2⟩:MSpec)) (fun v489=>bif v487 != v489 then (some (.inr (.inr (false)))) else (bif true != true then (some (.inr (.inr (false)))) else (rl2 (IntKind.i64.wrap (x405+1))))) (fun v493=>none)) (fun v495=>frk2 (fn8 F (⟨IntKind.u8.wrap (IntKind.i64.wrap (x405.tdiv 3)),2,gt nsX x172,2⟩:MSpec)) (fun v497=>none) (fun v499=>bif v495.2.2.2.2.2.2 != v499.2.2.2.2.2 then (some (.inr (.inr (false)))) else (bif false != false then (some (.inr (.inr (false)))) else (rl2 (IntKind.i64.wrap (x405+1))))))) else none) else (bif inb x172 11 then (frk2 (fn7 F (⟨IntKind.u8.wrap (IntKind.i64.wrap (x405.tdiv 3)),2,3,gt nsX x172⟩:MSpec)) (fun v504=>frk2 (fn8 F (⟨IntKind.u8.wrap (IntKind.i64.wrap (x405.tdiv 3)),2,3,gt nsX x172⟩:MSpec)) (fun v506=>bif v504 != v506 then (some (.inr (.inr (false)))) else (bif true != true then (some (.inr (.inr (false)))) else (rl2 (IntKind.i64.wrap (x405+1))))) (fun v510=>none)) (fun v512=>frk2 (fn8 F (⟨IntKind.u8.wrap (IntKind.i64.wrap (x405.tdiv 3)),2,3,gt nsX x172⟩:MSpec)) (fun v514=>none) (fun v516=>bif v512.2.2.2.2.2.2 != v516.2.2.2.2.2 then (some (.inr (.inr (false)))) else (bif false != false then (some (.inr (.inr (false)))) else (rl2 (IntKind.i64.wrap (x405+1))))))) else none))) else (some (.inl ()))
def fn4_l2 (F:Nat) (x172:Int):Nat→Int→Option ((Unit)⊕((Unit)⊕(Bool)))
 | 0,_=>none
 | n462+1,x405=>fn4_b2 F x172 (fn4_l2 F x172 n462) x405
theorem fn4_l2_s (F:Nat) (x172:Int) (n462:Nat) (x405:Int):fn4_l2 F x172 (n462+1) x405=fn4_b2 F x172 (fn4_l2 F x172 n462) x405:=rfl
def fn4_k2 (x172:Int) (rl1:Int→Option ((Unit)⊕(Bool))):Option ((Unit)⊕(Bool)) :=
 rl1 (IntKind.i64.wrap (x172+1))
def fn4_b4 (x558:Int) (rl4:Int→Option ((Unit)⊕((Unit)⊕(Bool)))) (x615:Int):Option ((Unit)⊕((Unit)⊕(Bool))) :=
 bif decide (x615 < (ksX.length:Int)) then (bif inb x558 8 then (bif decide ((gt ksX x558).size≤9223372036854775807) then (bif inb x615 8 then (bif decide ((gt ksX x615).size≤9223372036854775807) then (bif sliceOk ((0:Nat):Int) (x615.tmod 3) (⟨#[97,98]⟩:ByteArray).size then (bif decide (((⟨#[97,98]⟩:ByteArray).extract ((0:Nat):Int).toNat (x615.tmod 3).toNat).size≤9223372036854775807) then (Option.bind (fn3L (⟨2,2,3,2⟩:MSpec) ([⟨0,numsOf (gt ksX x558),([120,121,122]:List Int),0,0,0⟩,⟨0,numsOf (gt ksX x615),([117,118,119]:List Int),IntKind.u64.wrap (x558.tmod 4),0,0⟩,⟨0,([99,99]:List Int),([114,115,116]:List Int),IntKind.u64.wrap (x615.tmod 4),0,0⟩,⟨4,numsOf (gt ksX x558),[],0,0,0⟩,⟨0,numsOf (gt ksX x615),numsOf ((⟨#[97,98]⟩:ByteArray).extract ((0:Nat):Int).toNat (x615.tmod 3).toNat),0,0,0⟩,⟨3,[],([33,33]:List Int),0,IntKind.i64.wrap (x558 - 1),IntKind.i64.wrap (x615 - 2)⟩,⟨0,([100,100]:List Int),([108,109,110]:List Int),1,0,0⟩,⟨4,numsOf (gt ksX x615),[],0,0,0⟩,⟨2,([100,100]:List Int),[],0,0,0⟩]:List Do)) fun v639=>(bif !v639 then (some (.inr (.inr (false)))) else (rl4 (IntKind.i64.wrap (x615+1))))) else none) else none) else none) else none) else none) else none) else (some (.inl ()))
def fn4_l4 (x558:Int):Nat→Int→Option ((Unit)⊕((Unit)⊕(Bool)))
 | 0,_=>none
 | n628+1,x615=>fn4_b4 x558 (fn4_l4 x558 n628) x615
theorem fn4_l4_s (x558:Int) (n628:Nat) (x615:Int):fn4_l4 x558 (n628+1) x615=fn4_b4 x558 (fn4_l4 x558 n628) x615:=rfl
def fn4_k4 (x558:Int) (rl3:Int→Option ((Unit)⊕(Bool))):Option ((Unit)⊕(Bool)) :=
 rl3 (IntKind.i64.wrap (x558+1))
def fn4_b3 (F:Nat) (rl3:Int→Option ((Unit)⊕(Bool))) (x558:Int):Option ((Unit)⊕(Bool)) :=
 bif decide (x558 < (ksX.length:Int)) then (Option.bind (fn4_l4 x558 F 0) fun o626=>(match o626 with | .inl u=>fn4_k4 x558 rl3 | .inr u=>some u)) else (some (.inl ()))
def fn4_l3 (F:Nat):Nat→Int→Option ((Unit)⊕(Bool))
 | 0,_=>none
 | n600+1,x558=>fn4_b3 F (fn4_l3 F n600) x558
theorem fn4_l3_s (F:Nat) (n600:Nat) (x558:Int):fn4_l3 F (n600+1) x558=fn4_b3 F (fn4_l3 F n600) x558:=rfl
def fn4_k3 (F:Nat):Option (Bool) :=
 Option.bind (fn3N (⟨0,0,0,0⟩:MSpec)) fun v643=>(Option.bind (bif bif v643 then true else false then fn17 F 0 0 0 0 else some false) fun v645=>(Option.bind (bif bif v643&&v645 then true else false then fn6 F else some false) fun v647=>(some ((v643&&v645)&&v647))))
def fn4_b1 (F:Nat) (rl1:Int→Option ((Unit)⊕(Bool))) (x172:Int):Option ((Unit)⊕(Bool)) :=
 bif decide (x172 < (nsX.length:Int)) then (Option.bind (fn4_l2 F x172 F 0) fun o460=>(match o460 with | .inl u=>fn4_k2 x172 rl1 | .inr u=>some u)) else (some (.inl ()))
def fn4_l1 (F:Nat):Nat→Int→Option ((Unit)⊕(Bool))
 | 0,_=>none
 | n346+1,x172=>fn4_b1 F (fn4_l1 F n346) x172
theorem fn4_l1_s (F:Nat) (n346:Nat) (x172:Int):fn4_l1 F (n346+1) x172=fn4_b1 F (fn4_l1 F n346) x172:=rfl
def fn4_k1 (F:Nat):Option (Bool) :=
 Option.bind (fn4_l3 F F 0) fun o598=>(match o598 with | .inl u=>fn4_k3 F | .inr u=>some u)
def fn4 (F:Nat):Option (Bool) :=
 Option.bind (fn4_l1 F F 0) fun o344=>(match o344 with | .inl u=>fn4_k1 F | .inr u=>some u)
theorem c4 (F:Nat) (r:Bool) (h:fn4 F=some r):Con Tryz.prog 4 [] [] 0 (.v (.bool r)) [] 0:=by
 rw [fn4] at h
 refine Con.of_body Tryz.func4 rfl Tryz.ntmps4 rfl fun w F0 ρ gl=>?_
 refine V_ 4 [.bs (Et.int .i64) nsX] (aR (aR aN)) ?_
 obtain ⟨o344,hl345,h⟩:=bd h
 refine CTS 0 (fun u650=>⟨[],[],0⟩) o344 ?_ (fun u650 hu650=>?_)
 ·have h0348:=h
  clear h
  refine G4.imp (I_ [0]) (LP (fun (n:Nat) (s:Int)=>fn4_l1 F n s) (fun (s:Int)=>⟨[(1,.sl 0),(2,vi s)],[(0,.row (Et.int .i64) 3 nsX 11 .no)],1⟩) (fun _=>rfl) (s0:=0) hl345 ?_)
  clear hl345
  rintro R349 n346 x172 h ih347
  replace h:=(fn4_l1_s F n346 x172).symm.trans h
  rw [fn4_b1] at h
  refine V0 4 ?_
  refine C_ h (fun h hb350=>?_) fun h hb350=>?_
  ·refine V0 1 ?_
   obtain ⟨o460,hl461,h⟩:=bd h
   refine CTS 2 (fun u520=>⟨[(1,.sl 0),(2,vi x172)],[(0,.row (Et.int .i64) 3 nsX 11 .no)],1⟩) o460 ?_ (fun u520 hu520=>?_)
   ·have h0464:=h
    clear h
    refine G4.imp (I_ [0]) (LP (fun (n:Nat) (s:Int)=>fn4_l2 F x172 n s) (fun (s:Int)=>⟨[(1,.sl 0),(2,vi x172),(3,vi s)],[(0,.row (Et.int .i64) 3 nsX 11 .no)],1⟩) (fun _=>rfl) (s0:=0) hl461 ?_)
    clear hl461
    rintro R465 n462 x405 h ih463
    replace h:=(fn4_l2_s F x172 n462 x405).symm.trans h
    rw [fn4_b2] at h
    refine V0 2 ?_
    refine C_ h (fun h hb466=>?_) fun h hb466=>?_
    ·refine V_ 10 [] (aC rfl (aC rfl aN)) ?_
     refine C_ h (fun h hb467=>?_) fun h hb467=>?_
     ·obtain ⟨hk468,h⟩:=ck h
      refine V_ 7 [] (aC hk468 aN) ?_
      refine fk2 h (fun v469 hv470 h=>?_) (fun v477 hv478 h=>?_)
      ·refine V_ 1 [.cl true [] (fun _=>c7_0 F (⟨IntKind.u8.wrap (IntKind.i64.wrap (x405.tdiv 3)),gt nsX x172,3,2⟩:MSpec) v469 hv470)] (aK aN) ?_
       refine V0 6 ?_
       refine fk2 h (fun v471 hv472 h=>?_) (fun v475 hv476 h=>?_)
       ·refine V_ 1 [.cl true [] (fun _=>c8_0 F (⟨IntKind.u8.wrap (IntKind.i64.wrap (x405.tdiv 3)),gt nsX x172,3,2⟩:MSpec) v471 hv472)] (aK aN) ?_
        refine V0 8 ?_
        refine CDS h (fun h hb473=>?_) (fun h hb473=>?_)
        ·refine VL [(62,63,true)] 7 [] (aC hb473 aN) ?_
         refine V0 0 ?_
         refine CDT rfl (by rfl) ?_
         refine V0 1 ?_
         obtain rfl:=sj h
         replace h:=h0464
         refine V0 0 ?_
         obtain rfl:=sj h
         replace h:=h0348
         refine V0 0 ?_
         obtain rfl:=sj h
         exact T_ tbOk.t Tryz.results4 []
        refine VL [(62,63,false)] 7 [.pn,.pn] (aC hb473 aN) ?_
        refine V0 0 ?_
        refine C_ h (fun h hb474=>?_) fun h hb474=>?_
        ·refine V0 1 ?_
         obtain rfl:=sj h
         replace h:=h0464
         refine V0 0 ?_
         obtain rfl:=sj h
         replace h:=h0348
         refine V0 0 ?_
         obtain rfl:=sj h
         exact T_ tbOk.t Tryz.results4 []
        refine V0 3 ?_
        exact ih463 (IntKind.i64.wrap (x405+1)) h _ _ (I_ [0])
       cases h
      refine V_ 1 [.cl true [] (fun _=>c7_1 F (⟨IntKind.u8.wrap (IntKind.i64.wrap (x405.tdiv 3)),gt nsX x172,3,2⟩:MSpec) v477 hv478)] (aK aN) ?_
      refine V0 6 ?_
      refine fk2 h (fun v479 hv480 h=>?_) (fun v481 hv482 h=>?_)
      ·cases h
      refine V_ 1 [.cl true [] (fun _=>c8_1 F (⟨IntKind.u8.wrap (IntKind.i64.wrap (x405.tdiv 3)),gt nsX x172,3,2⟩:MSpec) v481 hv482)] (aK aN) ?_
      refine V0 8 ?_
      refine CDS h (fun h hb483=>?_) (fun h hb483=>?_)
      ·refine VL [(62,63,true)] 7 [] (aC hb483 aN) ?_
       refine V0 0 ?_
       refine CDT rfl (by rfl) ?_
       refine V0 1 ?_
       obtain rfl:=sj h
       replace h:=h0464
       refine V0 0 ?_
       obtain rfl:=sj h
       replace h:=h0348
       refine V0 0 ?_
       obtain rfl:=sj h
       exact T_ tbOk.t Tryz.results4 []
      refine VL [(62,63,false)] 7 [.pn,.pn] (aC hb483 aN) ?_
      refine V0 0 ?_
      refine C_ h (fun h hb484=>?_) fun h hb484=>?_
      ·refine V0 1 ?_
       obtain rfl:=sj h
       replace h:=h0464
       refine V0 0 ?_
       obtain rfl:=sj h
       replace h:=h0348
       refine V0 0 ?_
       obtain rfl:=sj h
       exact T_ tbOk.t Tryz.results4 []
      refine V0 3 ?_
      exact ih463 (IntKind.i64.wrap (x405+1)) h _ _ (I_ [0])
     refine V0 2 ?_
     refine C_ h (fun h hb485=>?_) fun h hb485=>?_
     ·obtain ⟨hk486,h⟩:=ck h
      refine V_ 7 [] (aC hk486 aN) ?_
      refine fk2 h (fun v487 hv488 h=>?_) (fun v495 hv496 h=>?_)
      ·refine V_ 1 [.cl true [] (fun _=>c7_0 F (⟨IntKind.u8.wrap (IntKind.i64.wrap (x405.tdiv 3)),2,gt nsX x172,2⟩:MSpec) v487 hv488)] (aK aN) ?_
       refine V0 6 ?_
       refine fk2 h (fun v489 hv490 h=>?_) (fun v493 hv494 h=>?_)
       ·refine V_ 1 [.cl true [] (fun _=>c8_0 F (⟨IntKind.u8.wrap (IntKind.i64.wrap (x405.tdiv 3)),2,gt nsX x172,2⟩:MSpec) v489 hv490)] (aK aN) ?_
        refine V0 8 ?_
        refine CDS h (fun h hb491=>?_) (fun h hb491=>?_)
        ·refine VL [(62,63,true)] 7 [] (aC hb491 aN) ?_
         refine V0 0 ?_
         refine CDT rfl (by rfl) ?_
         refine V0 1 ?_
         obtain rfl:=sj h
         replace h:=h0464
         refine V0 0 ?_
         obtain rfl:=sj h
         replace h:=h0348
         refine V0 0 ?_
         obtain rfl:=sj h
         exact T_ tbOk.t Tryz.results4 []
        refine VL [(62,63,false)] 7 [.pn,.pn] (aC hb491 aN) ?_
        refine V0 0 ?_
        refine C_ h (fun h hb492=>?_) fun h hb492=>?_
        ·refine V0 1 ?_
         obtain rfl:=sj h
         replace h:=h0464
         refine V0 0 ?_
         obtain rfl:=sj h
         replace h:=h0348
         refine V0 0 ?_
         obtain rfl:=sj h
         exact T_ tbOk.t Tryz.results4 []
        refine V0 3 ?_
        exact ih463 (IntKind.i64.wrap (x405+1)) h _ _ (I_ [0])
       cases h
      refine V_ 1 [.cl true [] (fun _=>c7_1 F (⟨IntKind.u8.wrap (IntKind.i64.wrap (x405.tdiv 3)),2,gt nsX x172,2⟩:MSpec) v495 hv496)] (aK aN) ?_
      refine V0 6 ?_
      refine fk2 h (fun v497 hv498 h=>?_) (fun v499 hv500 h=>?_)
      ·cases h
      refine V_ 1 [.cl true [] (fun _=>c8_1 F (⟨IntKind.u8.wrap (IntKind.i64.wrap (x405.tdiv 3)),2,gt nsX x172,2⟩:MSpec) v499 hv500)] (aK aN) ?_
      refine V0 8 ?_
      refine CDS h (fun h hb501=>?_) (fun h hb501=>?_)
      ·refine VL [(62,63,true)] 7 [] (aC hb501 aN) ?_
       refine V0 0 ?_
       refine CDT rfl (by rfl) ?_
       refine V0 1 ?_
       obtain rfl:=sj h
       replace h:=h0464
       refine V0 0 ?_
       obtain rfl:=sj h
       replace h:=h0348
       refine V0 0 ?_
       obtain rfl:=sj h
       exact T_ tbOk.t Tryz.results4 []
      refine VL [(62,63,false)] 7 [.pn,.pn] (aC hb501 aN) ?_
      refine V0 0 ?_
      refine C_ h (fun h hb502=>?_) fun h hb502=>?_
      ·refine V0 1 ?_
       obtain rfl:=sj h
       replace h:=h0464
       refine V0 0 ?_
       obtain rfl:=sj h
       replace h:=h0348
       refine V0 0 ?_
       obtain rfl:=sj h
       exact T_ tbOk.t Tryz.results4 []
      refine V0 3 ?_
      exact ih463 (IntKind.i64.wrap (x405+1)) h _ _ (I_ [0])
     obtain ⟨hk503,h⟩:=ck h
     refine V_ 7 [] (aC hk503 aN) ?_
     refine fk2 h (fun v504 hv505 h=>?_) (fun v512 hv513 h=>?_)
     ·refine V_ 1 [.cl true [] (fun _=>c7_0 F (⟨IntKind.u8.wrap (IntKind.i64.wrap (x405.tdiv 3)),2,3,gt nsX x172⟩:MSpec) v504 hv505)] (aK aN) ?_
      refine V0 6 ?_
      refine fk2 h (fun v506 hv507 h=>?_) (fun v510 hv511 h=>?_)
      ·refine V_ 1 [.cl true [] (fun _=>c8_0 F (⟨IntKind.u8.wrap (IntKind.i64.wrap (x405.tdiv 3)),2,3,gt nsX x172⟩:MSpec) v506 hv507)] (aK aN) ?_
       refine V0 8 ?_
       refine CDS h (fun h hb508=>?_) (fun h hb508=>?_)
       ·refine VL [(62,63,true)] 7 [] (aC hb508 aN) ?_
        refine V0 0 ?_
        refine CDT rfl (by rfl) ?_
        refine V0 1 ?_
        obtain rfl:=sj h
        replace h:=h0464
        refine V0 0 ?_
        obtain rfl:=sj h
        replace h:=h0348
        refine V0 0 ?_
        obtain rfl:=sj h
        exact T_ tbOk.t Tryz.results4 []
       refine VL [(62,63,false)] 7 [.pn,.pn] (aC hb508 aN) ?_
       refine V0 0 ?_
       refine C_ h (fun h hb509=>?_) fun h hb509=>?_
       ·refine V0 1 ?_
        obtain rfl:=sj h
        replace h:=h0464
        refine V0 0 ?_
        obtain rfl:=sj h
        replace h:=h0348
        refine V0 0 ?_
        obtain rfl:=sj h
        exact T_ tbOk.t Tryz.results4 []
       refine V0 3 ?_
       exact ih463 (IntKind.i64.wrap (x405+1)) h _ _ (I_ [0])
      cases h
     refine V_ 1 [.cl true [] (fun _=>c7_1 F (⟨IntKind.u8.wrap (IntKind.i64.wrap (x405.tdiv 3)),2,3,gt nsX x172⟩:MSpec) v512 hv513)] (aK aN) ?_
     refine V0 6 ?_
     refine fk2 h (fun v514 hv515 h=>?_) (fun v516 hv517 h=>?_)
     ·cases h
     refine V_ 1 [.cl true [] (fun _=>c8_1 F (⟨IntKind.u8.wrap (IntKind.i64.wrap (x405.tdiv 3)),2,3,gt nsX x172⟩:MSpec) v516 hv517)] (aK aN) ?_
     refine V0 8 ?_
     refine CDS h (fun h hb518=>?_) (fun h hb518=>?_)
     ·refine VL [(62,63,true)] 7 [] (aC hb518 aN) ?_
      refine V0 0 ?_
      refine CDT rfl (by rfl) ?_
      refine V0 1 ?_
      obtain rfl:=sj h
      replace h:=h0464
      refine V0 0 ?_
      obtain rfl:=sj h
      replace h:=h0348
      refine V0 0 ?_
      obtain rfl:=sj h
      exact T_ tbOk.t Tryz.results4 []
     refine VL [(62,63,false)] 7 [.pn,.pn] (aC hb518 aN) ?_
     refine V0 0 ?_
     refine C_ h (fun h hb519=>?_) fun h hb519=>?_
     ·refine V0 1 ?_
      obtain rfl:=sj h
      replace h:=h0464
      refine V0 0 ?_
      obtain rfl:=sj h
      replace h:=h0348
      refine V0 0 ?_
      obtain rfl:=sj h
      exact T_ tbOk.t Tryz.results4 []
     refine V0 3 ?_
     exact ih463 (IntKind.i64.wrap (x405+1)) h _ _ (I_ [0])
    refine V0 0 ?_
    obtain rfl:=sj h
    exact CES _ rfl (I_ [0])
   subst hu520
   change fn4_k2 x172 (fn4_l1 F n346)=_ at h
   rw [fn4_k2] at h
   refine V0 3 ?_
   exact ih347 (IntKind.i64.wrap (x172+1)) h _ _ (I_ [0])
  refine V0 0 ?_
  obtain rfl:=sj h
  exact CES _ rfl (I_ [])
 subst hu650
 change fn4_k1 F=_ at h
 rw [fn4_k1] at h
 refine V_ 6 [.bs Et.str ksX] (aR (aR aN)) ?_
 obtain ⟨o598,hl599,h⟩:=bd h
 refine CTS 5 (fun u649=>⟨[],[],0⟩) o598 ?_ (fun u649 hu649=>?_)
 ·have h0602:=h
  clear h
  refine G4.imp (I_ [0,1]) (LP (fun (n:Nat) (s:Int)=>fn4_l3 F n s) (fun (s:Int)=>⟨[(9,.p 0 0),(10,.sl 1),(11,vi s)],[(0,.cells 24 [vb 2,vi 2,vi 3,vi 2]),(1,.row Et.str 9 ksX 8 .no)],2⟩) (fun _=>rfl) (s0:=0) hl599 ?_)
  clear hl599
  rintro R603 n600 x558 h ih601
  replace h:=(fn4_l3_s F n600 x558).symm.trans h
  rw [fn4_b3] at h
  refine V0 4 ?_
  refine C_ h (fun h hb604=>?_) fun h hb604=>?_
  ·refine V0 1 ?_
   obtain ⟨o626,hl627,h⟩:=bd h
   refine CTS 7 (fun u642=>⟨[(9,.p 0 0),(10,.sl 1),(11,vi x558)],[(0,.cells 24 [vb 2,vi 2,vi 3,vi 2]),(1,.row Et.str 9 ksX 8 .no)],2⟩) o626 ?_ (fun u642 hu642=>?_)
   ·have h0630:=h
    clear h
    refine G4.imp (I_ [0,1]) (LP (fun (n:Nat) (s:Int)=>fn4_l4 x558 n s) (fun (s:Int)=>⟨[(9,.p 0 0),(10,.sl 1),(11,vi x558),(12,vi s)],[(0,.cells 24 [vb 2,vi 2,vi 3,vi 2]),(1,.row Et.str 9 ksX 8 .no)],2⟩) (fun _=>rfl) (s0:=0) hl627 ?_)
    clear hl627
    rintro R631 n628 x615 h ih629
    replace h:=(fn4_l4_s x558 n628 x615).symm.trans h
    rw [fn4_b4] at h
    refine V0 4 ?_
    refine C_ h (fun h hb632=>?_) fun h hb632=>?_
    ·refine V0 0 ?_
     obtain ⟨hk633,h⟩:=ck h
     obtain ⟨hk634,h⟩:=ck h
     obtain ⟨hk635,h⟩:=ck h
     obtain ⟨hk636,h⟩:=ck h
     obtain ⟨hk637,h⟩:=ck h
     obtain ⟨hk638,h⟩:=ck h
     refine DR tbOk hmix [13] [([],[]),([],[]),([1],[]),([1],[]),([],[]),([],[]),([3],[]),([],[]),([],[]),([],[]),([1],[]),([1],[]),([],[]),([],[]),([5],[]),([],[]),([],[]),([],[]),([],[]),([],[]),([6],[]),([],[]),([7],[]),([],[]),([],[]),([],[]),([],[]),([],[]),([],[]),([1],[]),([1],[]),([],[]),([],[]),([],[]),([],[]),([1],[]),([1],[]),([],[]),([],[]),([],[]),([],[]),([],[]),([],[]),([],[]),([],[]),([],[]),([],[]),([],[]),([11],[]),([],[]),([],[]),([12],[]),([],[]),([13],[]),([],[]),([],[]),([],[]),([1],[]),([1],[]),([],[]),([],[]),([],[]),([15],[]),([],[]),([2,3,4,5,6,7,8,9,10,11,12,13,14,15],[]),([],[])] [.s2,.bs (Et.int .u8) ([120,121,122]:List Int),.cv,.s2,.bs (Et.int .u8) ([117,118,119]:List Int),.cv,.bs (Et.int .u8) ([99,99]:List Int),.cv,.bs (Et.int .u8) ([114,115,116]:List Int),.cv,.s2,.s2,.zs,.s2,.bs (Et.int .u8) ([33,33]:List Int),.cv,.bs (Et.int .u8) ([100,100]:List Int),.cv,.bs (Et.int .u8) ([108,109,110]:List Int),.cv,.s2,.bs (Et.int .u8) ([100,100]:List Int),.cv,.kD ([⟨0,numsOf (gt ksX x558),([120,121,122]:List Int),0,0,0⟩,⟨0,numsOf (gt ksX x615),([117,118,119]:List Int),IntKind.u64.wrap (x558.tmod 4),0,0⟩,⟨0,([99,99]:List Int),([114,115,116]:List Int),IntKind.u64.wrap (x615.tmod 4),0,0⟩,⟨4,numsOf (gt ksX x558),[],0,0,0⟩,⟨0,numsOf (gt ksX x615),numsOf ((⟨#[97,98]⟩:ByteArray).extract ((0:Nat):Int).toNat (x615.tmod 3).toNat),0,0,0⟩,⟨3,[],([33,33]:List Int),0,IntKind.i64.wrap (x558 - 1),IntKind.i64.wrap (x615 - 2)⟩,⟨0,([100,100]:List Int),([108,109,110]:List Int),1,0,0⟩,⟨4,numsOf (gt ksX x615),[],0,0,0⟩,⟨2,([100,100]:List Int),[],0,0,0⟩]:List Do)] (aR (aC hk633 (aR (aC hk634 (aR (aR (aR (aR (aC hk635 (aR (aC hk636 (aR (aR (aR (aC rfl (aR (aR (aR (aR (aR (aR (aC rfl (aR (aC hk633 (aR (aC hk634 (aR (aC hk635 (aR (aC hk636 (aC rfl (aC hk637 (aC hk638 (aR (aR (aR (aR (aR (aR (aR (aR (aR (aR (aC hk635 (aR (aC hk636 (aR (aR (aR (aR (aR (aR (aR (aR (aR (aR (aR (aR (aR (aR (aR (aR (aR (aR (aR (aR (aR (aR (aR aN))))))))))))))))))))))))))))))))))))))))))))))))))))))))))))))))))))) (by rfl) ?_
     obtain ⟨v639,hv640,h⟩:=bd h
     refine V_ 3 [.cl true [16] (fun _=>c3L (⟨2,2,3,2⟩:MSpec) ([⟨0,numsOf (gt ksX x558),([120,121,122]:List Int),0,0,0⟩,⟨0,numsOf (gt ksX x615),([117,118,119]:List Int),IntKind.u64.wrap (x558.tmod 4),0,0⟩,⟨0,([99,99]:List Int),([114,115,116]:List Int),IntKind.u64.wrap (x615.tmod 4),0,0⟩,⟨4,numsOf (gt ksX x558),[],0,0,0⟩,⟨0,numsOf (gt ksX x615),numsOf ((⟨#[97,98]⟩:ByteArray).extract ((0:Nat):Int).toNat (x615.tmod 3).toNat),0,0,0⟩,⟨3,[],([33,33]:List Int),0,IntKind.i64.wrap (x558 - 1),IntKind.i64.wrap (x615 - 2)⟩,⟨0,([100,100]:List Int),([108,109,110]:List Int),1,0,0⟩,⟨4,numsOf (gt ksX x615),[],0,0,0⟩,⟨2,([100,100]:List Int),[],0,0,0⟩]:List Do) _ hv640)] (aK aN) ?_
     refine V0 1 ?_
     refine C_ h (fun h hb641=>?_) fun h hb641=>?_
     ·refine V0 1 ?_
      obtain rfl:=sj h
      replace h:=h0630
      refine V0 0 ?_
      obtain rfl:=sj h
      replace h:=h0602
      refine V0 0 ?_
      obtain rfl:=sj h
      exact T_ tbOk.t Tryz.results4 []
     refine V0 3 ?_
     exact ih629 (IntKind.i64.wrap (x615+1)) h _ _ (I_ [0,1])
    refine V0 0 ?_
    obtain rfl:=sj h
    exact CES _ rfl (I_ [0,1])
   subst hu642
   change fn4_k4 x558 (fn4_l3 F n600)=_ at h
   rw [fn4_k4] at h
   refine V0 3 ?_
   exact ih601 (IntKind.i64.wrap (x558+1)) h _ _ (I_ [0,1])
  refine V0 0 ?_
  obtain rfl:=sj h
  exact CES _ rfl (I_ [])
 subst hu649
 change fn4_k3 F=_ at h
 rw [fn4_k3] at h
 obtain ⟨v643,hv644,h⟩:=bd h
 refine V_ 2 [.cl true [] (fun _=>c3N (⟨0,0,0,0⟩:MSpec) _ hv644)] (aK aN) ?_
 obtain ⟨v645,hv646,h⟩:=bd h
 obtain ⟨v647,hv648,h⟩:=bd h
 refine V_ 8 [.cl (bif v643 then true else false) [] (fun hg=>c17 F 0 0 0 0 _ (gcl hg hv646)),.cl (bif v643&&v645 then true else false) [] (fun hg=>c6 F _ (gcl hg hv648))] (aR (aR (aK (aR (aR (aK aN)))))) ?_
 obtain rfl:=sj h
 exact T_ tbOk.t Tryz.results4 []
end Go.Proofs.YteicbpfkljnemaaGreat
namespace Go.Proofs.YteicbpfkljnemaaGreat
open Go Go.HW
theorem hashNumbers_plain:fn4 30000=some true:=by kernel_rfl
end Go.Proofs.YteicbpfkljnemaaGreat
namespace Go.HW
open Go Go.RowKit Go.ChangeShapes
variable {H:Type} {enc:TypeId×Value→H} {P:Program}
theorem post_below {f:Func} {s:ChangeSpec} {apart fresh handsOn:Bool} {W W':World} {args:Array Value} {v:Value} {ds gs:List (DataW H)} {before pa pv:List MemPlace}
  (hW:DataW.Whole enc P f.params.toList s.vars apart W args.toList ds gs before)
  (hres:∀(b:Nat) (sp:Nat→Bool) (hd:Bool),DataW.TrodAll enc P W' b sp hd f.resultTypes.toList (v.resultList f.resultTypes.size) (s.fn H (ds++gs)).results [])
  (hargs:∀sp:Nat→Bool,(∀p∈before,sp p.block=true)→DataW.TrodAll enc P W' 0 sp true f.params.toList args.toList (s.fn H (ds++gs)).args pa)
  (hvars:∀sp:Nat→Bool,(∀p∈before,sp p.block=true)→DataW.TrodVars enc P W' sp s.vars (s.fn H (ds++gs)).vars pv)
  (hps:before=pa++pv) (hk:Below W.heap.size W W'):s.post enc P f apart fresh handsOn false W args v W':=by
 have hold:∀p∈before,(fun b=>decide (b < W.heap.size)) p.block=true:=fun p hp=>by simpa using hW.lt p hp
 refine ⟨ds,gs,before,[],pa,pv,hW,hres _ _ _,hargs _ hold,hvars _ hold,World.keptBut_mono (fun p hp=>⟨hp,?_⟩) (hk.frame (·∈before)),fun h=>by cases h⟩
 rw [hps,List.mem_append] at hp
 exact Or.inr hp
end Go.HW
