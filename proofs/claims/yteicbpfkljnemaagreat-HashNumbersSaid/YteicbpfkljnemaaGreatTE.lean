/- Part of the proof: the logic, the walks, and what they compute. -/
import Derived.Test.YteicbpfkljnemaaGreatProg
import Derived.Test.YteicbpfkljnemaaGreatTD
set_option linter.all false
namespace Go.HW
open Go Go.RowKit
abbrev Wn:Nat→Nat→Prop:=fun _ _=>False
structure JS (U:Nat→Option Value) (cp:Nat→Option Nat) (es:List Nat) (b0:Blocks) (St:List Value→Blocks→Prop) (σ:As) (bs:Blocks) (vs:List Value):Prop where
 eq:∀(k:Nat) (v u:Value),σ k=some v→U k=some u→v=u
 cpy:∀(k:Nat) (v:Value) (j:Nat),σ k=some v→cp k=some j→vs[j]?=some v
 ms:MS b0 bs Wn
 st:St vs bs
 act:∀(j e:Nat),es[j]?=some e→σ e=vs[j]?
 len:vs.length≤es.length
section
variable {c:Cx} {Q:Exit→Act→World→Prop} {L0:Slots} {l:List Oper} {U:Nat→Option Value} {cp:Nat→Option Nat} {es:List Nat} {b0:Blocks} {St:List Value→Blocks→Prop} {k:Nat}
theorem As.set_ne {σ:As} {k i:Nat} {v:Value} (h:i≠k):σ.set k v i=σ i:=if_neg h
theorem As.set_eq {σ:As} {k:Nat} {v:Value}:σ.set k v k=some v:=if_pos rfl
theorem val_of {σ:As} {k:Nat} {v:Value} (h:σ k=some v):σ.val k=v:=by rw [As.val,h];rfl
theorem OpJ.pure {o:Oper} (Lk:Slots) (v:Value) (hu:U k=some v) (hc:cp k=none) (he:es.all (fun e=>!Nat.beq e k)=true) (hg:o.guard=none) (hn:notDefer o.op=true) (hd:okD c.n o.dst=true)
  (hl:∀V:Nat→Value,(∀m u,Nat.blt m l.length=true→bindsOn o m=true→U m=some u→V m=u)→LkOk l.toArray L0 V o Lk) (h:∀bs,MS b0 bs Wn→QV c o Lk ⟨bs,[]⟩ v):OpJ c l L0 (fun σ bs=>∃vs,JS U cp es b0 St σ bs vs) k o:=by
 rintro σ bs ⟨vs,J⟩ hnn hpre hpost
 refine ⟨Lk,hl σ.val (fun m u h1 h2 h3=>?_),TO.u hg hn (TX.val hd (h bs J.ms) (TO.nil (TE.effV v ⟨vs,⟨fun i w u hi hU=>?_,fun i w j hi hcp=>?_,J.ms,J.st,fun j e hj=>?_,J.len⟩⟩ ?_)))⟩
 ·obtain ⟨w,hw⟩:=hpre m (by simpa [Nat.blt_eq] using h1) h2
  rw [val_of hw];exact J.eq m w u hw h3
 ·by_cases e:i=k
  ·subst e;rw [As.set_eq] at hi;cases hi;rw [hu] at hU;exact Option.some.inj hU
  rw [As.set_ne e] at hi;exact J.eq i w u hi hU
 ·by_cases e:i=k
  ·subst e;rw [hc] at hcp;cases hcp
  rw [As.set_ne e] at hi;exact J.cpy i w j hi hcp
 ·have:=List.all_eq_true.1 he e (List.mem_of_getElem? hj)
  rw [As.set_ne (fun q=>by subst q;simp at this)];exact J.act j e hj
 cases hd2:o.dst with
 | none=>rw [hd2] at *;trivial
 | some d=>exact ⟨by simp [putS,look],trivial⟩
theorem OpJ.act {o:Oper} (j:Nat) (hu:U k=none) (hc:cp k=none) (hj:es[j]?=some k) (hnd:es.Nodup) (hn:notDefer o.op=true) (hprev:j=0∨∃e,es[j - 1]?=some e∧bindsOn o e=true∧Nat.blt e l.length=true)
  (h:∀bs vs (V:Nat→Value),MS b0 bs Wn→St vs bs→vs.length=j→(∀(i e:Nat) (v:Value),Nat.blt e l.length=true→es[i]?=some e→vs[i]?=some v→bindsOn o e=true→V e=v)→(∀m u,Nat.blt m l.length=true→bindsOn o m=true→U m=some u→V m=u) →
    ∃Lk,LkOk l.toArray L0 V o Lk∧TO c l.toArray (EffV c (fun v bs'=>MS b0 bs' Wn∧St (vs++[v]) bs') o.dst) [o] Lk ⟨bs,[]⟩):OpJ c l L0 (fun σ bs=>∃vs,JS U cp es b0 St σ bs vs) k o:=by
 rintro σ bs ⟨vs,J⟩ hnn hpre hpost
 have h1:vs.length≤j:=by
  have:=J.act j k hj
  rw [hnn] at this
  exact List.getElem?_eq_none_iff.1 this.symm
 have hlen:vs.length=j:=by
  rcases hprev with h0 | ⟨e,q1,q2,q3⟩
  ·omega
  obtain ⟨v,hv⟩:=hpre e (by simpa [Nat.blt_eq] using q3) q2
  have:=J.act (j - 1) e q1
  rw [hv] at this
  have:=(List.getElem?_eq_some_iff.1 this.symm).1
  omega
 obtain ⟨Lk,hl,hto⟩:=h bs vs σ.val J.ms J.st hlen (fun i e v h0 q1 q2 q3=>by
  obtain ⟨w,hw⟩:=hpre e (by simpa [Nat.blt_eq] using h0) q3
  have:=J.act i e q1
  rw [hw,q2] at this
  rw [val_of hw];exact Option.some.inj this) (fun m u q1 q2 q3=>by
  obtain ⟨w,hw⟩:=hpre m (by simpa [Nat.blt_eq] using q1) q2
  rw [val_of hw];exact J.eq m w u hw q3)
 refine ⟨Lk,hl,TO.effMono hn (fun v b hb=>⟨vs++[v],⟨fun i w u hi hU=>?_,fun i w j' hi hcp=>?_,hb.1,hb.2,fun j' e' hj'=>?_,by have:=(List.getElem?_eq_some_iff.1 hj).1;simp;omega⟩⟩) hto⟩
 ·by_cases q:i=k
  ·subst q;rw [hu] at hU;cases hU
  rw [As.set_ne q] at hi;exact J.eq i w u hi hU
 ·by_cases q:i=k
  ·subst q;rw [hc] at hcp;cases hcp
  rw [As.set_ne q] at hi
  have:=J.cpy i w j' hi hcp
  rw [List.getElem?_append_left (List.getElem?_eq_some_iff.1 this).1];exact this
 by_cases q:e'=k
 ·subst q
  have:j'=j:=(List.getElem?_inj (List.getElem?_eq_some_iff.1 hj').1 hnd).1 (hj'.trans hj.symm)
  subst this
  rw [As.set_eq,List.getElem?_append_right (by omega),hlen,Nat.sub_self];rfl
 rw [As.set_ne q,J.act j' e' hj']
 have hne:j'≠j:=fun e=>by subst e;rw [hj] at hj';cases hj';exact q rfl
 rcases Nat.lt_or_ge j' j with h3 | h3
 ·rw [List.getElem?_append_left (by omega)]
 rw [List.getElem?_eq_none (by omega),List.getElem?_eq_none (by simp;omega)]
inductive OpL (c:Cx) (l:List Oper) (L0:Slots) (J:As→Blocks→Prop):Nat→List Oper→Prop
 | nil {k:Nat}:OpL c l L0 J k []
 | cons {k:Nat} {o:Oper} {os:List Oper} (h:OpJ c l L0 J k o) (r:OpL c l L0 J (k+1) os):OpL c l L0 J k (o::os)
theorem OpL.at {J:As→Blocks→Prop}:∀{k:Nat} {os:List Oper},OpL c l L0 J k os→∀(i:Nat) (o:Oper),os[i]?=some o→OpJ c l L0 J (k+i) o
 | _,_,.nil,i,o,h=>by simp at h
 | _,_,.cons h r,i,o,hi=>by
  cases i with
  | zero=>simp at hi;subst hi;exact h
  | succ i=>have:=r.at i o (by simpa using hi);rwa [show ∀k:Nat,k+1+i=k+(i+1) from fun k=>by omega] at this
end
section
variable {c:Cx} {ops:Array Oper} {Q:Exit→Act→World→Prop} {rest:List Oper} {L:Slots} {H:Hp} {bs:Blocks}
variable {d:Nat} {T:TypeId} {pos:String} {af:Array Edge} {g:Option (Nat×Bool)}
theorem QV.ldW {A:TypeId} {x:Operand} {b i:Nat} {v:Value} (hagg:∀w,(isAgg A).run c.P w=.ok false w) (hR:c.R0=[]) (hw:c.w0.cell? ⟨b,i,none⟩=some v) (hx:ev L x=some (.pointer (some ⟨b,i,none⟩))):QV c ⟨some d,.load A x,T,pos,af,g⟩ L H v:=fun a w s=>by
 have hlt:b < c.w0.heap.size:=by
  rcases Nat.lt_or_ge b c.w0.heap.size with h | h
  ·exact h
  have:c.w0.heap[b]?=none:=Array.getElem?_eq_none h
  simp [World.cell?,this] at hw
 have hc:w.cell? ⟨b,i,none⟩=some v:=by
  rw [cell_same (w:=c.w0) (a:=⟨b,i,none⟩) (s.ext.same b hlt (by rw [hR];simp))];exact hw
 have:=run_loadVar1 (P:=c.P) w hagg ⟨b,i,none⟩ hc
 simp [execOp,s.eval hx,Instr.loadAt,Instr.sureAddr,this]
theorem TX.ldW {A:TypeId} {x:Operand} {b i:Nat} {v:Value} (hagg:∀w,(isAgg A).run c.P w=.ok false w) (hR:c.R0=[]) (hw:c.w0.cell? ⟨b,i,none⟩=some v) (hx:ev L x=some (.pointer (some ⟨b,i,none⟩))) (hd:Nat.blt d c.n=true) (h:TO c ops Q rest ((d,v)::L) H):TX c ops Q ⟨some d,.load A x,T,pos,af,g⟩ rest L H:=TX.val hd (QV.ldW hagg hR hw hx) h
theorem TX.apE {X A:TypeId} {info:TypeInfo} {zv:Value} {x y:Operand} {p:Option Addr} {b n cap m cq by':Nat} (hu:∀w,(underlying X).run c.P w=.ok (.slice A) w) (hi:∀w,(typeInfo A).run c.P w=.ok info w) (hz:info.zero=some zv) (hzc:zv.cells.size=1) (hsz:info.size=1) (hby:info.bytes=by')
  (hx:ev L x=some (.slice (some ⟨b,0,none⟩) n cap)) (hy:ev L y=some (.slice p m cq)) (hb:HasB bs b A cap) (hn:n≤cap) (news:Nat→Value) (hnews:0 < m→∃q off,p=some ⟨q,off,none⟩∧∀j,j < m→Cell bs q (off+j) (news j)) (h1:∀j,j < m→(news j).oneCell'=true)
  (hb1:(n+m) * by'≤140737488355328) (hb2:n+m≤140737488355328) (hd:Nat.blt d c.n=true)
  (h:∀b' cap' bs',((b'=b∧cap'=cap)∨b'∉ids bs)→MS bs bs' (fun x i=>x=b∧n≤i)→HasB bs' b' A cap'→n+m≤cap'→(∀i v,i < n→Cell bs b i v→Cell bs' b' i v)→(∀j,j < m→Cell bs' b' (n+j) (news j))→(cap'=cap∨cap'≤maxLen) →
   TO c ops Q rest ((d,.slice (some ⟨b',0,none⟩) (n+m) cap')::L) ⟨bs',[]⟩) :
  TX c ops Q ⟨some d,.call ⟨.builtin .append,#[x,y],#[X,X]⟩,T,pos,af,g⟩ rest L ⟨bs,[]⟩:=by
 rcases Nat.eq_zero_or_pos m with h0 | h0
 ·subst h0
  exact TX.ap0M hu hi hx hy hn hd (h b cap bs (.inl ⟨rfl,rfl⟩) (.refl _ _) hb hn (fun i v _ hc=>hc) (fun j hj=>absurd hj (by omega)) (.inl rfl))
 obtain ⟨q,off,rfl,hq⟩:=hnews h0
 exact TX.apG2 (src:=some b) hu hi hz hzc hsz hby hx hy (fun b2 hb2=>by cases hb2;exact ⟨hb,hn⟩) (fun e=>by cases e) news hq h1 h0 hb1 hb2 hd fun b' cap' bs' hb' ms hB hc hold hnew hml=>h b' cap' bs' (hb'.imp (fun e=>⟨(Option.some.inj e.1).symm,e.2⟩) id) (ms.mono fun x i e=>⟨(Option.some.inj e.1).symm,e.2⟩) hB hc (fun i v hi hc=>hold b rfl i v hi hc) hnew hml
theorem ms_nil (bs:Blocks) (W:Nat→Nat→Prop):MS [] bs W :=
 ⟨fun b h=>(by simp [ids] at h),fun b i v h=>(by obtain ⟨l,T,fr,h,_⟩:=h;cases h),fun b T k h=>(by obtain ⟨l,fz,h,_⟩:=h;cases h)⟩
end
end Go.HW
namespace Go.Proofs.YteicbpfkljnemaaGreat
open Go Go.HW Fl
theorem str_num (s:ByteArray):strOfNums (numsOf s)=s:=by
 apply Go.WideShapes.bytes_inj
 rw [strOfNums_data,numsOf,List.map_map]
 conv=>rhs;rw [← List.map_id s.data.toList]
 exact List.map_congr_left fun b _=>by simp
def kat:List ByteArray→ByteArray→Nat
 | [],_=>0
 | x::l,k=>bif Op.bytesLess x.toList k.toList then kat l k+1 else 0
def kins (l:List ByteArray) (k:ByteArray):List ByteArray:=l.take (kat l k)++k::l.drop (kat l k)
def kall (is:Nat→Bool) (ky:Nat→ByteArray):Nat→List ByteArray
 | 0=>[]
 | n+1=>bif is n then kins (kall is ky n) (ky n) else kall is ky n
theorem kat_le:∀(l:List ByteArray) (k:ByteArray),kat l k≤l.length
 | [],_=>Nat.le_refl _
 | x::l,k=>by
  simp only [kat]
  have:=kat_le l k
  cases Op.bytesLess x.toList k.toList <;> simp <;> omega
theorem kat_eq:∀{l:List ByteArray} {k:ByteArray} {a:Nat},a≤l.length→(∀(j:Nat) (z:ByteArray),j < a→l[j]?=some z→Op.bytesLess z.toList k.toList=true)→(a=l.length∨∃z,l[a]?=some z∧Op.bytesLess z.toList k.toList=false)→kat l k=a
 | [],k,a,h1,h2,h3=>by simp at h1;subst h1;rfl
 | x::l,k,0,h1,h2,h3=>by
  rcases h3 with h3 | ⟨z,h3,h4⟩
  ·simp at h3
  simp at h3;subst h3;simp [kat,h4]
 | x::l,k,a+1,h1,h2,h3=>by
  have hx:=h2 0 x (by omega) rfl
  simp only [kat,hx,cond_true]
  rw [kat_eq (a:=a) (by simpa using h1) (fun j z hj hz=>h2 (j+1) z (by omega) (by simpa using hz)) (by
   rcases h3 with h3 | ⟨z,h3,h4⟩
   ·left;simpa using h3
   right;exact ⟨z,by simpa using h3,h4⟩)]
theorem kins_len (l:List ByteArray) (k:ByteArray):(kins l k).length=l.length+1:=by
 have:=kat_le l k
 unfold kins
 simp
 omega
theorem kall_skip {is:Nat→Bool} {ky:Nat→ByteArray} {i:Nat} (h:is i=false):kall is ky (i+1)=kall is ky i:=by simp [kall,h]
theorem kall_ins {is:Nat→Bool} {ky:Nat→ByteArray} {i:Nat} (h:is i=true):kall is ky (i+1)=kins (kall is ky i) (ky i):=by simp [kall,h]
theorem kall_len (is:Nat→Bool) (ky:Nat→ByteArray):∀n,(kall is ky n).length≤n
 | 0=>Nat.le_refl _
 | n+1=>by
  have:=kall_len is ky n
  simp only [kall]
  cases is n
  ·simp;omega
  simp only [cond_true,kins_len];omega
theorem kall_mem {is:Nat→Bool} {ky:Nat→ByteArray}:∀{n:Nat} {z:ByteArray},z∈kall is ky n→∃i,i < n∧z=ky i
 | 0,z,h=>by cases h
 | n+1,z,h=>by
  simp only [kall] at h
  cases hi:is n with
  | false=>rw [hi] at h;obtain ⟨i,h1,h2⟩:=kall_mem h;exact ⟨i,by omega,h2⟩
  | true =>
   rw [hi,cond_true,kins] at h
   rcases List.mem_append.1 h with h | h
   ·obtain ⟨i,h1,h2⟩:=kall_mem (List.mem_of_mem_take h);exact ⟨i,by omega,h2⟩
   rcases List.mem_cons.1 h with h | h
   ·exact ⟨n,by omega,h⟩
   obtain ⟨i,h1,h2⟩:=kall_mem (List.mem_of_mem_drop h);exact ⟨i,by omega,h2⟩
def ByR (bs:Blocks) (q:Nat) (z:ByteArray):Prop:=∀(t:Nat) (v:Value),((numsOf z).map fun n=>Value.int .u8 n)[t]?=some v→Cell bs q t v
theorem ByR.step {bs bs':Blocks} {W:Nat→Nat→Prop} {q:Nat} {z:ByteArray} (h:ByR bs q z) (ms:MS bs bs' W) (hw:∀i,¬W q i):ByR bs' q z:=fun t v ht=>ms.keep _ _ _ (h t v ht) (hw t)
structure KR (bs:Blocks) (h:Hd) (z:ByteArray):Prop where
 ex:∃q,h.1=some q∧h.2.1=z.size∧HasB bs q 5 h.2.2∧z.size≤h.2.2∧ByR bs q z∧h.2.2≤maxLen
theorem KR.step {bs bs':Blocks} {W:Nat→Nat→Prop} {h:Hd} {z:ByteArray} (x:KR bs h z) (ms:MS bs bs' W) (hw:∀q,h.1=some q→∀i,¬W q i):KR bs' h z:=by
 obtain ⟨q,h1,h2,h3,h4,h5⟩:=x.ex
 exact ⟨q,h1,h2,ms.blk _ _ _ h3,h4,h5.1.step ms (hw q h1),h5.2⟩
structure KO (bs:Blocks) (src:Option Nat) (cap:Nat) (hs:List Hd) (ks:List ByteArray):Prop where
 sl:SlB bs src 36 cap hs
 len:hs.length=ks.length
 rows:∀(i:Nat) (h:Hd) (z:ByteArray),hs[i]?=some h→ks[i]?=some z→KR bs h z
 nd:(bks hs).Nodup
 cm:cap≤maxLen
theorem KO.none {bs:Blocks}:KO bs none 0 [] []:=⟨⟨fun b h=>(by cases h),fun _=>⟨rfl,rfl⟩,fun _=>rfl⟩,rfl,fun i h z hi=>(by simp at hi),List.nodup_nil,Nat.zero_le _⟩
theorem KO.src_some {bs:Blocks} {src:Option Nat} {cap a:Nat} {hs:List Hd} {ks:List ByteArray} (h:KO bs src cap hs ks) (ha:a < hs.length):∃b,src=some b:=by
 cases hs2:src with
 | none=>rw [(h.sl.none_ hs2).1] at ha;exact absurd ha (Nat.not_lt_zero _)
 | some b=>exact ⟨b,rfl⟩
theorem KO.cap_le {bs:Blocks} {src:Option Nat} {cap:Nat} {hs:List Hd} {ks:List ByteArray} (h:KO bs src cap hs ks):hs.length≤cap:=by
 cases hs2:src with
 | none=>rw [(h.sl.none_ hs2).1];exact Nat.zero_le _
 | some b=>exact (h.sl.some_ b hs2).2.1
theorem bks_ids {bs:Blocks} {hs:List Hd} {ks:List ByteArray} (hlen:hs.length=ks.length) (hr:∀(i:Nat) (h:Hd) (z:ByteArray),hs[i]?=some h→ks[i]?=some z→KR bs h z):∀b∈bks hs,∃k,HasB bs b 5 k:=fun b hb=>by
 obtain ⟨x,h1,h2⟩:=bks_some hb
 obtain ⟨i,hi,rfl⟩:=List.getElem_of_mem h1
 obtain ⟨q,q1,q2,q3,_⟩:=(hr i _ ks[i] (List.getElem?_eq_getElem hi) (List.getElem?_eq_getElem (by omega))).ex
 rw [h2] at q1;cases q1
 exact ⟨_,q3⟩
end Go.Proofs.YteicbpfkljnemaaGreat
namespace Go.Proofs.YteicbpfkljnemaaGreat
open Go Go.HW Fl
section
variable {bs bs' bs9:Blocks} {src:Option Nat} {cap a:Nat} {hs:List Hd} {ks:List ByteArray} {key:ByteArray}
theorem KO.new (h:KO bs src cap hs ks) (ms:MS bs bs' Wn):KO bs' src cap hs ks :=
 ⟨h.sl.keep ms (fun _ _ _ q=>q),h.len,fun i x z hi hz=>(h.rows i x z hi hz).step ms (fun _ _ _ q=>q),h.nd,h.cm⟩
theorem KO.src_id (h:KO bs src cap hs ks) {b:Nat} (hb:src=some b):b∈ids bs:=(h.sl.some_ b hb).1.id
abbrev P11 (bs9:Blocks) (key:ByteArray) (bs:Blocks) (v:Value):Prop:=∃q cq,v=.slice (some ⟨q,0,none⟩) key.size cq∧q∉ids bs9∧MS bs9 bs Wn∧KR bs (some q,key.size,cq) key
abbrev P12 (bs9:Blocks) (key:ByteArray) (bs:Blocks) (v:Value):Prop:=∃q cq d,v=.slice (some ⟨d,0,none⟩) 1 1∧q∉ids bs9∧MS bs9 bs Wn∧KR bs (some q,key.size,cq) key∧Cell bs d 0 (hv (some q,key.size,cq))
abbrev P13 (bs9:Blocks) (src:Option Nat) (a:Nat) (hs:List Hd) (key:ByteArray) (bs:Blocks) (v:Value):Prop:=∃q cq b' cap',v=.slice (some ⟨b',0,none⟩) (a+1) cap'∧q∉ids bs9∧KR bs (some q,key.size,cq) key∧MS bs9 bs (fun x i=>src=some x∧a≤i)∧HasB bs b' 36 cap'∧a+1≤cap'∧cap'≤maxLen∧(∀(i:Nat) (h:Hd),i < a→hs[i]?=some h→Cell bs b' i (hv h))∧Cell bs b' a (hv (some q,key.size,cq))
abbrev P15 (ks:List ByteArray) (bs:Blocks) (v:Value):Prop:=∃b' cap' hs',v=.slice (some ⟨b',0,none⟩) hs'.length cap'∧KO bs (some b') cap' hs' ks
theorem p13_of {q cq b' cap':Nat} (hK:KO bs9 src cap hs ks) (ha:a≤hs.length) (hq:q∉ids bs9) (ms0:MS bs9 bs Wn) (hkr:KR bs (some q,key.size,cq) key)
  (hb':(src=some b'∧cap'=cap)∨b'∉ids bs) (ms:MS bs bs' (fun b i=>src=some b∧a≤i)) (hB':HasB bs' b' 36 cap') (hcap:a+1≤cap') (hml:cap'≤maxLen) (hold:∀b,src=some b→∀i v,i < a→Cell bs b i v→Cell bs' b' i v) (hnew:∀j,j < 1→Cell bs' b' (a+j) (hv (some q,key.size,cq))) :
  P13 bs9 src a hs key bs' (.slice (some ⟨b',0,none⟩) (a+1) cap'):=by
 refine ⟨q,cq,b',cap',rfl,hq,hkr.step ms (fun q' e i w=>?_),(ms0.mono (fun _ _ q=>q.elim)).trans ms,hB',hcap,hml,fun i h hi hh=>?_,hnew 0 (by omega)⟩
 ·cases e
  exact hq (hK.src_id w.1)
 obtain ⟨b,hb⟩:=hK.src_some (a:=i) (List.getElem?_eq_some_iff.1 hh).1
 exact hold b hb i _ hi (ms0.keep _ _ _ ((hK.sl.some_ b hb).2.2 i h hh) (fun q=>q))
theorem bks_cons (h:Hd) (l:List Hd):bks (h::l)=bks [h]++bks l:=by
 unfold bks;rw [← List.filterMap_append];rfl
theorem p15_of {q cq b' cap' b2 cap2:Nat} (hK:KO bs9 src cap hs ks) (hnd9:(bs9.map (·.1)).Nodup) (hnd:(bs.map (·.1)).Nodup) (ha:a≤hs.length) (hkat:kat ks key=a) (hq:q∉ids bs9) (hkr:KR bs (some q,key.size,cq) key) (ms0:MS bs9 bs (fun x i=>src=some x∧a≤i))
  (hB':HasB bs b' 36 cap') (hc1:∀(i:Nat) (h:Hd),i < a→hs[i]?=some h→Cell bs b' i (hv h)) (hc2:Cell bs b' a (hv (some q,key.size,cq)))
  (ms:MS bs bs' (fun x i=>x=b'∧a+1≤i)) (hB2:HasB bs' b2 36 cap2) (hcap:a+1+(hs.length - a)≤cap2) (hml:cap2≤maxLen) (hold:∀i v,i < a+1→Cell bs b' i v→Cell bs' b2 i v) (hnew:∀j,j < hs.length - a→Cell bs' b2 (a+1+j) (hv ((hs[a+j]?).getD (none,0,0)))) :
  P15 (kins ks key) bs' (.slice (some ⟨b2,0,none⟩) (a+1+(hs.length - a)) cap2):=by
 have hidx:∀(l:List Hd) (x:Hd),(l.take a).length=a→∀i,(l.take a++x::l.drop a)[i]?=if i < a then l[i]? else if i=a then some x else l[i - 1]?:=fun l x hl i=>by
  by_cases h1:i < a
  ·rw [List.getElem?_append_left (by omega),if_pos h1,List.getElem?_take,if_pos h1]
  rw [List.getElem?_append_right (by omega),hl,if_neg h1]
  by_cases h2:i=a
  ·subst h2;simp
  rw [if_neg h2,show i - a=(i - a - 1)+1 from by omega,List.getElem?_cons_succ,List.getElem?_drop]
  congr 1;omega
 have hidk:∀i,(kins ks key)[i]?=if i < a then ks[i]? else if i=a then some key else ks[i - 1]?:=fun i=>by
  have hl:(ks.take a).length=a:=by rw [List.length_take,← hK.len];omega
  unfold kins
  rw [hkat]
  by_cases h1:i < a
  ·rw [List.getElem?_append_left (by omega),if_pos h1,List.getElem?_take,if_pos h1]
  rw [List.getElem?_append_right (by omega),hl,if_neg h1]
  by_cases h2:i=a
  ·subst h2;simp
  rw [if_neg h2,show i - a=(i - a - 1)+1 from by omega,List.getElem?_cons_succ,List.getElem?_drop]
  congr 1;omega
 have hlh:(hs.take a).length=a:=by rw [List.length_take];omega
 have hlen:(hs.take a++(some q,key.size,cq)::hs.drop a).length=a+1+(hs.length - a):=by simp;omega
 have hmsW:∀(h:Hd) (z:ByteArray),KR bs9 h z→KR bs' h z:=fun h z hk=>by
  obtain ⟨p,p1,p2,p3,p4,p5⟩:=hk.ex
  have hp1:src≠some p:=fun e=>by have:=((hK.sl.some_ p e).1).ty hnd9 p3;cases this
  have k2:KR bs h z:=hk.step ms0 (fun p' e i w=>by rw [p1] at e;cases e;exact hp1 w.1)
  obtain ⟨p',p1',_,p3',_⟩:=k2.ex
  rw [p1] at p1';cases p1'
  exact k2.step ms (fun p' e i w=>by rw [p1] at e;cases e;have:=hB'.ty hnd (w.1▸p3');cases this)
 have hqb:∀i,¬((q:Nat)=b'∧a+1≤i):=fun i w=>by
  obtain ⟨p,p1,_,p3,_⟩:=hkr.ex
  cases p1
  have:=hB'.ty hnd (w.1▸p3);cases this
 refine ⟨b2,cap2,hs.take a++(some q,key.size,cq)::hs.drop a,by rw [hlen],⟨⟨fun b e=>?_,fun e=>(by cases e),fun e=>by have:=congrArg List.length e;rw [hlen] at this;simp at this⟩,by rw [hlen,kins_len,← hK.len];omega,fun i h z hi hz=>?_,?_,hml⟩⟩
 ·cases e
  refine ⟨hB2,by rw [hlen];exact hcap,fun i h hi=>?_⟩
  rw [hidx hs _ hlh] at hi
  by_cases h1:i < a
  ·rw [if_pos h1] at hi;exact hold i _ (by omega) (hc1 i h h1 hi)
  rw [if_neg h1] at hi
  by_cases h2:i=a
  ·rw [if_pos h2] at hi;cases hi;subst h2;exact hold _ _ (by omega) hc2
  rw [if_neg h2] at hi
  have hil:=(List.getElem?_eq_some_iff.1 hi).1
  have:=hnew (i - 1 - a) (by omega)
  rw [show a+(i - 1 - a)=i - 1 from by omega,hi,show a+1+(i - 1 - a)=i from by omega] at this
  exact this
 ·rw [hidx hs _ hlh] at hi
  rw [hidk] at hz
  by_cases h1:i < a
  ·rw [if_pos h1] at hi hz;exact hmsW h z (hK.rows i h z hi hz)
  rw [if_neg h1] at hi hz
  by_cases h2:i=a
  ·rw [if_pos h2] at hi hz;cases hi;cases hz
   exact hkr.step ms (fun p e i w=>by cases e;exact hqb i w)
  rw [if_neg h2] at hi hz;exact hmsW h z (hK.rows _ h z hi hz)
 have hn:=hK.nd
 have e1:bks hs=bks (hs.take a)++bks (hs.drop a):=by rw [← bks_app,List.take_append_drop]
 have hin:=bks_ids hK.len hK.rows
 have hqn:q∉bks hs:=fun h=>by obtain ⟨k,hk⟩:=hin q h;exact hq hk.id
 rw [bks_app,bks_cons]
 show (bks (hs.take a)++(q::bks (hs.drop a))).Nodup
 rw [e1] at hn hqn
 rw [List.nodup_append] at hn ⊢
 obtain ⟨n1,n2,n3⟩:=hn
 refine ⟨n1,List.nodup_cons.2 ⟨fun h=>hqn (List.mem_append_right _ h),n2⟩,fun x hx y hy=>?_⟩
 rcases List.mem_cons.1 hy with rfl | hy
 ·exact fun e=>hqn (List.mem_append_left _ (e▸hx))
 exact n3 x hx y hy
end
end Go.Proofs.YteicbpfkljnemaaGreat
namespace Go.HW
open Go Go.RowKit
section
variable {c:Cx} {Q:Exit→Act→World→Prop} {L0:Slots} {l1:List Oper} {ol:Oper} {J:As→Blocks→Prop}
def JL (c:Cx) (l1:List Oper) (L0:Slots) (J:As→Blocks→Prop) (listed:Array Bool) (a:Act) (w:World):Prop :=
 listed.getD l1.length false=false∧∃σ bs,J σ bs∧Sat c L0 ⟨bs,[]⟩ a w∧(∀k,k < l1.length→(listed.getD k false=true↔∃v,σ k=some v))∧σ l1.length=none ∧
  ∀(k:Nat) (o:Oper) (d:Nat) (v:Value),σ k=some v→l1[k]?=some o→o.dst=some d→a.tmps.getD d undef=v
theorem drawL_any {l:List Oper} (hl:l=l1++[ol]) (hback:backB l 0=true) (hdst:dstB L0 l1 []=true) (hokd:∀(k:Nat) (o:Oper) (d:Nat),l1[k]?=some o→o.dst=some d→d < c.n)
  (hnd:∀o∈l1,notDefer o.op=true) (hup:upB l1 l1.length (fun t=>bindsOn ol t)=true) (hog:ol.guard=none)
  (hop:∀(k:Nat) (o:Oper),l1[k]?=some o→OpJ c l L0 J k o)
  (hfin:∀a w σ bs,J σ bs→Sat c L0 ⟨bs,[]⟩ a w→(∀k,k < l1.length→∃v,σ k=some v)→(∀(k:Nat) (o:Oper) (d:Nat),l1[k]?=some o→o.dst=some d→a.tmps.getD d undef=σ.val k)→wpListIn (FW c.ro) 1 c.P l.toArray Q [ol] a w) :
  ∀(fuel:Nat) (listed:Array Bool) (a:Act) (w:World),listed.size=l.length→JL c l1 L0 J listed a w →
   (∀(k:Nat) (o:Oper) (i:Nat),listed.getD k false=true→l[k]?=some o→bindsOn o i=true→listed.getD i false=true) →
   ((List.range l.length).filter fun k=>!listed.getD k false).length≤fuel→wpAnyIn (FW c.ro) 1 c.P .any l.toArray Q fuel listed a w:=by
 have hdspec:=dstB_spec hdst
 have hll:l.length=l1.length+1:=by rw [hl];simp
 have hset:∀(listed:Array Bool) (i k:Nat),listed.size=l.length→k < l.length→(listed.setIfInBounds i true).getD k false=if k=i then true else listed.getD k false:=by
  intro listed i k hs hk
  by_cases h:k=i
  ·subst h;simp [Array.getD,hs,hk]
  rw [if_neg h];simp [Array.getD,hs,hk,Ne.symm h]
 intro fuel
 induction fuel with
 | zero =>
  intro listed a w hs hJ hcl hf
  exfalso
  have:l1.length∈(List.range l.length).filter fun k=>!listed.getD k false:=by rw [List.mem_filter];exact ⟨by rw [List.mem_range];omega,by rw [hJ.1];rfl⟩
  have h0:((List.range l.length).filter fun k=>!listed.getD k false)=[]:=List.eq_nil_of_length_eq_zero (by omega)
  rw [h0] at this;cases this
 | succ fuel ih =>
  intro listed a w hs hJ hcl hf
  refine ⟨fun h0=>?_,fun i hi=>?_⟩
  ·exfalso
   have hallk:∀k,k < l.length→listed.getD k false=true:=fun k hk=>by
    refine Nat.strongRecOn k (motive:=fun k=>k < l.length→listed.getD k false=true) (fun k ihk hk=>?_) hk
    cases hh:listed.getD k false with
    | true=>rfl
    | false =>
     have:k∈Region.ready .any l.toArray listed:=by
      refine mem_ready.2 ⟨by simp [Array.getD,hs,hk] at hh ⊢;exact hh,l[k],by simp [hk],fun e he hb=>?_⟩
      have:=backB_spec hback k l[k] (by simp [hk]) e he hb
      exact ihk e.on (by omega) (by omega)
     rw [h0] at this;cases this
   have:=hallk l1.length (by omega)
   rw [hJ.1] at this;cases this
  obtain ⟨h1,o,h2,h3⟩:=mem_ready.1 hi
  have ho:l[i]?=some o:=by simpa using h2
  have hil:i < l.length:=(List.getElem?_eq_some_iff.1 ho).1
  have hun:listed.getD i false=false:=by simp [Array.getD,hs,hil] at h1 ⊢;exact h1
  have hpre:∀m,bindsOn o m=true→listed.getD m false=true:=fun m hm=>by
   obtain ⟨e,he,hb,rfl⟩:=bindsOn_iff.1 hm;exact h3 e he hb
  obtain ⟨hlast,σ,bs,hP,hS,hst,hsl,hv⟩:=hJ
  rcases Nat.lt_or_ge i l1.length with hin | hin
  ·have ho1:l1[i]?=some o:=by rw [hl,List.getElem?_append_left hin] at ho;exact ho
   have hno:∀k,k < l1.length→listed.getD k false=false→σ k=none:=fun k hk hf=>by
    cases hc:σ k with
    | none=>rfl
    | some v=>have:=(hst k hk).2 ⟨v,hc⟩;rw [hf] at this;cases this
   have hbk:∀m,bindsOn o m=true→m < l1.length:=fun m hm=>by
    obtain ⟨e,he,hb,rfl⟩:=bindsOn_iff.1 hm
    have:=backB_spec hback i o ho e he hb;omega
   obtain ⟨Lk,hLk,hto⟩:=hop i o ho1 σ bs hP (hno i hin hun) (fun m hm hb=>(hst m (hbk m hb)).1 (hpre m hb)) (fun m o' hm hb=>by
    have hml:m < l.length:=(List.getElem?_eq_some_iff.1 hm).1
    rcases Nat.lt_or_ge m l1.length with h4 | h4
    ·refine hno m h4 ?_
     cases hc:listed.getD m false with
     | false=>rfl
     | true=>have:=hcl m o' i hc hm hb;rw [hun] at this;cases this
    rw [show m=l1.length from by omega];exact hsl)
   have hSk:=lk_sat hS (fun m om d hb hm hd=>by
    have hm1:=hbk m hb
    obtain ⟨v,hmv⟩:=(hst m hm1).1 (hpre m hb)
    rw [hv m om d v hmv (by rw [hl,List.getElem?_append_left hm1] at hm;exact hm) hd,As.val,hmv];rfl) hLk
   have hgo:=hto a w hSk
   have hK:∀u w' v bs',J (σ.set i v) bs'→Sat c (putS [] o.dst v) ⟨bs',[]⟩ (a.put o.dst u) w'→wpAnyIn (FW c.ro) 1 c.P .any l.toArray Q fuel (listed.setIfInBounds i true) (a.put o.dst u) w':=by
    intro u w' v bs' hP' hS'
    have hkeep:∀t,o.dst≠some t→(a.put o.dst u).tmps.getD t undef=a.tmps.getD t undef:=by
     intro t ht
     cases hd:o.dst with
     | none=>rfl
     | some d =>
      have hne:d≠t:=fun e=>ht (by rw [hd,e])
      show (a.tmps.setIfInBounds d u).getD t undef=_
      simp only [Array.getD,Array.size_setIfInBounds]
      split
      ·rename_i ht';exact Array.getElem_setIfInBounds_ne ht' hne
      rfl
    refine ih _ _ _ (by simpa using hs) ⟨?_,σ.set i v,bs',hP',⟨hS'.size,hS'.defers,fun t v hl=>?_,hS'.ext,hS'.nodup,hS'.heap,hS'.own⟩,?_,?_,?_⟩ ?_ ?_
    ·rw [hset listed i _ hs (by omega),if_neg (by omega)];exact hlast
    ·rw [hkeep t (fun hd=>?_)]
     ·exact hS.slots t v hl
     have:=(hdspec.1 i o t ho1 hd).1
     exact hasKey_none this t hl rfl
    ·intro k hk
     rw [hset listed i k hs (by omega)]
     unfold As.set
     by_cases h:k=i
     ·rw [if_pos h,if_pos h];exact ⟨fun _=>⟨v,rfl⟩,fun _=>rfl⟩
     rw [if_neg h,if_neg h];exact hst k hk
    ·rw [As.set_ne (by omega)];exact hsl
    ·intro k o' d v' hk hlk hd
     unfold As.set at hk
     by_cases hki:k=i
     ·rw [if_pos hki] at hk;cases hk
      subst hki
      rw [ho1] at hlk;cases hlk
      refine hS'.slots d _ ?_
      rw [hd];simp [putS,look]
     rw [if_neg hki] at hk
     rw [hkeep d (fun hd'=>hki (hdspec.2 k i o' o d hlk ho1 hd hd'))]
     exact hv k o' d v' hk hlk hd
    ·intro k o' m hlk hk hb
     have hkl:k < l.length:=(List.getElem?_eq_some_iff.1 hk).1
     obtain ⟨e,he,hbe,hem⟩:=bindsOn_iff.1 hb
     have hml:m < l.length:=by have:=backB_spec hback k o' hk e he hbe;omega
     rw [hset listed i k hs hkl] at hlk
     rw [hset listed i m hs hml]
     by_cases hmi:m=i
     ·rw [if_pos hmi]
     rw [if_neg hmi]
     by_cases hki:k=i
     ·subst hki;rw [ho] at hk;cases hk;exact hpre m hb
     rw [if_neg hki] at hlk;exact hcl k o' m hlk hk hb
    have hsub:((List.range l.length).filter fun k=>!(listed.setIfInBounds i true).getD k false)=(((List.range l.length).filter fun k=>!listed.getD k false).filter (· != i)):=by
     rw [List.filter_filter]
     apply List.filter_congr
     intro k hk
     have hk':k < l.length:=by simpa using hk
     rw [hset listed i k hs hk']
     by_cases h:k=i
     ·subst h;simp
     simp [h]
    rw [hsub]
    have hmem:i∈(List.range l.length).filter fun k=>!listed.getD k false:=by simp [hil];simpa using hun
    have h1:=List.length_filter_le (· != i) ((List.range l.length).filter fun k=>!listed.getD k false)
    rcases Nat.lt_or_ge (((List.range l.length).filter fun k=>!listed.getD k false).filter (· != i)).length ((List.range l.length).filter fun k=>!listed.getD k false).length with h | h
    ·omega
    have heq:=Nat.le_antisymm h1 h
    have:=List.length_filter_eq_length_iff.1 heq i hmem
    simp at this
   unfold wpOpIn
   simp only [h2]
   unfold wpListIn at hgo
   split
   ·rename_i hw
    rw [if_pos hw] at hgo
    exact eff_uponV (c:=c) hgo hK (hnd o (List.mem_of_getElem? ho1)) hS.defers
   rename_i hw
   rw [if_neg hw] at hgo
   obtain ⟨hab,v,bs',h1',h2'⟩:=hgo
   exact ⟨hab,hK undef w v bs' h1' h2'⟩
  have hie:i=l1.length:=by omega
  have hoo:o=ol:=by rw [hl,hie,List.getElem?_append_right (Nat.le_refl _),Nat.sub_self] at ho;simpa using ho.symm
  subst hoo
  have hSa:∀k,k < l1.length→listed.getD k false=true:=upB_ok (l:=l1) (S:=fun k=>listed.getD k false) (fun j o2 i hj ho2 hbd=>hcl j o2 i hj (by rw [hl,List.getElem?_append_left (List.getElem?_eq_some_iff.1 ho2).1];exact ho2) hbd) hup hpre
  have hgo:=hfin a w σ bs hP hS (fun k hk=>(hst k hk).1 (hSa k hk)) (fun k o d hk hd=>by
   obtain ⟨v,hkv⟩:=(hst k (List.getElem?_eq_some_iff.1 hk).1).1 (hSa k (List.getElem?_eq_some_iff.1 hk).1)
   rw [hv k o d v hkv hk hd,As.val,hkv];rfl)
  unfold wpOpIn
  simp only [h2]
  unfold wpListIn at hgo
  have hwt:Region.wanted o (yielded l.toArray a.tmps)=true:=by simp [Region.wanted,hog]
  rw [if_pos hwt] at hgo ⊢
  refine opK_mono (fun a' w' h'=>?_) hgo
  have hnone:∀k,k < l.length→(listed.setIfInBounds i true).getD k false=true:=fun k hk=>by
   rw [hset listed i k hs hk]
   by_cases h:k=i
   ·rw [if_pos h]
   rw [if_neg h];exact hSa k (by omega)
  have hq:Q .normal a' w':=by unfold wpListIn at h';exact h'
  cases fuel with
  | zero =>
   refine ⟨?_,hq⟩
   cases hr:Region.ready .any l.toArray (listed.setIfInBounds i true) with
   | nil=>rfl
   | cons j r =>
    obtain ⟨h1,o2,h2',h3⟩:=mem_ready.1 (by rw [hr];simp:j∈Region.ready .any l.toArray (listed.setIfInBounds i true))
    have hj:j < l.length:=(List.getElem?_eq_some_iff.1 (by simpa using h2')).1
    have:=hnone j hj
    simp [Array.getD,hs,hj] at this h1;rw [this] at h1;cases h1
  | succ fuel =>
   refine ⟨fun _=>hq,fun j hj=>?_⟩
   obtain ⟨h1,o2,h2',h3⟩:=mem_ready.1 hj
   have hjl:j < l.length:=(List.getElem?_eq_some_iff.1 (by simpa using h2')).1
   have:=hnone j hjl
   exfalso
   simp [Array.getD,hs,hjl] at this h1;rw [this] at h1;cases h1
theorem TC.drawSL {id:Nat} {bs:Blocks} {ops:List Oper} (hm:c.P.follows .mixedOrders=true) (U:Nat→Option Value) (cp:Nat→Option Nat) (es:List Nat) (b0:Blocks) (St:List Value→Blocks→Prop) (dl:List (Nat×Nat)) (hops:lastO ops=some (l1,ol)) (hb:backB (l1++[ol]) 0=true)
  (hd:dstB L0 l1 []=true) (hok:okAll c.n l1=true) (hnd:ndAll l1=true) (hup:upB l1 l1.length (fun t=>bindsOn ol t)=true) (hog:ol.guard=none) (hdl:dlB l1 dl=true) (hel:es.all (fun e=>Nat.blt e l1.length)=true) (hms:MS b0 bs Wn) (hP:St [] bs) (hq:OpL c (l1++[ol]) L0 (fun σ bs=>∃vs,JS U cp es b0 St σ bs vs) 0 l1)
  (h:∀bs' vs (V:Nat→Value),MS b0 bs' Wn→St vs bs'→vs.length=es.length→(∀(i e:Nat) (v:Value),Nat.blt e l1.length=true→es[i]?=some e→vs[i]?=some v→V e=v)→TO c (l1++[ol]).toArray Q [ol] (dl.map (fun p=>(p.1,V p.2))++L0) ⟨bs',[]⟩):TC c (.region id ops.toArray true) Q L0 ⟨bs,[]⟩:=by
 have hl:=lastO_spec hops
 subst hl
 intro a w s
 refine wpIn_region_any hm ?_
 have s1:Sat c L0 ⟨bs,[]⟩ a { w with drawn:=w.drawn+1 }:=⟨s.size,s.defers,s.slots,⟨s.ext.os,s.ext.tape,s.ext.output,s.ext.size,s.ext.same⟩,s.nodup,s.heap,s.own⟩
 have hfalse:∀k,(Array.replicate (l1++[ol]).toArray.size false).getD k false=false:=by intro k;simp [Array.getD]
 refine drawL_any rfl (J:=fun σ bs=>∃vs,JS U cp es b0 St σ bs vs) hb hd (fun k o d hk ho=>okAll_spec hok k o d hk ho) (ndAll_spec hnd) hup hog (fun k o hk=>by have:=hq.at k o hk;rwa [Nat.zero_add] at this) ?_ _ _ _ _ (by simp)
  ⟨hfalse _,fun _=>none,bs,⟨[],⟨fun k v u h=>(by cases h),fun k v j h=>(by cases h),hms,hP,fun j e hj=>rfl,Nat.zero_le _⟩⟩,s1,fun k hk=>⟨fun h=>(by rw [hfalse] at h;cases h),fun ⟨v,h⟩=>by cases h⟩,rfl,fun k o d v hl=>by cases hl⟩
  (fun k o i hl=>by rw [hfalse] at hl;cases hl) (Nat.le_trans (List.length_filter_le _ _) (by simp))
 rintro a' w' σ bs' ⟨vs,J⟩ hS' hall hv
 have hle:es.length≤vs.length:=by
  rcases Nat.lt_or_ge vs.length es.length with h1 | h1
  ·have h2:=List.getElem?_eq_getElem h1
   have h3:=J.act _ _ h2
   obtain ⟨v,hv⟩:=hall es[vs.length] (by have:=List.all_eq_true.1 hel es[vs.length] (List.getElem_mem h1);simpa [Nat.blt_eq] using this)
   rw [hv,List.getElem?_eq_none (Nat.le_refl _)] at h3;cases h3
  exact h1
 have hgt:vs.length=es.length:=Nat.le_antisymm J.len hle
 refine h bs' vs σ.val J.ms J.st hgt (fun i e v he hi hvs=>?_) a' w' ⟨hS'.size,hS'.defers,fun t v hl=>?_,hS'.ext,hS'.nodup,hS'.heap,hS'.own⟩
 ·obtain ⟨w2,hw⟩:=hall e (by simpa [Nat.blt_eq] using he)
  have:=J.act i e hi
  rw [hw,hvs] at this;rw [val_of hw];exact Option.some.inj this
 rcases look_append hl with hl' | hl'
 ·exact (dlB_spec (σ:=σ) hdl).look_ok hv hl'
 exact hS'.slots t v hl'
end
end Go.HW
namespace Go.Proofs.YteicbpfkljnemaaGreat
open Go Go.HW Fl
theorem subA (src:Option Nat) (n cap a:Nat):(Value.slice (subP (src.map fun b=>(⟨b,0,none⟩:Addr)) 1 cap (a:Int).toNat) ((n:Int).toNat - (a:Int).toNat) (cap - (a:Int).toNat))=.slice (subP (src.map fun b=>⟨b,0,none⟩) 1 cap a) (n - a) (cap - a):=by simp
theorem subS {b cap a:Nat} (h:a < cap):subP ((some b).map fun b=>(⟨b,0,none⟩:Addr)) 1 cap a=some ⟨b,a,none⟩:=by
 unfold subP
 rw [if_neg (by omega)]
 simp [add_none]
section
variable {c:Cx} {ops:Array Oper} {Q:Exit→Act→World→Prop} {rest:List Oper} {L:Slots} {H:Hp} {bs:Blocks}
variable {d:Nat} {T:TypeId} {pos:String} {af:Array Edge} {g:Option (Nat×Bool)}
theorem QV.sl0 {X A:TypeId} {x y:Operand} {src:Option Nat} {n cap a:Nat} (hu:∀w,(underlying X).run c.P w=.ok (.slice A) w) (hs:∀w,(sizeOf A).run c.P w=.ok 1 w) (ha:a≤n) (hn:n≤cap) (hx:ev L x=some (.slice (src.map fun b=>⟨b,0,none⟩) n cap)) (hy:ev L y=some (.int .i64 (a:Int))) :
  QV c ⟨some d,.slice X x none (some y) none,T,pos,af,g⟩ L H (.slice (src.map fun b=>⟨b,0,none⟩) a cap):=by
 have:=QV.slice (c:=c) (H:=H) (T:=T) (pos:=pos) (af:=af) (g:=g) (d:=d) (l:=0) (h:=(a:Int)) (m:=cap) hu hs hx .none (.some hy) (Nat.le_refl _) (sliceOk_iff.2 ⟨Int.le_refl _,by omega,by omega⟩)
 rwa [sub0 src a cap] at this
theorem TX.restM {X A:TypeId} {info:TypeInfo} {zv:Value} {x y:Operand} {p:Option Addr} {b m cq by':Nat} (hu:∀w,(underlying X).run c.P w=.ok (.slice A) w) (hi:∀w,(typeInfo A).run c.P w=.ok info w) (hz:info.zero=some zv) (hzc:zv.cells.size=1) (hsz:info.size=1) (hby:info.bytes=by')
  (hx:ev L x=some (.slice (some ⟨b,0,none⟩) 0 0)) (hy:ev L y=some (.slice p m cq)) (hb:HasB bs b A 0) (news:Nat→Value) (hnews:0 < m→∃q off,p=some ⟨q,off,none⟩∧∀j,j < m→Cell bs q (off+j) (news j)) (h1:∀j,j < m→(news j).oneCell'=true)
  (hb1:m * by'≤140737488355328) (hb2:m≤140737488355328) (hd:Nat.blt d c.n=true)
  (h:∀b' cap' bs',(b'=b∨b'∉ids bs)→MS bs bs' (fun x i=>x=b)→(∀j,j < m→Cell bs' b' j (news j))→TO c ops Q rest ((d,.slice (some ⟨b',0,none⟩) m cap')::L) ⟨bs',[]⟩) :
  TX c ops Q ⟨some d,.call ⟨.builtin .append,#[x,y],#[X,X]⟩,T,pos,af,g⟩ rest L ⟨bs,[]⟩ :=
 TX.apE (n:=0) hu hi hz hzc hsz hby hx hy hb (Nat.le_refl _) news hnews h1 (by simpa using hb1) (by simpa using hb2) hd fun b' cap' bs' hb' ms hB hc hold hnew _=>by
  have:=h b' cap' bs' (hb'.imp (fun e=>e.1) id) (ms.mono fun x i e=>e.1) (fun j hj=>by have:=hnew j hj;rwa [Nat.zero_add] at this)
  rwa [Nat.zero_add]
end
theorem KO.small {bs:Blocks} {src:Option Nat} {cap:Nat} {hs:List Hd} {is:Nat→Bool} {ky:Nat→ByteArray} {i N:Nat} (h:KO bs src cap hs (kall is ky i)) (hi:i≤N) (hN:N≤1000000):hs.length≤1000000:=by
 have:=kall_len is ky i
 rw [h.len];omega
theorem kall_sz {is:Nat→Bool} {ky:Nat→ByteArray} {i N a:Nat} {z:ByteArray} (hz:(kall is ky i)[a]?=some z) (hi:i≤N) (hky:∀i,i < N→(ky i).size≤1000000):z.size≤1000000:=by
 obtain ⟨j,hj,rfl⟩:=kall_mem (List.mem_of_getElem? hz)
 exact hky j (by omega)
theorem hv_hs {hs:List Hd} {j:Nat} (hj:j < hs.length):hv ((hs[j]?).getD (none,0,0))=hv hs[j]:=by rw [List.getElem?_eq_getElem hj];rfl
end Go.Proofs.YteicbpfkljnemaaGreat
namespace Go.Proofs.YteicbpfkljnemaaGreat
open Go Go.HW Fl
set_option maxRecDepth 40000
set_option maxHeartbeats 4000000
theorem c16m {ob:Nat} {sp:Option Nat} {N capL:Nat} {is:Nat→Bool} {ky:Nat→ByteArray} {w:World}
  (h4:w.cell? ⟨ob,4,none⟩=some (.slice (sp.map fun b=>⟨b,0,none⟩) N capL))
  (hp:∀i,i < N→∃b,sp=some b∧w.cell? ⟨b,i * 3,none⟩=some (.bool (is i))∧w.cell? ⟨b,i * 3+1,none⟩=some (.string (ky i)))
  (hN:N≤1000000) (hky:∀i,i < N→(ky i).size≤1000000) :
  Ret Tryz.prog 16 [.pointer (some ⟨ob,0,none⟩)] w Hp.nil (fun v Q=>∃bs src cap hs,Q=⟨bs,[]⟩∧v=.slice (src.map fun b=>⟨b,0,none⟩) hs.length cap∧KO bs src cap hs (kall is ky N)):=by
 refine Ret.of_body Tryz.func16 rfl Tryz.ntmps16 rfl (fun p hp=>by simp [Hp.all] at hp) (by simp [Hp.all]) ?_
 refine TC.seq (TC.region ?_)
 refine AS ?_
 refine NT ?_
 refine TC.seq (TC.region ?_)
 refine AS ?_
 refine NT ?_
 refine TC.seq ?_
 refine TC.seq (TC.region ?_)
 refine AS ?_
 refine NT ?_
 refine TC.block ?_
 refine TC.keep (L':=[(4,.int .i64 ((0:Nat):Int)),(0,.pointer (some ⟨ob,0,none⟩)),(3,.slice ((none:Option Nat).map fun b=>⟨b,0,none⟩) ([]:List Hd).length 0)]) ⟨rfl,rfl,rfl,trivial⟩ ?_
 refine TC.loopN (fun i L H=>∃bs src cap hs,L=[(4,.int .i64 (i:Int)),(0,.pointer (some ⟨ob,0,none⟩)),(3,.slice (src.map fun b=>⟨b,0,none⟩) hs.length cap)]∧H=⟨bs,[]⟩∧KO bs src cap hs (kall is ky i)) N (fun K1 i L H hst hle1 hn1=>?_) ⟨[],none,0,[],rfl,rfl,KO.none⟩
 obtain ⟨bs,src,cap,hs,rfl,rfl,hK⟩:=hst
 have hlen:=hK.small hle1 hN
 refine TC.seq ?_
 refine TC.seq (TC.region ?_)
 refine MV ?_
 refine MV ?_
 refine TO.u rfl rfl (TX.nilCheckP rfl rfl ?_)
 refine TO.u rfl rfl (TX.fieldAddr' Tryz.runUnderlying69 rfl Tryz.sizeOf67 rfl rfl rfl ?_)
 refine TO.u rfl rfl (TX.ldW Tryz.isAgg67 rfl h4 rfl rfl ?_)
 refine TO.u rfl rfl (TX.lenM Tryz.runUnderlying67 rfl rfl ?_)
 refine IB ?_
 refine NT ?_
 refine TC.cond rfl (fun hb=>?_) (fun hb=>?_)
 ·have hi:i < N:=by have:=of_decide_eq_true hb;omega
  obtain ⟨Lb,hsp,hci,hck⟩:=hp i hi
  have hkz:=hky i hi
  have h4b:=h4
  rw [hsp] at h4b
  refine TC.skip ?_
  refine TE.thenN rfl rfl ?_
  refine TC.seq ?_
  refine TC.block ?_
  refine TC.keep (L':=[(4,.int .i64 (i:Int)),(0,.pointer (some ⟨ob,0,none⟩)),(3,.slice (src.map fun b=>⟨b,0,none⟩) hs.length cap)]) ⟨rfl,rfl,rfl,trivial⟩ ?_
  refine TC.seq ?_
  refine TC.seq (TC.region ?_)
  refine MV ?_
  refine TO.u rfl rfl (TX.nilCheckP rfl rfl ?_)
  refine TO.u rfl rfl (TX.fieldAddr' Tryz.runUnderlying69 rfl Tryz.sizeOf67 rfl rfl rfl ?_)
  refine TO.u rfl rfl (TX.ldW Tryz.isAgg67 rfl h4b rfl rfl ?_)
  refine MV ?_
  refine TO.u rfl rfl (TX.ixK Tryz.runUnderlying67 Tryz.sizeOf71 rfl rfl hi rfl ?_)
  refine TO.u rfl rfl (TX.fieldAddr' Tryz.runUnderlying71 rfl Tryz.sizeOf4 rfl rfl rfl ?_)
  refine TO.u rfl rfl (TX.ldW Tryz.isAgg4 rfl hci rfl rfl ?_)
  refine TO.u rfl rfl (TX.not rfl rfl ?_)
  refine NT ?_
  refine TC.cond rfl (fun hb2=>?_) (fun hb2=>?_)
  ·have his:is i=false:=by simpa using hb2
   refine TC.exit ?_
   refine TE.thenX ?_
   refine TE.blockH ?_
   refine TE.thenN rfl rfl ?_
   refine TC.region ?_
   refine MV ?_
   refine IB ?_
   refine AS ?_
   refine TO.nil ?_
   rw [wI (by omega)]
   refine TE.keep (L':=[(4,.int .i64 ((i+1:Nat):Int)),(0,.pointer (some ⟨ob,0,none⟩)),(3,.slice (src.map fun b=>⟨b,0,none⟩) hs.length cap)]) ⟨rfl,rfl,rfl,trivial⟩ ?_
   exact hn1 _ _ hi ⟨bs,src,cap,hs,rfl,rfl,by rw [kall_skip his];exact hK⟩
  have his:is i=true:=by simpa using hb2
  refine TC.skip ?_
  refine TE.thenN rfl rfl ?_
  refine TC.seq (TC.region ?_)
  refine AS ?_
  refine NT ?_
  refine TC.keep (L':=[(5,.int .i64 ((0:Nat):Int)),(4,.int .i64 (i:Int)),(0,.pointer (some ⟨ob,0,none⟩)),(3,.slice (src.map fun b=>⟨b,0,none⟩) hs.length cap)]) ⟨rfl,rfl,rfl,rfl,trivial⟩ ?_
  refine TC.cut (fun L H=>∃a:Nat,L=[(5,.int .i64 (a:Int)),(4,.int .i64 (i:Int)),(0,.pointer (some ⟨ob,0,none⟩)),(3,.slice (src.map fun b=>⟨b,0,none⟩) hs.length cap)]∧H=⟨bs,[]⟩∧a≤hs.length∧kat (kall is ky i) (ky i)=a) ?_ (fun L H hm=>?_)
  ·refine TC.block ?_
   refine TC.loopN (fun a L H=>L=[(5,.int .i64 (a:Int)),(4,.int .i64 (i:Int)),(0,.pointer (some ⟨ob,0,none⟩)),(3,.slice (src.map fun b=>⟨b,0,none⟩) hs.length cap)]∧H=⟨bs,[]⟩∧∀j z,j < a→(kall is ky i)[j]?=some z→Op.bytesLess z.toList (ky i).toList=true) hs.length (fun K2 a L H hst hle2 hn2=>?_) ⟨rfl,rfl,fun j z hj=>absurd hj (by omega)⟩
   obtain ⟨rfl,rfl,hless⟩:=hst
   refine TC.seq ?_
   refine TC.seq ?_
   refine TC.keep (L':=[(5,.int .i64 (a:Int)),(4,.int .i64 (i:Int)),(0,.pointer (some ⟨ob,0,none⟩)),(3,.slice (src.map fun b=>⟨b,0,none⟩) hs.length cap)]) ⟨rfl,rfl,rfl,rfl,trivial⟩ ?_
   by_cases hlt:a < hs.length
   ·obtain ⟨z,hz⟩:∃z,(kall is ky i)[a]?=some z:=⟨_,List.getElem?_eq_getElem (by rw [← hK.len];exact hlt)⟩
    obtain ⟨q,hq1,hq2,hq3,hq4,hq5,_⟩:=(hK.rows a _ z (List.getElem?_eq_getElem hlt) hz).ex
    obtain ⟨b,hsrc⟩:=hK.src_some hlt
    have hca:=(hK.sl.some_ b hsrc).2.2 a _ (List.getElem?_eq_getElem hlt)
    have hva:hv hs[a]=.slice (some ⟨q,0,none⟩) z.size hs[a].2.2:=by unfold hv;rw [hq1,hq2];rfl
    rw [hva] at hca
    have hzs:=kall_sz hz hle1 hky
    refine TC.keep (L':=[(5,.int .i64 (a:Int)),(4,.int .i64 (i:Int)),(0,.pointer (some ⟨ob,0,none⟩)),(3,.slice (some ⟨b,0,none⟩) hs.length cap)]) ⟨rfl,rfl,rfl,congrArg some (by rw [hsrc];rfl),trivial⟩ ?_
    refine TC.draw hmixM 20 [.int .i64 (a:Int),.slice (some ⟨b,0,none⟩) hs.length cap,.int .i64 (hs.length:Int),.bool true,.bool true,.slice (some ⟨b,0,none⟩) hs.length cap,.int .i64 (a:Int),.pointer (some ⟨b,a,none⟩),.slice (some ⟨q,0,none⟩) z.size hs[a].2.2,.string z,.pointer (some ⟨ob,0,none⟩),.pointer (some ⟨ob,0,none⟩),.pointer (some ⟨ob,4,none⟩),.slice (some ⟨Lb,0,none⟩) N capL,.int .i64 (i:Int),.pointer (some ⟨Lb,i * 3,none⟩),.pointer (some ⟨Lb,i * 3+1,none⟩),.string (ky i),.bool (Op.bytesLess z.toList (ky i).toList),.bool (Op.bytesLess z.toList (ky i).toList)] [(44,.bool (Op.bytesLess z.toList (ky i).toList))] rfl rfl rfl rfl ?_ (.cons 19 rfl rfl rfl .nil) ?_
    ·refine QAll.u [(5,.int .i64 (a:Int))] (.old rfl .nil) rfl rfl (QV.move rfl).s rfl ?_
     refine QAll.u [(3,.slice (some ⟨b,0,none⟩) hs.length cap)] (.old rfl .nil) rfl rfl (QV.move rfl).s rfl ?_
     refine QAll.u [(26,.slice (some ⟨b,0,none⟩) hs.length cap)] (.dat 1 rfl rfl rfl .nil) rfl rfl (QV.lenM Tryz.runUnderlying44 rfl).s rfl ?_
     refine QAll.u [(25,.int .i64 (a:Int)),(27,.int .i64 (hs.length:Int))] (.dat 0 rfl rfl rfl (.dat 2 rfl rfl rfl .nil)) rfl rfl (QV.ltB rfl rfl (decide_eq_true (by omega))).s rfl ?_
     refine QAll.u [(28,.bool true)] (.dat 3 rfl rfl rfl .nil) rfl rfl (QV.move rfl).s rfl ?_
     refine QAll.g [(3,.slice (some ⟨b,0,none⟩) hs.length cap),(29,.bool true)] (.old rfl (.dat 4 rfl rfl rfl .nil)) rfl rfl rfl rfl (QV.move rfl).s rfl ?_
     refine QAll.g [(5,.int .i64 (a:Int)),(29,.bool true)] (.old rfl (.dat 4 rfl rfl rfl .nil)) rfl rfl rfl rfl (QV.move rfl).s rfl ?_
     refine QAll.g [(30,.slice (some ⟨b,0,none⟩) hs.length cap),(31,.int .i64 (a:Int)),(29,.bool true)] (.dat 5 rfl rfl rfl (.dat 6 rfl rfl rfl (.dat 4 rfl rfl rfl .nil))) rfl rfl rfl rfl (QV.ixN Tryz.runUnderlying44 Tryz.sizeOf36 rfl rfl hlt).s rfl ?_
     refine QAll.g [(32,.pointer (some ⟨b,a,none⟩)),(29,.bool true)] (.dat 7 rfl rfl rfl (.dat 4 rfl rfl rfl .nil)) rfl rfl rfl rfl (QV.ldM Tryz.isAgg36 rfl hca).s rfl ?_
     refine QAll.g [(33,.slice (some ⟨q,0,none⟩) z.size hs[a].2.2),(29,.bool true)] (.dat 8 rfl rfl rfl (.dat 4 rfl rfl rfl .nil)) rfl rfl rfl rfl (QV.b2sM Tryz.runUnderlying36 Tryz.runUnderlying5 Tryz.runUnderlying9 rfl (Nat.le_trans hzs (by decide)) (str_num z) (.inr ⟨q,rfl,hq5⟩)).s rfl ?_
     refine QAll.g [(0,.pointer (some ⟨ob,0,none⟩)),(29,.bool true)] (.old rfl (.dat 4 rfl rfl rfl .nil)) rfl rfl rfl rfl (QV.move rfl).s rfl ?_
     refine QAll.g [(35,.pointer (some ⟨ob,0,none⟩)),(29,.bool true)] (.dat 10 rfl rfl rfl (.dat 4 rfl rfl rfl .nil)) rfl rfl rfl rfl (QV.nilCheckP rfl).s rfl ?_
     refine QAll.g [(36,.pointer (some ⟨ob,0,none⟩)),(29,.bool true)] (.dat 11 rfl rfl rfl (.dat 4 rfl rfl rfl .nil)) rfl rfl rfl rfl (QV.faM Tryz.runUnderlying69 rfl Tryz.sizeOf67 rfl rfl).s rfl ?_
     refine QAll.g [(37,.pointer (some ⟨ob,4,none⟩)),(29,.bool true)] (.dat 12 rfl rfl rfl (.dat 4 rfl rfl rfl .nil)) rfl rfl rfl rfl (QV.ldW Tryz.isAgg67 rfl h4b rfl).s rfl ?_
     refine QAll.g [(4,.int .i64 (i:Int)),(29,.bool true)] (.old rfl (.dat 4 rfl rfl rfl .nil)) rfl rfl rfl rfl (QV.move rfl).s rfl ?_
     refine QAll.g [(38,.slice (some ⟨Lb,0,none⟩) N capL),(39,.int .i64 (i:Int)),(29,.bool true)] (.dat 13 rfl rfl rfl (.dat 14 rfl rfl rfl (.dat 4 rfl rfl rfl .nil))) rfl rfl rfl rfl (QV.ixK Tryz.runUnderlying67 Tryz.sizeOf71 rfl rfl hi).s rfl ?_
     refine QAll.g [(40,.pointer (some ⟨Lb,i * 3,none⟩)),(29,.bool true)] (.dat 15 rfl rfl rfl (.dat 4 rfl rfl rfl .nil)) rfl rfl rfl rfl (QV.faM Tryz.runUnderlying71 rfl Tryz.sizeOf9 rfl rfl).s rfl ?_
     refine QAll.g [(41,.pointer (some ⟨Lb,i * 3+1,none⟩)),(29,.bool true)] (.dat 16 rfl rfl rfl (.dat 4 rfl rfl rfl .nil)) rfl rfl rfl rfl (QV.ldW Tryz.isAgg9 rfl hck rfl).s rfl ?_
     refine QAll.g [(34,.string z),(42,.string (ky i)),(29,.bool true)] (.dat 9 rfl rfl rfl (.dat 17 rfl rfl rfl (.dat 4 rfl rfl rfl .nil))) rfl rfl rfl rfl (QV.sltM rfl rfl).s rfl ?_
     refine QAll.u [(29,.bool true),(43,.bool (Op.bytesLess z.toList (ky i).toList))] (.dat 4 rfl rfl rfl (.dat 18 rfl rfl rfl .nil)) rfl rfl (QV.pickT rfl rfl).s rfl ?_
     exact QAll.nil
    refine NT ?_
    refine TC.cond rfl (fun hb3=>?_) (fun hb3=>?_)
    ·refine TC.skip ?_
     refine TE.thenN rfl rfl ?_
     refine TC.block ?_
     refine TC.region ?_
     refine MV ?_
     refine IB ?_
     refine AS ?_
     refine TO.nil ?_
     rw [wI (by omega)]
     refine TE.blockN ?_
     refine TE.keep (L':=[(5,.int .i64 ((a+1:Nat):Int)),(4,.int .i64 (i:Int)),(0,.pointer (some ⟨ob,0,none⟩)),(3,.slice (src.map fun b=>⟨b,0,none⟩) hs.length cap)]) ⟨rfl,rfl,rfl,congrArg some (by rw [hsrc];rfl),trivial⟩ ?_
     refine hn2 _ _ hlt ⟨rfl,rfl,fun j z2 hj hz2=>?_⟩
     rcases Nat.lt_or_ge j a with h1 | h1
     ·exact hless j z2 h1 hz2
     obtain rfl:j=a:=by omega
     rw [hz] at hz2;cases hz2;exact hb3
    have hkat:kat (kall is ky i) (ky i)=a:=kat_eq (by rw [← hK.len];exact hle2) hless (.inr ⟨z,hz,hb3⟩)
    refine TC.exit ?_
    refine TE.thenX ?_
    refine TE.loopX ?_
    refine TE.blockH ?_
    refine TE.keep (L':=[(5,.int .i64 (a:Int)),(4,.int .i64 (i:Int)),(0,.pointer (some ⟨ob,0,none⟩)),(3,.slice (src.map fun b=>⟨b,0,none⟩) hs.length cap)]) ⟨rfl,rfl,rfl,congrArg some (by rw [hsrc];rfl),trivial⟩ ?_
    exact TE.mid ⟨a,rfl,rfl,hle2,hkat⟩
   refine TC.draw hmixM 20 [.int .i64 (a:Int),.slice (src.map fun b=>⟨b,0,none⟩) hs.length cap,.int .i64 (hs.length:Int),.bool false,.bool false,undef,undef,undef,undef,undef,undef,undef,undef,undef,undef,undef,undef,undef,undef,.bool false] [(44,.bool false)] rfl rfl rfl rfl ?_ (.cons 19 rfl rfl rfl .nil) ?_
   ·refine QAll.u [(5,.int .i64 (a:Int))] (.old rfl .nil) rfl rfl (QV.move rfl).s rfl ?_
    refine QAll.u [(3,.slice (src.map fun b=>⟨b,0,none⟩) hs.length cap)] (.old rfl .nil) rfl rfl (QV.move rfl).s rfl ?_
    refine QAll.u [(26,.slice (src.map fun b=>⟨b,0,none⟩) hs.length cap)] (.dat 1 rfl rfl rfl .nil) rfl rfl (QV.lenM Tryz.runUnderlying44 rfl).s rfl ?_
    refine QAll.u [(25,.int .i64 (a:Int)),(27,.int .i64 (hs.length:Int))] (.dat 0 rfl rfl rfl (.dat 2 rfl rfl rfl .nil)) rfl rfl (QV.ltB rfl rfl (decide_eq_false (by omega))).s rfl ?_
    refine QAll.u [(28,.bool false)] (.dat 3 rfl rfl rfl .nil) rfl rfl (QV.move rfl).s rfl ?_
    refine QAll.s [(29,.bool false)] (.dat 4 rfl rfl rfl .nil) rfl rfl rfl rfl rfl rfl ?_
    refine QAll.s [(29,.bool false)] (.dat 4 rfl rfl rfl .nil) rfl rfl rfl rfl rfl rfl ?_
    refine QAll.s [(29,.bool false)] (.dat 4 rfl rfl rfl .nil) rfl rfl rfl rfl rfl rfl ?_
    refine QAll.s [(29,.bool false)] (.dat 4 rfl rfl rfl .nil) rfl rfl rfl rfl rfl rfl ?_
    refine QAll.s [(29,.bool false)] (.dat 4 rfl rfl rfl .nil) rfl rfl rfl rfl rfl rfl ?_
    refine QAll.s [(29,.bool false)] (.dat 4 rfl rfl rfl .nil) rfl rfl rfl rfl rfl rfl ?_
    refine QAll.s [(29,.bool false)] (.dat 4 rfl rfl rfl .nil) rfl rfl rfl rfl rfl rfl ?_
    refine QAll.s [(29,.bool false)] (.dat 4 rfl rfl rfl .nil) rfl rfl rfl rfl rfl rfl ?_
    refine QAll.s [(29,.bool false)] (.dat 4 rfl rfl rfl .nil) rfl rfl rfl rfl rfl rfl ?_
    refine QAll.s [(29,.bool false)] (.dat 4 rfl rfl rfl .nil) rfl rfl rfl rfl rfl rfl ?_
    refine QAll.s [(29,.bool false)] (.dat 4 rfl rfl rfl .nil) rfl rfl rfl rfl rfl rfl ?_
    refine QAll.s [(29,.bool false)] (.dat 4 rfl rfl rfl .nil) rfl rfl rfl rfl rfl rfl ?_
    refine QAll.s [(29,.bool false)] (.dat 4 rfl rfl rfl .nil) rfl rfl rfl rfl rfl rfl ?_
    refine QAll.s [(29,.bool false)] (.dat 4 rfl rfl rfl .nil) rfl rfl rfl rfl rfl rfl ?_
    refine QAll.u [(29,.bool false),(43,undef)] (.dat 4 rfl rfl rfl (.dat 18 rfl rfl rfl .nil)) rfl rfl (QV.pickF rfl rfl).s rfl ?_
    exact QAll.nil
   refine NT ?_
   refine TC.condF rfl ?_
   have hkat:kat (kall is ky i) (ky i)=a:=kat_eq (by rw [← hK.len];exact hle2) hless (.inl (by rw [← hK.len];omega))
   refine TC.exit ?_
   refine TE.thenX ?_
   refine TE.loopX ?_
   refine TE.blockH ?_
   refine TE.keep (L':=[(5,.int .i64 (a:Int)),(4,.int .i64 (i:Int)),(0,.pointer (some ⟨ob,0,none⟩)),(3,.slice (src.map fun b=>⟨b,0,none⟩) hs.length cap)]) ⟨rfl,rfl,rfl,rfl,trivial⟩ ?_
   exact TE.mid ⟨a,rfl,rfl,hle2,hkat⟩
  obtain ⟨a,rfl,rfl,ha,hkat⟩:=hm
  have hsub:∀B0,0 < hs.length - a→∃q off,subP (src.map fun b=>(⟨b,0,none⟩:Addr)) 1 cap a=some ⟨q,off,none⟩∧∀j,j < hs.length - a→Cell ((B0,.cells #[] 36)::bs) q (off+j) (hv ((hs[a+j]?).getD (none,0,0))):=fun B0 hm=>by
   obtain ⟨b,hb⟩:=hK.src_some (a:=a) (by omega)
   have hca:=hK.cap_le
   refine ⟨b,a,by rw [hb];exact subS (by omega),fun j hj=>?_⟩
   rw [hv_hs (by omega)]
   exact (new_ms (W:=Wn)).keep _ _ _ ((hK.sl.some_ b hb).2.2 (a+j) _ (List.getElem?_eq_getElem (by omega))) (fun q=>q)
  refine TC.seq (TC.region ?_)
  refine TO.u rfl rfl (TX.bs0M Tryz.runUnderlying44 Tryz.sizeOf36 rfl (fun B0 hB0=>?_))
  refine MV ?_
  refine MV ?_
  refine TO.u rfl rfl (TX.slice (l:=(a:Int)) (h:=(hs.length:Int)) (m:=hs.length) Tryz.runUnderlying44 Tryz.sizeOf36 rfl (.some rfl) .none hK.cap_le (sliceOk_iff.2 ⟨by omega,by omega,by omega⟩) rfl ?_)
  rw [subA src hs.length cap a]
  refine TO.u rfl rfl (TX.restM (by':=24) Tryz.runUnderlying44 Tryz.typeInfo36 rfl rfl rfl rfl rfl rfl ⟨#[],(0,0),List.mem_cons_self,nofz0,rfl⟩ (fun j=>hv ((hs[a+j]?).getD (none,0,0))) (hsub B0) (fun j hj=>rfl) (by omega) (by omega) rfl (fun r capr bs9 hr ms9 hcr=>?_))
  refine AS ?_
  refine NT ?_
  have msn:MS bs bs9 Wn:=MS.then new_ms ms9 (fun x j q hx=>hB0 (q▸hx))
  have hrn:r∉ids bs:=fun hin=>by
   rcases hr with h1 | h1
   ·exact hB0 (h1▸hin)
   exact h1 ((new_ms (W:=Wn)).ids _ hin)
  have hK9:=hK.new msn
  clear ms9 hr hsub
  refine TC.keep (L':=[(6,.slice (some ⟨r,0,none⟩) (hs.length - a) capr),(5,.int .i64 (a:Int)),(4,.int .i64 (i:Int)),(0,.pointer (some ⟨ob,0,none⟩)),(3,.slice (src.map fun b=>⟨b,0,none⟩) hs.length cap)]) ⟨rfl,rfl,rfl,rfl,rfl,trivial⟩ ?_
  refine TC.nd (fun hnd9=>?_)
  refine TC.drawSL hmixM (fun k=>match k with | 0=>some (.slice (src.map fun b=>⟨b,0,none⟩) hs.length cap) | 1=>some (.int .i64 (a:Int)) | 2=>some (.slice (src.map fun b=>⟨b,0,none⟩) a cap) | 3=>some (.pointer (some ⟨ob,0,none⟩)) | 4=>some (.pointer (some ⟨ob,0,none⟩)) | 5=>some (.pointer (some ⟨ob,4,none⟩)) | 6=>some (.slice (some ⟨Lb,0,none⟩) N capL) | 7=>some (.int .i64 (i:Int)) | 8=>some (.pointer (some ⟨Lb,i * 3,none⟩)) | 9=>some (.pointer (some ⟨Lb,i * 3+1,none⟩)) | 10=>some (.string (ky i)) | 14=>some (.slice (some ⟨r,0,none⟩) (hs.length - a) capr) | _=>none) (fun _=>none) [11,12,13,15] [] (fun vs b=>match vs with | []=>b=bs9 | [v]=>P11 bs9 (ky i) b v | [_,v]=>P12 bs9 (ky i) b v | [_,_,v]=>P13 bs9 src a hs (ky i) b v | [_,_,_,v]=>P15 (kins (kall is ky i) (ky i)) b v | _=>False) [(67,15)] rfl rfl rfl rfl rfl rfl rfl rfl rfl (ms_nil _ _) rfl ?_ (fun bs2 vs V _ hSt hvl hV=>?_)
  ·refine .cons (OpJ.pure [(3,.slice (src.map fun b=>⟨b,0,none⟩) hs.length cap)] (.slice (src.map fun b=>⟨b,0,none⟩) hs.length cap) rfl rfl rfl rfl rfl rfl (fun V h=>(.old rfl .nil)) (fun b ms=>QV.move rfl)) ?_
   refine .cons (OpJ.pure [(5,.int .i64 (a:Int))] (.int .i64 (a:Int)) rfl rfl rfl rfl rfl rfl (fun V h=>(.old rfl .nil)) (fun b ms=>QV.move rfl)) ?_
   refine .cons (OpJ.pure [(52,.slice (src.map fun b=>⟨b,0,none⟩) hs.length cap),(53,.int .i64 (a:Int))] (.slice (src.map fun b=>⟨b,0,none⟩) a cap) rfl rfl rfl rfl rfl rfl (fun V h=>(.dat 0 rfl rfl (h 0 _ rfl rfl rfl) (.dat 1 rfl rfl (h 1 _ rfl rfl rfl) .nil))) (fun b ms=>QV.sl0 Tryz.runUnderlying44 Tryz.sizeOf36 ha hK.cap_le rfl rfl)) ?_
   refine .cons (OpJ.pure [(0,.pointer (some ⟨ob,0,none⟩))] (.pointer (some ⟨ob,0,none⟩)) rfl rfl rfl rfl rfl rfl (fun V h=>(.old rfl .nil)) (fun b ms=>QV.move rfl)) ?_
   refine .cons (OpJ.pure [(55,.pointer (some ⟨ob,0,none⟩))] (.pointer (some ⟨ob,0,none⟩)) rfl rfl rfl rfl rfl rfl (fun V h=>(.dat 3 rfl rfl (h 3 _ rfl rfl rfl) .nil)) (fun b ms=>QV.nilCheckP rfl)) ?_
   refine .cons (OpJ.pure [(56,.pointer (some ⟨ob,0,none⟩))] (.pointer (some ⟨ob,4,none⟩)) rfl rfl rfl rfl rfl rfl (fun V h=>(.dat 4 rfl rfl (h 4 _ rfl rfl rfl) .nil)) (fun b ms=>QV.faM Tryz.runUnderlying69 rfl Tryz.sizeOf67 rfl rfl)) ?_
   refine .cons (OpJ.pure [(57,.pointer (some ⟨ob,4,none⟩))] (.slice (some ⟨Lb,0,none⟩) N capL) rfl rfl rfl rfl rfl rfl (fun V h=>(.dat 5 rfl rfl (h 5 _ rfl rfl rfl) .nil)) (fun b ms=>QV.ldW Tryz.isAgg67 rfl h4b rfl)) ?_
   refine .cons (OpJ.pure [(4,.int .i64 (i:Int))] (.int .i64 (i:Int)) rfl rfl rfl rfl rfl rfl (fun V h=>(.old rfl .nil)) (fun b ms=>QV.move rfl)) ?_
   refine .cons (OpJ.pure [(58,.slice (some ⟨Lb,0,none⟩) N capL),(59,.int .i64 (i:Int))] (.pointer (some ⟨Lb,i * 3,none⟩)) rfl rfl rfl rfl rfl rfl (fun V h=>(.dat 6 rfl rfl (h 6 _ rfl rfl rfl) (.dat 7 rfl rfl (h 7 _ rfl rfl rfl) .nil))) (fun b ms=>QV.ixK Tryz.runUnderlying67 Tryz.sizeOf71 rfl rfl hi)) ?_
   refine .cons (OpJ.pure [(60,.pointer (some ⟨Lb,i * 3,none⟩))] (.pointer (some ⟨Lb,i * 3+1,none⟩)) rfl rfl rfl rfl rfl rfl (fun V h=>(.dat 8 rfl rfl (h 8 _ rfl rfl rfl) .nil)) (fun b ms=>QV.faM Tryz.runUnderlying71 rfl Tryz.sizeOf9 rfl rfl)) ?_
   refine .cons (OpJ.pure [(61,.pointer (some ⟨Lb,i * 3+1,none⟩))] (.string (ky i)) rfl rfl rfl rfl rfl rfl (fun V h=>(.dat 9 rfl rfl (h 9 _ rfl rfl rfl) .nil)) (fun b ms=>QV.ldW Tryz.isAgg9 rfl hck rfl)) ?_
   refine .cons (OpJ.act 0 rfl rfl rfl (by decide) rfl (.inl rfl) (fun b vs V _ hS hl hA hU=>?_)) ?_
   ·obtain rfl:vs=[]:=List.eq_nil_of_length_eq_zero hl
    have hS:b=bs9:=hS
    subst hS
    refine ⟨[(62,.string (ky i))],.dat 10 rfl rfl (hU 10 _ rfl rfl rfl) .nil,TO.u rfl rfl (TX.s2bM Tryz.runUnderlying9 Tryz.runUnderlying36 Tryz.runUnderlying5 rfl (Nat.le_trans hkz (by decide)) rfl (fun q cq cur fz hqn hf hc hzc hqm hby=>?_))⟩
    have hp11:P11 b (ky i) ((q,.cells cur 5 fz)::b) (.slice (some ⟨q,0,none⟩) (ky i).size cq):=⟨q,cq,rfl,hqn,new_ms,⟨q,rfl,rfl,⟨cur,fz,List.mem_cons_self,hf,hc⟩,hzc,fun t v hv=>⟨cur,5,fz,List.mem_cons_self,hby t v hv⟩,hqm⟩⟩
    exact TO.nil (TE.effV (.slice (some ⟨q,0,none⟩) (ky i).size cq) ⟨ms_nil _ _,hp11⟩ ⟨rfl,trivial⟩)
   refine .cons (OpJ.act 1 rfl rfl rfl (by decide) rfl (.inr ⟨11,rfl,rfl,rfl⟩) (fun b vs V _ hS hl hA hU=>?_)) ?_
   ·obtain ⟨v11,rfl⟩:=List.length_eq_one_iff.1 hl
    have hS:P11 bs9 (ky i) b v11:=hS
    obtain ⟨q,cq,rfl,hqn,ms1,hkr⟩:=hS
    refine ⟨[(63,.slice (some ⟨q,0,none⟩) (ky i).size cq)],.dat 11 rfl rfl (hA 0 11 _ rfl rfl rfl rfl) .nil,TO.u rfl rfl (TX.bsM Tryz.runUnderlying44 Tryz.sizeOf36 Tryz.zeroValue36 rfl (N:=En.sl) (some ⟨q,0,none⟩,(ky i).size,cq) rfl rfl rfl (fun zl hzl=>by match zl,hzl with | [z],_=>rfl) rfl (fun d b2 hd ms2 cd=>?_))⟩
    have hp12:P12 bs9 (ky i) b2 (.slice (some ⟨d,0,none⟩) 1 1):=⟨q,cq,d,rfl,hqn,ms1.trans ms2,hkr.step ms2 (fun _ _ _ w=>w),cd⟩
    exact TO.nil (TE.effV (.slice (some ⟨d,0,none⟩) 1 1) ⟨ms_nil _ _,hp12⟩ ⟨rfl,trivial⟩)
   refine .cons (OpJ.act 2 rfl rfl rfl (by decide) rfl (.inr ⟨12,rfl,rfl,rfl⟩) (fun b vs V _ hS hl hA hU=>?_)) ?_
   ·obtain ⟨v11,v12,rfl⟩:∃x y,vs=[x,y]:=by
     match vs,hl with
     | [x,y],_=>exact ⟨x,y,rfl⟩
    have hS:P12 bs9 (ky i) b v12:=hS
    obtain ⟨q,cq,d,rfl,hqn,ms1,hkr,cd⟩:=hS
    have hcl:=hK.cap_le
    refine ⟨[(54,.slice (src.map fun b=>⟨b,0,none⟩) a cap),(64,.slice (some ⟨d,0,none⟩) 1 1)],.dat 2 rfl rfl (hU 2 _ rfl rfl rfl) (.dat 12 rfl rfl (hA 1 12 _ rfl rfl rfl rfl) .nil),TO.u rfl rfl (TX.apG2 (off:=0) (src:=src) (by':=24) Tryz.runUnderlying44 Tryz.typeInfo36 rfl rfl rfl rfl rfl rfl (fun x hx=>⟨ms1.blk _ _ _ (hK9.sl.some_ x hx).1,by omega⟩) (fun q=>⟨by have h0:=congrArg List.length (hK9.sl.none_ q).1;rw [List.length_nil] at h0;omega,(hK9.sl.none_ q).2⟩) (fun _=>hv (some q,(ky i).size,cq)) (fun j hj=>by (have h0:j=0:=by omega);subst h0;exact cd) (fun j hj=>rfl) (by omega) (by omega) (by omega) rfl (fun b' cap' b2 hb' ms hB' hcap hold hnew hml=>?_))⟩
    exact TO.nil (TE.effV (.slice (some ⟨b',0,none⟩) (a+1) cap') ⟨ms_nil _ _,p13_of hK9 ha hqn ms1 hkr hb' ms hB' hcap (hml.elim (fun q=>by rw [q];exact hK.cm) id) hold hnew⟩ ⟨rfl,trivial⟩)
   refine .cons (OpJ.pure [(6,.slice (some ⟨r,0,none⟩) (hs.length - a) capr)] (.slice (some ⟨r,0,none⟩) (hs.length - a) capr) rfl rfl rfl rfl rfl rfl (fun V h=>(.old rfl .nil)) (fun b ms=>QV.move rfl)) ?_
   refine .cons (OpJ.act 3 rfl rfl rfl (by decide) rfl (.inr ⟨13,rfl,rfl,rfl⟩) (fun b vs V _ hS hl hA hU=>?_)) .nil
   obtain ⟨v11,v12,v13,rfl⟩:∃x y z,vs=[x,y,z]:=by
    match vs,hl with
    | [x,y,z],_=>exact ⟨x,y,z,rfl⟩
   have hS:P13 bs9 src a hs (ky i) b v13:=hS
   obtain ⟨q,cq,b',cap',rfl,hqn,hkr,ms0,hB',hcap,hcm,hc1,hc2⟩:=hS
   refine ⟨[(65,.slice (some ⟨b',0,none⟩) (a+1) cap'),(66,.slice (some ⟨r,0,none⟩) (hs.length - a) capr)],.dat 13 rfl rfl (hA 2 13 _ rfl rfl rfl rfl) (.dat 14 rfl rfl (hU 14 _ rfl rfl rfl) .nil),TO.nd fun hndb=>TO.u rfl rfl (TX.apE (by':=24) Tryz.runUnderlying44 Tryz.typeInfo36 rfl rfl rfl rfl rfl rfl hB' hcap (fun j=>hv ((hs[a+j]?).getD (none,0,0))) (fun _=>⟨r,0,rfl,fun j hj=>by rw [Nat.zero_add];exact ms0.keep _ _ _ (hcr j hj) (fun q=>hrn (hK.src_id q.1))⟩) (fun j hj=>rfl) (by omega) (by omega) rfl (fun b3 cap3 b2 hb3 ms2 hB3 hcap3 hold3 hnew3 hml3=>?_))⟩
   exact TO.nil (TE.effV (.slice (some ⟨b3,0,none⟩) (a+1+(hs.length - a)) cap3) ⟨ms_nil _ _,p15_of hK9 hnd9 hndb ha hkat hqn hkr ms0 hB' hc1 hc2 ms2 hB3 hcap3 (hml3.elim (fun q=>by rw [q];exact hcm) id) hold3 hnew3⟩ ⟨rfl,trivial⟩)
  obtain ⟨v11,v12,v13,v15,rfl⟩:∃x y z u,vs=[x,y,z,u]:=by
   match vs,hvl with
   | [x,y,z,u],_=>exact ⟨x,y,z,u,rfl⟩
  have hSt:P15 (kins (kall is ky i) (ky i)) bs2 v15:=hSt
  obtain ⟨b',cap',hs',rfl,hK'⟩:=hSt
  have e15:=hV 3 15 _ rfl rfl rfl
  refine TO.u rfl rfl (TX.assign (v:=.slice (some ⟨b',0,none⟩) hs'.length cap') (congrArg some e15) rfl ?_)
  refine TO.nil ?_
  refine TE.blockN ?_
  refine TE.thenN rfl rfl ?_
  refine TC.region ?_
  refine MV ?_
  refine IB ?_
  refine AS ?_
  refine TO.nil ?_
  rw [wI (by omega)]
  refine TE.keep (L':=[(4,.int .i64 ((i+1:Nat):Int)),(0,.pointer (some ⟨ob,0,none⟩)),(3,(.slice ((some b').map fun b=>⟨b,0,none⟩) hs'.length cap'))]) ⟨rfl,rfl,rfl,trivial⟩ ?_
  exact hn1 _ _ hi ⟨bs2,some b',cap',hs',rfl,rfl,by rw [kall_ins his];exact hK'⟩
 have hi:N≤i:=by have:=of_decide_eq_false hb;omega
 obtain rfl:i=N:=by omega
 refine TC.exit ?_
 refine TE.thenX ?_
 refine TE.loopX ?_
 refine TE.blockH ?_
 refine TE.keep (L':=[(0,.pointer (some ⟨ob,0,none⟩)),(3,.slice (src.map fun b=>⟨b,0,none⟩) hs.length cap)]) ⟨rfl,rfl,trivial⟩ ?_
 refine TE.thenN rfl rfl ?_
 refine TC.seq (TC.region ?_)
 refine MV ?_
 refine AS ?_
 refine NT ?_
 refine TC.ret ?_
 exact TE.fin (R:=Hp.nil) (TL.ret (R':=⟨bs,[]⟩) Tryz.results16 (.cons (.tmp rfl) .nil) (List.Sublist.refl _) ⟨bs,src,cap,hs,rfl,rfl,hK⟩)
end Go.Proofs.YteicbpfkljnemaaGreat
namespace Go.Proofs.YteicbpfkljnemaaGreat
open Go Go.HW
structure MSpec where
 fKind:Int
 fKey:Int
 fValue:Int
 fEntries:Int
 deriving DecidableEq,Inhabited
structure RPlace where
 fis:Bool
 fkey:ByteArray
 fb:List Int
 deriving DecidableEq,Inhabited
def RPlace.D:Od RPlace:=⟨Int,inferInstance,(Et.int .u8),5,fun x=>x.fb,fun x r=>{ x with fb:=r },⟨fun p=>[.bool p.1.fis,.string p.1.fkey,.slice p.2.1 p.2.2.1 p.2.2.2],3,fun _=>rfl,fun _=>rfl,by decide⟩,fun x s=>[.v (.bool x.fis),.v (.string x.fkey),s],fun ρ x u s h=>denAll_dens ⟨by rw [SV.den],by rw [SV.den],by rw [SV.den,h];rfl,trivial⟩,fun _ _=>rfl,fun _ _ _=>rfl,fun _=>rfl⟩
structure S_hatchwayref11_Hash where
 fS:MSpec
 fl:List RPlace
 deriving DecidableEq,Inhabited
end Go.Proofs.YteicbpfkljnemaaGreat
namespace Go.HW
open Go Go.RowKit
theorem Ret.frameF {P:Program} {f:FuncId} {args:List Value} {w:World} {post:Value→Hp→Prop} {post2:Value→Blocks→Prop} {F:List Blocks} (hnd:(F.flatten.map (·.1)).Nodup) (hh:∀p∈F.flatten,w.heap[p.1]?=some p.2) (h:Ret P f args w Hp.nil post)
  (sel:∀v Q,(Q.all.map (·.1)).Nodup→post v Q→∃g,(∀p∈g,p∈Q.all)∧(g.map (·.1)).Nodup∧post2 v g):Ret P f args w ⟨[],F⟩ (fun v R=>∃g,R=⟨[],F++[g]⟩∧post2 v g):=by
 refine Calls.mono h fun e w' ⟨v,Q,he,hf,hp⟩=>?_
 obtain ⟨g,g1,g2,g3⟩:=sel v Q hf.nodup hp
 have hlt:∀p∈F.flatten,p.1 < w.heap.size:=fun p hpm=>(Array.getElem?_eq_some_iff.1 (hh p hpm)).1
 have hge:∀p∈g,w.heap.size≤p.1:=fun p hpm=>(hf.own p (g1 p hpm)).resolve_left (by simp [Hp.all])
 have hall:(⟨[],F++[g]⟩:Hp).all=F.flatten++g:=by simp [Hp.all]
 have hall0:(⟨[],F⟩:Hp).all=F.flatten:=by simp [Hp.all]
 refine ⟨v,⟨[],F++[g]⟩,he,⟨⟨hf.ext.os,hf.ext.tape,hf.ext.output,hf.ext.size,fun k hk hn=>hf.ext.same k hk (by simp [Hp.all])⟩,?_,fun p hpm=>?_,fun p hpm=>?_⟩,g,rfl,g3⟩
 ·rw [hall,List.map_append,List.nodup_append]
  refine ⟨hnd,g2,fun x hx y hy e=>?_⟩
  obtain ⟨p,hp1,rfl⟩:=List.mem_map.1 hx
  obtain ⟨q,hq1,rfl⟩:=List.mem_map.1 hy
  have:=hlt p hp1
  have:=hge q hq1
  omega
 ·rw [hall] at hpm
  rcases List.mem_append.1 hpm with hpm | hpm
  ·rw [hf.ext.same p.1 (hlt p hpm) (by simp [Hp.all])];exact hh p hpm
  exact hf.heap p (g1 p hpm)
 rw [hall] at hpm
 rw [hall0]
 rcases List.mem_append.1 hpm with hpm | hpm
 ·exact .inl (List.mem_map.2 ⟨p,hpm,rfl⟩)
 exact .inr (hge p hpm)
end Go.HW
namespace Go.Proofs.YteicbpfkljnemaaGreat
open Go Go.HW Fl
set_option maxRecDepth 4000
theorem byte_map (l:List Int):l.flatMap (Et.int .u8).toEn.enc=l.map fun n=>Value.int .u8 n:=by
 induction l with
 | nil=>rfl
 | cons a l ih=>rw [List.flatMap_cons,ih];rfl
theorem sl_map (hl:List Go.HW.Sl):hl.flatMap En.sl.enc=hl.map fun s=>Value.slice s.1 s.2.1 s.2.2:=by
 induction hl with
 | nil=>rfl
 | cons a l ih=>rw [List.flatMap_cons,List.map_cons,ih];rfl
theorem cells_take {bs:Blocks} (hn:(bs.map (·.1)).Nodup) {b k:Nat} {T:TypeId} {vs:List Value} (hb:HasB bs b T k) (hv:∀(i:Nat) (v:Value),vs[i]?=some v→Cell bs b i v):∃(cur:Array Value) (fz:Nat×Nat),(b,Obj.cells cur T fz)∈bs∧NoFz fz cur.size∧cur.size=k∧cur.toList.take vs.length=vs:=by
 obtain ⟨cur,fz,h1,h2,h3⟩:=hb
 refine ⟨cur,fz,h1,h2,h3,?_⟩
 apply List.ext_getElem?
 intro j
 rw [List.getElem?_take]
 by_cases hj:j < vs.length
 ·rw [if_pos hj]
  obtain ⟨l,T',fr,q1,q2⟩:=hv j vs[j] (List.getElem?_eq_getElem hj)
  have:=nodup_obj hn h1 q1
  cases this
  rw [List.getElem?_eq_getElem hj]
  simpa using q2
 rw [if_neg hj,List.getElem?_eq_none (by omega)]
def ofHd (h:Hd):Go.HW.Sl:=(h.1.map fun b=>⟨b,0,none⟩,h.2.1,h.2.2)
theorem ko_rows {bs:Blocks} (hn:(bs.map (·.1)).Nodup):∀(hs:List Hd) (ks:List ByteArray),hs.length=ks.length→(∀(i:Nat) (h:Hd) (z:ByteArray),hs[i]?=some h→ks[i]?=some z→KR bs h z) →
  ∃rs:List Blocks,InAll (Et.int .u8).toEn 5 (hs.map ofHd) (ks.map numsOf) rs∧rs.flatten.map (·.1)=bks hs∧∀p∈rs.flatten,p∈bs
 | [],[],_,_=>⟨[],trivial,rfl,fun p h=>(by cases h)⟩
 | [],_::_,h,_=>by simp at h
 | _::_,[],h,_=>by simp at h
 | h::hs,z::ks,hl,hr=>by
  obtain ⟨rs,r1,r2,r3⟩:=ko_rows hn hs ks (by simpa using hl) (fun i x y hx hy=>hr (i+1) x y (by simpa using hx) (by simpa using hy))
  obtain ⟨q,q1,q2,q3,q4,q5,q6⟩:=(hr 0 h z rfl rfl).ex
  obtain ⟨cur,fz,c1,c2,c3,c4⟩:=cells_take hn q3 q5
  rw [List.length_map,numsOf_length] at c4
  refine ⟨[(q,.cells cur 5 fz)]::rs,⟨⟨.inr ⟨q,cur,?_,⟨fz,c2,rfl⟩,?_,q6,?_,?_⟩,?_⟩,r1⟩,?_,fun p hp=>?_⟩
  ·show h.1.map _=_
   rw [q1];rfl
  ·rw [numsOf_length];exact q4
  ·show cur.size=h.2.2 * 1
   rw [c3,Nat.mul_one]
  ·show cur.toList.take ((numsOf z).length * 1)=_
   rw [numsOf_length,Nat.mul_one,c4,byte_map]
  ·rw [numsOf_length];exact q2.symm
  ·rw [List.flatten_cons,List.map_append,r2,bks_cons]
   show [q]++bks hs=bks [h]++bks hs
   unfold bks;rw [List.filterMap_cons,q1];rfl
  rw [List.flatten_cons] at hp
  rcases List.mem_append.1 hp with hp | hp
  ·rw [List.mem_singleton] at hp;rw [hp];exact c1
  exact r3 p hp
theorem ko_own {bs:Blocks} {src:Option Nat} {cap:Nat} {hs:List Hd} {ks:List ByteArray} (h:KO bs src cap hs ks) (hn:(bs.map (·.1)).Nodup) :
  ∃g,(∀p∈g,p∈bs)∧(g.map (·.1)).Nodup∧OwnLL (Et.int .u8).toEn 5 36 (src.map fun b=>⟨b,0,none⟩) cap (ks.map numsOf) g:=by
 obtain ⟨rs,r1,r2,r3⟩:=ko_rows hn hs ks h.len h.rows
 have hnil:ks.map numsOf=[]→(src.map fun b=>(⟨b,0,none⟩:Addr))=none:=fun e=>by
  have:hs=[]:=List.eq_nil_of_length_eq_zero (by rw [h.len];simpa using congrArg List.length e)
  rw [h.sl.ne this];rfl
 cases hsrc:src with
 | none =>
  obtain ⟨e1,e2⟩:=h.sl.none_ hsrc
  subst e1;subst e2
  have hk:ks=[]:=List.eq_nil_of_length_eq_zero (by rw [← h.len];rfl)
  subst hk
  exact ⟨[],fun p hp=>(by cases hp),List.nodup_nil,fun _=>rfl,[],[],[],.inl ⟨rfl,rfl,rfl,rfl⟩,trivial,rfl⟩
 | some b =>
  obtain ⟨b1,b2,b3⟩:=h.sl.some_ b hsrc
  obtain ⟨cur,fz,c1,c2,c3,c4⟩:=cells_take hn (vs:=hs.map hv) b1 (fun i v hi=>by
   rw [List.getElem?_map] at hi
   obtain ⟨x,hx,rfl⟩:=Option.map_eq_some_iff.1 hi
   exact b3 i x hx)
  rw [List.length_map] at c4
  refine ⟨[(b,.cells cur 36 fz)]++rs.flatten,fun p hp=>?_,?_,⟨by rw [hsrc] at hnil;exact hnil,hs.map ofHd,[(b,.cells cur 36 fz)],rs,.inr ⟨b,cur,rfl,⟨fz,c2,rfl⟩,by rw [List.length_map];exact b2,h.cm,?_,?_⟩,r1,rfl⟩⟩
  ·rcases List.mem_append.1 hp with hp | hp
   ·rw [List.mem_singleton] at hp;rw [hp];exact c1
   exact r3 p hp
  ·rw [List.map_append,r2]
   show (b::bks hs).Nodup
   refine List.nodup_cons.2 ⟨fun hin=>?_,h.nd⟩
   obtain ⟨k,hk⟩:=bks_ids h.len h.rows b hin
   have:=b1.ty hn hk;cases this
  ·show cur.size=cap * 1
   rw [c3,Nat.mul_one]
  show cur.toList.take ((hs.map ofHd).length * 1)=_
  rw [List.length_map,Nat.mul_one,c4,sl_map,List.map_map]
  rfl
def kis (l:List RPlace) (i:Nat):Bool:=(l.getD i default).fis
def kky (l:List RPlace) (i:Nat):ByteArray:=(l.getD i default).fkey
def fn16 (p0:S_hatchwayref11_Hash):Option (List (List Int)):=bif decide (p0.fl.length≤1000000)&&p0.fl.all (fun x=>decide (x.fkey.size≤1000000)) then some ((kall (kis p0.fl) (kky p0.fl) p0.fl.length).map numsOf) else none
theorem c16 (p0:S_hatchwayref11_Hash) (r:List (List Int)) (h:fn16 p0=some r):Con Tryz.prog 16 [.p 0 0] [(0,.cells 69 [.v (.int .u8 p0.fS.fKind),.v (.int .i64 p0.fS.fKey),.v (.int .i64 p0.fS.fValue),.v (.int .i64 p0.fS.fEntries),.sl 1]),(1,.ex (pO RPlace.D 71 p0.fl) [])] 2 (.sl 2) [(0,.cells 69 [.v (.int .u8 p0.fS.fKind),.v (.int .i64 p0.fS.fKey),.v (.int .i64 p0.fS.fValue),.v (.int .i64 p0.fS.fEntries),.sl 1]),(1,.ex (pO RPlace.D 71 p0.fl) []),(2,.rowL (Et.int .u8) 5 36 r r.length)] 3:=by
 have hk:(p0.fl.length≤1000000∧∀x∈p0.fl,x.fkey.size≤1000000)∧r=(kall (kis p0.fl) (kky p0.fl) p0.fl.length).map numsOf:=by
  unfold fn16 at h
  cases hd:decide (p0.fl.length≤1000000)&&p0.fl.all (fun x=>decide (x.fkey.size≤1000000)) with
  | true =>
   rw [hd,cond_true] at h
   simp only [Bool.and_eq_true,decide_eq_true_eq,List.all_eq_true] at hd
   exact ⟨hd,(Option.some.inj h).symm⟩
  | false=>rw [hd] at h;cases h
 obtain ⟨⟨k1,k2⟩,rfl⟩:=hk
 intro w ρ F vs ha hr hf hh hnd gl
 obtain ⟨f0,F1,rfl,hr0,f1,F2,rfl,hr1,hF⟩:=hr
 have hF:F2=[]:=hF
 subst hF
 obtain ⟨ob,vs0,a1,a2,rfl⟩:=hr0
 obtain ⟨l,vs1,b1,b2,b3,sls,H0,rs,d1,d2,d3,rfl⟩:=hr1
 have hvs0:vs0=[.int .u8 p0.fS.fKind,.int .i64 p0.fS.fKey,.int .i64 p0.fS.fValue,.int .i64 p0.fS.fEntries,.slice l.sp l.len l.cap]:=by
  have:SV.dens ρ [.v (.int .u8 p0.fS.fKind),.v (.int .i64 p0.fS.fKey),.v (.int .i64 p0.fS.fValue),.v (.int .i64 p0.fS.fEntries),.sl 1]=some [.int .u8 p0.fS.fKind,.int .i64 p0.fS.fKey,.int .i64 p0.fS.fValue,.int .i64 p0.fS.fEntries,.slice l.sp l.len l.cap]:=by
   rw [dens_cons,dens_cons,dens_cons,dens_cons,dens_cons,dens_nil,deni_na rfl,deni_na rfl,deni_na rfl,deni_na rfl,deni_na rfl,SV.den,SV.den,SV.den,SV.den,SV.den,b1];rfl
  rw [this] at a2;exact (Option.some.inj a2).symm
 obtain ⟨vx,r',e1,e2,rfl⟩:=dens_cons_some.1 ha
 rw [dens_nil] at e2;cases e2
 rw [deni_na rfl,SV.den,a1] at e1
 simp only [Option.map_some,Option.some.injEq] at e1
 subst e1
 have hho:w.heap[ob]?=some (.cells vs0.toArray 69 (0,0)):=hh (ob,.cells vs0.toArray 69) (by simp)
 have hlen:l.len=p0.fl.length:=b3
 have hsp:l.sp=(l.sp.map (·.block)).map fun b=>⟨b,0,none⟩:=by
  rcases d2 with ⟨h1,_⟩ | ⟨g,cur,h1,_⟩ <;> rw [h1] <;> rfl
 have h4:w.cell? ⟨ob,4,none⟩=some (.slice ((l.sp.map (·.block)).map fun b=>⟨b,0,none⟩) p0.fl.length l.cap):=by
  rw [← hsp,← hlen]
  simp [World.cell?,hho,hvs0]
 have hp:∀i,i < p0.fl.length→∃b,l.sp.map (·.block)=some b∧w.cell? ⟨b,i * 3,none⟩=some (.bool (kis p0.fl i))∧w.cell? ⟨b,i * 3+1,none⟩=some (.string (kky p0.fl i)):=fun i hi=>by
  rcases d2 with ⟨_,_,hz,_⟩ | ⟨g,cur,h1,⟨fz,hfz,rfl⟩,h2,h3,h5,h6⟩
  ·have h0:=congrArg List.length hz
   rw [List.length_zip,d1,Nat.min_self,List.length_nil] at h0
   omega
  have hb:w.heap[g]?=some (.cells cur 71 fz):=hh (g,.cells cur 71 fz) (by simp)
  have hx:(p0.fl.zip sls)[i]?=some (p0.fl[i],sls[i]'(by omega)):=by rw [List.getElem?_zip_eq_some];exact ⟨List.getElem?_eq_getElem hi,List.getElem?_eq_getElem (by omega)⟩
  have hget:∀(j:Nat) (v:Value),j < 3→(RPlace.D.E.enc (p0.fl[i],sls[i]'(by omega)))[j]?=some v→w.cell? ⟨g,i * 3+j,none⟩=some v:=fun j v hj hv=>by
   have hf:((p0.fl.zip sls).flatMap RPlace.D.E.enc)[i * 3+j]?=some v:=flat_get RPlace.D.E (p0.fl.zip sls) i j _ v hx hv
   rw [← h6,List.getElem?_take] at hf
   split at hf
   ·simp [World.cell?,hb]
    simpa using hf
   cases hf
  have e0:p0.fl.getD i default=p0.fl[i]:=by simp [hi]
  refine ⟨g,by rw [h1];rfl,?_,?_⟩
  ·have:=hget 0 (.bool p0.fl[i].fis) (by omega) rfl
   unfold kis;rw [e0];simpa using this
  have:=hget 1 (.string p0.fl[i].fkey) (by omega) rfl
  unfold kky;rw [e0];exact this
 have hky:∀i,i < p0.fl.length→(kky p0.fl i).size≤1000000:=fun i hi=>by
  have e0:p0.fl.getD i default=p0.fl[i]:=by simp [hi]
  unfold kky;rw [e0];exact k2 _ (List.getElem_mem hi)
 refine Ret.mono (Ret.frameF (post2:=fun v g=>∃sp cap,v=.slice sp (kall (kis p0.fl) (kky p0.fl) p0.fl.length).length cap∧OwnLL (Et.int .u8).toEn 5 36 sp cap ((kall (kis p0.fl) (kky p0.fl) p0.fl.length).map numsOf) g) hnd hh (c16m h4 hp k1 hky) ?_) ?_
 ·rintro v Q hn ⟨bs,src,cap,hs,rfl,rfl,hK⟩
  rw [mall] at hn
  obtain ⟨g,g1,g2,g3⟩:=ko_own hK hn
  exact ⟨g,fun p hp=>by rw [mall];exact g1 p hp,g2,_,cap,by rw [hK.len],g3⟩
 rintro v R ⟨g,rfl,sp,cap,rfl,ho⟩
 have hg:=Env.set_grow (ρ:=ρ) (n:=2) (l:=⟨sp,cap,(kall (kis p0.fl) (kky p0.fl) p0.fl.length).length⟩) hf
 have hle:=hg.toLe hf
 have hself:(ρ.set 2 ⟨sp,cap,(kall (kis p0.fl) (kky p0.fl) p0.fl.length).length⟩) 2=some ⟨sp,cap,(kall (kis p0.fl) (kky p0.fl) p0.fl.length).length⟩:=Env.set_self
 generalize ρ.set 2 ⟨sp,cap,(kall (kis p0.fl) (kky p0.fl) p0.fl.length).length⟩=ρ' at hg hle hself
 have r0:Rep (cB Tryz.prog w []) ρ' 0 (.cells 69 [.v (.int .u8 p0.fS.fKind),.v (.int .i64 p0.fS.fKey),.v (.int .i64 p0.fS.fValue),.v (.int .i64 p0.fS.fEntries),.sl 1]) [(ob,.cells vs0.toArray 69 (0,0))]:=⟨ob,vs0,blkOf_mono hle a1,dens_mono hle a2,rfl⟩
 have r1:Rep (cB Tryz.prog w []) ρ' 1 (.ex (pO RPlace.D 71 p0.fl) []) (H0++rs.flatten):=⟨l,vs1,hle _ _ b1,dens_mono hle b2,b3,sls,H0,rs,d1,d2,d3,rfl⟩
 have r2:Rep (cB Tryz.prog w []) ρ' 2 (.rowL (Et.int .u8) 5 36 ((kall (kis p0.fl) (kky p0.fl) p0.fl.length).map numsOf) ((kall (kis p0.fl) (kky p0.fl) p0.fl.length).map numsOf).length) g:=⟨sp,cap,by rw [hself,List.length_map],rfl,ho⟩
 refine ⟨cB Tryz.prog w [],ρ',[[(ob,.cells vs0.toArray 69 (0,0))],H0++rs.flatten,g],rfl,hg,by rw [SV.den,hself];rfl,?_⟩
 exact ⟨_,_,rfl,r0,_,_,rfl,r1,g,[],rfl,r2,rfl⟩
end Go.Proofs.YteicbpfkljnemaaGreat
