/- Part of the proof: the logic, the walks, and what they compute. -/
import Derived.Maps.RangeRun
import Derived.Laws.BytesArg
import Derived.Laws.Concat
import Derived.Laws.Cover1
import Derived.RecoverIn
import Derived.Laws.IdiomStrings
import Derived.Lib.AppendStr
import Derived.Lib.UnsafeStr
import Derived.Test.YteicbpfkljnemaaGreatTB
set_option linter.all false
namespace Go.HW
open Go Go.RowKit
def ConY (P:Program) (k:FuncId) (args:List SV) (H:SH) (n:Nat) (r:SV) (H':SH) (n':Nat) (Y:World→List Nat→Env→Prop):Prop :=
 ∀(w:World) (ρ:Env) (F:List Blocks) (vs:List Value),SV.dens ρ args=some vs→Reps (cB P w F) ρ H F→(∀t,n≤t→ρ t=none)→(∀p∈F.flatten,w.heap[p.1]?=some p.2)→(F.flatten.map (·.1)).Nodup→GlF w (F.flatten.map (·.1)) →
  Y w (F.flatten.map (·.1)) ρ→Ret P k vs w ⟨[],F⟩ (postC ρ n r H' n')
theorem ConY.of_body {P:Program} {k:FuncId} {fn:Func} {code:Code} {N:Nat} {args:List SV} {H H':SH} {n n':Nat} {r:SV} {Y:World→List Nat→Env→Prop} (hf:P.funcs[k]?=some fn) (hb:fn.body=some code) (hN:fn.ntmps=N)
  (ha:(Nat.ble args.length N&&noAr args)=true) (h:∀w F ρ gl,Y w (F.flatten.map (·.1)) ρ→G4 (c0 P w F N ρ n gl) (FinC P fn w F ρ n r H' n') (.code code []) ⟨argL 0 args,H,n⟩):ConY P k args H n r H' n' Y:=by
 intro w ρ F vs hd hR hl hh hn gl hY
 simp only [Bool.and_eq_true] at ha
 obtain ⟨d1,d2,d3⟩:=argL_dens (k:=0) (noAr_spec ha.2) hd
 refine Ret.of_body hf hb hN (by rw [d3];exact ha.1) (by simpa [Hp.all] using hh) (by simpa [Hp.all] using hn) ?_
 intro a w' s
 refine h w F ρ gl hY ρ F a w' ⟨⟨d1,Reps.cx (c:=cB P w F) (c':=(c0 P w F N ρ n gl).toCx) rfl rfl hR,hl,fun _ _=>rfl,Nat.le_refl _⟩,?_⟩
 show Sat _ (realL ρ (argL 0 args)) ⟨[],F⟩ a w'
 rw [d2];exact s
theorem evs_ext {Lr Ls:Slots} (h:∀t v,look Ls t=some v→look Lr t=some v):∀{xs:List Operand} {vs:List Value},evs Ls xs=some vs→evs Lr xs=some vs
 | [],vs,hx=>hx
 | x::xs,vs,hx=>by
  simp only [evs] at hx ⊢
  cases h1:ev Ls x with
  | none=>rw [h1] at hx;cases hx
  | some v=>cases h2:evs Ls xs with
   | none=>rw [h1,h2] at hx;cases hx
   | some us=>rw [ev_ext h h1,evs_ext h h2];rw [h1,h2] at hx;exact hx
theorem takeS1_app:∀{A B:List Blocks} {f:Blocks},takeS1 (A++f::B) A.length=some (f,A++B)
 | [],B,f=>rfl
 | x::A,B,f=>by simp [takeS1,takeS1_app (A:=A)]
theorem insB_app {α:Type}:∀{A B:List α} {f:α},insB (A++B) A.length f=A++f::B
 | [],B,f=>by cases B <;> rfl
 | x::A,B,f=>by simp [insB,insB_app (A:=A)]
def ydF {σ α:Type} (t:Nat) (J:σ→Blocks→Prop) (encS:α→List SV) (yv:Value) (s s':σ) (g:Bool) (x:α):EvF:=fun _ L H n op=>match op with
 | .call ⟨.value f,args,_⟩=>match evS L f,evSs L args.toList with
  | some (.v fv),some vs=>some ([fv=yv,vs=encS x,lookH H t=some (.bx (J s))],some (.v (.bool g)),repH H t t (.bx (J s')),n)
  | _,_=>none
 | _=>none
theorem ydF_ok {c:C4} {σ α:Type} {t:Nat} {J:σ→Blocks→Prop} {encS:α→List SV} {enc:α→List Value} {yv:Value} {s s':σ} {step:σ→α→Option σ} {go:σ→Bool} {x:α}
  (hy:Yld c.P c.w0 c.R0 yv J enc step go) (henc:∀ρ:Env,(∀t,t < c.m→ρ t=c.π t)→∀x,SV.dens ρ (encS x)=some (enc x)) (hst:step s x=some s'):EvOk c (ydF t J encS yv s s' (go s') x):=by
 intro b L H n op cs r H' n' hB h hc dst T pos af g hdr hd
 unfold ydF at h
 split at h
 ·rename_i f args ats;split at h
  ·rename_i fv vs hf ha;cases h
   obtain ⟨c1,c2⟩:=allP_cons hc
   obtain ⟨c2,c3⟩:=allP_cons c2
   have c3:lookH H t=some (.bx (J s)):=c3
   subst c1;subst c2
   cases dst with
   | none=>simp at hdr
   | some d =>
    refine ⟨rfl,OT.ofTX hd fun ρ F Fx o Lr hLr Q hk=>?_⟩
    obtain ⟨vf,e1,e2⟩:=evS_ok o.dens hf
    obtain ⟨va,e3,e4⟩:=evSs_ok o.dens ha
    rw [SV.den] at e1;cases e1
    rw [henc ρ o.pin] at e3;cases e3
    obtain ⟨FA,f',FB,rfl,⟨⟨l,r1⟩,r2⟩,hrep,_⟩:=o.reps.look c3
    have hFe:FA++f'::FB++Fx=FA++f'::(FB++Fx):=by simp
    rw [hFe]
    have ea:args=args.toList.toArray:=by simp
    rw [ea]
    refine TX.yield (E:=[]) FA.length hy takeS1_app (ev_ext hLr e2) (evs_ext hLr e4) rfl hst r2 hd (fun Hs' hJ=>?_)
    rw [insB_app]
    have:=hk ρ (FA++Hs'::FB) (.bool (go s')) o.grow0 (by rw [Option.getD_some,SV.den]) (hrep ρ t (.bx (J s')) Hs' (Env.le_refl _) ⟨⟨l,r1⟩,hJ⟩)
    simpa [putS] using this
  cases h
 cases h
def denAll (ρ:Env):List SV→List Value→Prop
 | [],[]=>True
 | x::l,v::r=>x.den ρ=some v∧denAll ρ l r
 | _,_=>False
structure Yn (α:Type) where
 sv:Nat→α→List SV
 val:Loc→α→List Value
 P:Loc→Prop
 ok:∀(ρ:Env) (t:Nat) (l:Loc) (x:α),ρ t=some l→P l→denAll ρ (sv t x) (val l x)
def Yn.one {α:Type} (V:Vn α):Yn α:=⟨fun _ x=>[V.sv x],fun _ x=>[V.val x],fun _=>True,fun ρ _ _ x _ _=>⟨V.ok ρ x,trivial⟩⟩
theorem denAll_dens {ρ:Env}:∀{l:List SV} {r:List Value},denAll ρ l r→SV.dens ρ l=some r
 | [],[],_=>dens_nil
 | x::l,v::r,h=>dens_cons_some.2 ⟨[v],r,deni_of h.1,denAll_dens h.2,rfl⟩
 | [],_::_,h=>h.elim
 | _::_,[],h=>h.elim
theorem Yn.dens {α:Type} (Y:Yn α) {ρ:Env} {t:Nat} {l:Loc} (hl:ρ t=some l) (hP:Y.P l) (x:α):SV.dens ρ (Y.sv t x)=some (Y.val l x):=denAll_dens (Y.ok ρ t l x hl hP)
def YldY (P:Program) {σ α:Type} (w:World) (R:List Nat) (ρ:Env) (t:Nat) (yv:Value) (J:σ→Blocks→Prop) (Y:Yn α) (step:σ→α→Option σ) (go:σ→Bool):Prop :=
 ∃l,ρ t=some l∧Y.P l∧Yld P w R yv J (Y.val l) step go
def argPS:List Nat→List SV→SL→SL
 | p::ps,v::vs,L=>argPS ps vs ((p,v)::L)
 | _,_,L=>L
theorem argPS_ok {ρ:Env}:∀{ps:List Nat} {vs:List SV} {us:List Value} {L:SL},denAll ρ vs us→DensL ρ L→DensL ρ (argPS ps vs L)∧realL ρ (argPS ps vs L)=argP ps us (realL ρ L)
 | [],vs,us,L,h,hL=>⟨by cases vs <;> exact hL,by cases vs <;> cases us <;> rfl⟩
 | p::ps,[],[],L,h,hL=>⟨hL,rfl⟩
 | p::ps,v::vs,u::us,L,h,hL=>by
  obtain ⟨i1,i2⟩:=argPS_ok (ps:=ps) (L:=(p,v)::L) h.2 ⟨⟨u,h.1⟩,hL⟩
  refine ⟨i1,?_⟩
  simp only [argPS,argP]
  rw [i2];simp [realL,h.1]
 | p::ps,[],_::_,L,h,hL=>h.elim
 | p::ps,_::_,[],L,h,hL=>h.elim
theorem ydY_ok {c:C4} {σ α:Type} {tj t:Nat} {J:σ→Blocks→Prop} {Y:Yn α} {yv:Value} {s s':σ} {step:σ→α→Option σ} {go:σ→Bool} {x:α}
  (hy:YldY c.P c.w0 c.R0 c.π t yv J Y step go) (ht:Nat.blt t c.m=true) (hst:step s x=some s'):EvOk c (ydF tj J (Y.sv t) yv s s' (go s') x):=by
 obtain ⟨l,h1,h2,h3⟩:=hy
 have ht:t < c.m:=by simpa [Nat.blt_eq] using ht
 exact ydF_ok h3 (fun ρ hp x=>Y.dens (by rw [hp t ht];exact h1) h2 x) hst
def Ev.yd {c:C4} {σ α:Type} (tj:Nat) {t:Nat} {J:σ→Blocks→Prop} {Y:Yn α} {yv:Value} {s s':σ} {step:σ→α→Option σ} {go:σ→Bool} (x:α)
  (hy:YldY c.P c.w0 c.R0 c.π t yv J Y step go) (ht:Nat.blt t c.m=true) (hst:step s x=some s'):Ev c:=.ot (ydF tj J (Y.sv t) yv s s' (go s') x) (ydY_ok hy ht hst)
def allRd:SH→Bool
 | []=>true
 | (_,@Blk.rd _ _ _ _)::r=>allRd r
 | _::_=>false
theorem Reps.rdNil {c:Cx} {ρ:Env}:∀{H:SH} {F:List Blocks},allRd H=true→Reps c ρ H F→F.flatten=[]
 | [],F,_,h=>by have:F=[]:=h;subst this;rfl
 | (t,b)::H,F,ha,⟨f,F',e,h2,h3⟩=>by
  subst e
  cases b <;> first | (cases ha;done) | skip
  obtain ⟨sp,cap,_,h5,_⟩:=h2
  rw [List.flatten_cons,h5,Reps.rdNil (H:=H) ha h3];rfl
theorem Reps.rdTr {c c':Cx} {ρ ρ':Env} {np:Nat} (hx:ExtB c.w0 c.R0 c'.w0 c'.R0) (hρ:∀t,t < np→ρ' t=ρ t):∀{H:SH} {F:List Blocks},allRd H=true→ltH np H=true→Reps c ρ H F→Reps c' ρ' H F
 | [],F,_,_,h=>h
 | (t,b)::H,F,ha,hl,⟨f,F',e,h2,h3⟩=>by
  cases b <;> first | (cases ha;done) | skip
  rename_i α i N xs
  have hlt:=(ltH_mem hl (t,@Blk.rd _ i N xs) (by simp)).1
  obtain ⟨sp,cap,h4,h5,h6,h7⟩:=h2
  refine ⟨f,F',e,⟨sp,cap,by rw [hρ t hlt];exact h4,h5,h6,h7.tr hx⟩,Reps.rdTr hx hρ (H:=H) ha ?_ h3⟩
  simp only [ltH,Bool.and_eq_true] at hl ⊢
  exact hl.2
theorem Reps.ownTr {c c':Cx} {ρ ρ':Env} {n:Nat} (hρ:∀t,t < n→ρ' t=ρ t):∀{H:SH} {F:List Blocks},allOwn H=true→ltH n H=true→Reps c ρ H F→Reps c' ρ' H F
 | [],F,_,_,h=>h
 | (t,b)::H,F,ha,hl,⟨f,F',e,h2,h3⟩=>by
  simp only [allOwn,Bool.and_eq_true] at ha
  have hm:=ltH_mem hl (t,b) (by simp)
  refine ⟨f,F',e,(Rep.eqB (fun u hu=>(hρ u hu).symm) hm.1 hm.2 h2).ownCx ha.1,Reps.ownTr hρ (H:=H) ha.2 ?_ h3⟩
  simp only [ltH,Bool.and_eq_true] at hl ⊢
  exact hl.2
section
variable {P:Program} {w0:World} {R0:List Nat} {N:Nat} {ds:List Deferred} {gl:GlF w0 R0} {ρ0:Env} {m:Nat}
def RoundsY {σ α:Type} (P:Program) (w0:World) (R0:List Nat) (N:Nat) (ps:List Nat) (assign body:Code) (Y:Yn α) (TS:σ→SH) (RD:SH) (L:SL) (np n2 tr:Nat) (stepB:σ→α→Option (σ×Nat)):Prop :=
 ∀(l:Nat) (w':World) (R:List Nat) (gl:GlF w' R) (ρ:Env) (pA pB:Blocks→Prop) (QA QB:Exit→Act→World→Prop) (s:σ) (x:α) (s':σ) (m:Nat),(∀f,pB f→∃lr q,f=(l,.loop lr)::q)→stepB s x=some (s',m) →
  (∀L' H' n',lookH H' n2=some (.bx pA)→G4 ⟨⟨P,some l,w',R,N,[]⟩,ρ,np,gl⟩ QB (.code body []) ⟨L',repH H' n2 n2 (.bx pB),n'⟩→G4 ⟨⟨P,some l,w',R,N,[]⟩,ρ,np,gl⟩ QA (.exit .normal []) ⟨L',H',n'⟩) →
  (∀st,Imp ⟨⟨P,some l,w',R,N,[]⟩,ρ,np,gl⟩ st ⟨[],(n2,.bx pB)::TS s',n2+1⟩→G4 ⟨⟨P,some l,w',R,N,[]⟩,ρ,np,gl⟩ QB (.exit (exitOf m) []) st) →
  G4 ⟨⟨P,some l,w',R,N,[]⟩,ρ,np,gl⟩ QA (.code assign []) ⟨argPS ps (Y.sv tr x) L,(n2,.bx pA)::(TS s++RD),n2+1⟩
end
def delHs:List (Nat×Nat)→SH→SH
 | [],H=>H
 | p::ts,H=>delHs ts (delH H p.1)
def marksIn:List (Nat×Nat)→SH→Prop
 | [],_=>True
 | p::ms,H=>lookH H p.1=some (.bx (fun f=>f=[(p.2,.deferred (some []))]))∧marksIn ms (delH H p.1)
theorem marks_split {c:Cx} {ρ:Env}:∀{ms:List (Nat×Nat)} {H:SH} {F:List Blocks},marksIn ms H→Reps c ρ H F→∃F1,Reps c ρ (delHs ms H) F1∧F.flatten.Perm (ms.map (fun p=>(p.2,Obj.deferred (some [])))++F1.flatten)
 | [],H,F,_,h=>⟨F,h,List.Perm.refl _⟩
 | p::ms,H,F,⟨h1,h2⟩,h=>by
  obtain ⟨FA,f,FB,rfl,⟨_,rfl⟩,_,h3⟩:=h.look h1
  obtain ⟨F1,h4,h5⟩:=marks_split h2 h3
  refine ⟨F1,h4,?_⟩
  simp only [List.flatten_append,List.flatten_cons,List.map_cons,List.cons_append,List.nil_append] at h5 ⊢
  exact List.perm_middle.trans (h5.cons _)
theorem getB_app:∀{A B:Blocks} {p:Nat×Obj},getB (A++p::B) A.length=some p
 | [],B,p=>rfl
 | x::A,B,p=>by simp [getB,getB_app (A:=A)]
theorem setB_app:∀{A B:Blocks} {p q:Nat×Obj},setB (A++p::B) A.length q=some (A++q::B)
 | [],B,p,q=>rfl
 | x::A,B,p,q=>by simp [setB,setB_app (A:=A)]
def colls:List (Nat×Nat)→List Deferred
 | []=>[]
 | p::ms=>{ target:=.collected p.2,args:=#[] }::colls ms
theorem TL.marks {fn:Func} {Rr:Ending→World→Prop} {c:Cx} {L:Slots} {S:List Blocks}:∀(ms:List (Nat×Nat)) (D:Blocks),TL fn Rr [] c L ⟨D++ms.map (fun p=>(p.2,Obj.deferred none)),S⟩ →
  TL fn Rr (colls ms) c L ⟨D++ms.map (fun p=>(p.2,Obj.deferred (some []))),S⟩
 | [],D,h=>h
 | p::ms,D,h=>by
  refine TL.mark (i:=D.length) (E':=D++(p.2,.deferred none)::ms.map (fun p=>(p.2,Obj.deferred (some [])))) getB_app setB_app ?_
  have:=TL.marks (fn:=fn) (Rr:=Rr) (c:=c) (L:=L) (S:=S) ms (D++[(p.2,.deferred none)]) (by simpa using h)
  simpa using this
theorem ResAll.wk {c:Cx} {L:Slots} {H H':Hp} (hp:∀a w,Sat c L H a w→Sat c L H' a w):∀{rs:List ResultVar} {vs:List Value},ResAll c L H' rs vs→ResAll c L H rs vs
 | _,_,.nil=>.nil
 | _,_,.cons h r=>.cons (fun a w s=>h a w (hp a w s)) (r.wk hp)
section
variable {P:Program} {w0:World} {F0:List Blocks} {gl:GlF w0 (F0.flatten.map (·.1))} {ρ0:Env} {N m n':Nat} {fn:Func} {r:SV} {H':SH} {L:SL} {H:SH} {n:Nat} {rs:List ResultVar} {ys:List SV}
theorem TLM {t:Tab} (ht:TabOk P t) (ms:List (Nat×Nat)) (hms:marksIn ms H) (hrs:fn.results=rs.toArray) (σ:List Nat) (hy:resS t L (delHs ms H) rs=some ys) (hr:retS ys=r.ren σ) (h2:takesH σ (delHs ms H) H'=some (renBs σ H')) (h3:idB 0 m σ=true) (h4:σ.length=n')
  {ρ:Env} {F:List Blocks} {a:Act} {w:World} (s:Sat4 ⟨⟨P,none,w0,F0.flatten.map (·.1),N,colls ms⟩,ρ0,m,gl⟩ ρ F ⟨L,H,n⟩ a w) :
  LeavesInM (FW none) 1 P fn a.tmps (RetE w0 ⟨[],F0⟩ (postC ρ0 m r H' n')) (colls ms) .returning w:=by
 obtain ⟨F1,k1,k2⟩:=marks_split hms s.ok.reps
 have ok1:Ok ⟨⟨P,none,w0,F0.flatten.map (·.1),N,colls ms⟩,ρ0,m,gl⟩ ρ F1 ⟨L,delHs ms H,n⟩:=⟨s.ok.dens,k1,s.ok.fr,s.ok.pin,s.ok.mle⟩
 obtain ⟨vs,a1,a2,a3,a4⟩:=resS_ok ht ok1 hy
 obtain ⟨F',G,j1,j2⟩:=takesH_ren ok1.reps h2
 have hg:Env.grow m n' ρ0 (ρ.sel σ):=⟨fun t ht=>by simp only [Env.sel,idB_spec h3 t ht,Nat.zero_add];exact s.ok.pin t ht,fun t ht=>by simp [Env.sel,tgO_none (σ:=σ) (t:=t) (by rw [h4];exact ht)],by rw [← h4];exact idB_len h3⟩
 have hden:r.den (ρ.sel σ)=some (retV vs):=den_ren (by rw [← hr];exact retS_den a1 a3 a2)
 have key:TL fn (RetE w0 ⟨[],F0⟩ (postC ρ0 m r H' n')) [] ⟨P,none,w0,(⟨[],F0⟩:Hp).all.map (·.1),N,colls ms⟩ (realL ρ L) ⟨[]++ms.map (fun p=>(p.2,Obj.deferred none)),F'++G⟩:=by
  refine TL.ret (R':=⟨[],F'⟩) hrs (ResAll.wk (H':=⟨[],F1⟩) (fun a w s=>(s.weak (H':=⟨[],F'++G⟩) (fun _ _ h=>h) (by simp only [Hp.all,List.nil_append];exact List.sublist_append_right _ _)).perm (by simp only [Hp.all,List.nil_append];exact j2.symm.flatten)) a4) (by simp only [Hp.all,List.nil_append];rw [List.flatten_append];exact (List.sublist_append_left _ _).trans (List.sublist_append_right _ _)) ?_
  exact ⟨_,ρ.sel σ,F',rfl,hg,hden,j1⟩
 refine TL.marks ms [] key a w (s.sat.perm ?_)
 simp only [Hp.all,List.nil_append]
 exact (List.Perm.append_left _ j2.flatten).trans k2.symm
theorem RTM {t:Tab} (ht:TabOk P t) (ms:List (Nat×Nat)) {ds:List Deferred} (hds:ds=colls ms) (hms:marksIn ms H) (hrs:fn.results=rs.toArray) (σ:List Nat) (hy:resS t L (delHs ms H) rs=some ys) (hr:retS ys=r.ren σ) (h2:takesH σ (delHs ms H) H'=some (renBs σ H')) (h3:idB 0 m σ=true) (h4:σ.length=n') :
  G4 ⟨⟨P,none,w0,F0.flatten.map (·.1),N,ds⟩,ρ0,m,gl⟩ (FinC P fn w0 F0 ρ0 m r H' n') (.exit .ret []) ⟨L,H,n⟩:=by
 subst hds
 intro ρ F a w s
 have:=TLM ht ms hms hrs σ hy hr h2 h3 h4 s
 show LeavesInM (FW none) 1 P fn a.tmps _ a.defers .returning w
 rw [s.sat.defers];exact this
end
def bdS (L:SL):Option Operand→Int→Option Int
 | none,d=>some d
 | some o,_=>match evS L o with | some (.v (.int _ i))=>some i | _=>none
theorem bdS_ok {ρ:Env} {L:SL} {Lr:Slots} (hD:DensL ρ L) (hLr:∀t v,look (realL ρ L) t=some v→look Lr t=some v) {o:Option Operand} {d:Nat} {i:Int} (h:bdS L o d=some i):Bd Lr o d i:=by
 cases o with
 | none=>cases h;exact .none
 | some x =>
  simp only [bdS] at h
  split at h
  ·rename_i k j hx;cases h
   obtain ⟨v,e1,e2⟩:=evS_ok hD hx
   rw [SV.den] at e1;cases e1
   exact .some (ev_ext hLr e2)
  cases h
def slF:EvF:=fun b L H n op=>match op with
 | .slice X x lo hi none=>match evS L x,lk b.t.und X with
  | some (.sl t),some (.slice A)=>match rowOf H t,lk b.t.siz A with
   | some (@RowOf.mk _ _ N xs m),some sz=>match bdS L lo ((0:Nat):Int),bdS L hi ((m:Nat):Int) with
    | some l,some h=>bif Nat.beq sz N.sz then some ([sliceOk l h m=true],some (.ss t l.toNat sz (h.toNat - l.toNat)),H,n) else none
    | _,_=>none
   | _,_=>none
  | _,_=>none
 | _=>none
theorem slF_ok {c:C4}:EvOk c slF:=by
 intro b L H n op cs r H' n' hB h hc dst T pos af g hdr hd
 unfold slF at h
 split at h
 ·rename_i X x lo hi;split at h
  ·rename_i t A hx hX;split at h
   ·rename_i α i N xs m sz hro hs;split at h
    ·rename_i l hh hl hhi
     cases hb:Nat.beq sz N.sz with
     | false=>rw [hb] at h;cases h
     | true =>
      rw [hb,cond_true] at h;cases h
      have e1:=Nat.eq_of_beq_eq_true hb;subst e1
      have hc:sliceOk l hh m=true:=hc
      have hsl:=sliceOk_iff.1 hc
      cases dst with
      | none=>simp at hdr
      | some d =>
       refine ⟨rfl,OT.ofTX hd fun ρ F Fx o Lr hLr Q hk=>?_⟩
       obtain ⟨vx,e1,e2⟩:=evS_ok o.dens hx
       obtain ⟨sp,cap,r1,r2,r3,r4⟩:=rowOf_ok o hro
       rw [SV.den,r1] at e1;cases e1
       refine TX.slice (hB.t.und.mem _ (lk_mem hX)) (hB.t.siz.mem _ (lk_mem hs)) (ev_ext hLr e2) (bdS_ok o.dens hLr hl) (bdS_ok o.dens hLr hhi) (m:=m) (show m≤cap by omega) hc hd ?_
       refine hk ρ F _ o.grow0 ?_ o.reps
       rw [Option.getD_some,SV.den,r1]
       simp only [Option.bind_some]
       rw [show Nat.ble (l.toNat+(hh.toNat - l.toNat)) m=true from Nat.ble_eq_true_of_le (by omega),cond_true]
    cases h
   cases h
  cases h
 cases h
def Ev.sc {c:C4}:Ev c:=.ot slF slF_ok
def ssLim:SV→Nat→Option (Nat×Nat×Nat×Nat)
 | .sl t,m=>some (t,0,0,m)
 | .ss t lo sz k,_=>some (t,sz,lo,lo+k)
 | _,_=>none
def coF {α:Type} [Inhabited α] (N:Et α) (t:Nat) (xs ys:List α):EvF:=fun b L H n op=>match op with
 | .call ⟨.builtin .copy,args,ts⟩=>match args.toList,ts.toList with
  | [x,y],[X,Y]=>match evS L x,evS L y,lk b.t.und X with
   | some xv,some yv,some (.slice A)=>match lk b.i.inf A,lookH H t,rowS H yv with
    | some (sz,_,_),some (@Blk.row _ _ _ A' _ m kk),some (@RowOf.mk _ _ _ _ m2)=>match ssLim xv m with
     | some (t',sz',lo,hi)=>bif Nat.beq t' t&&(Nat.beq sz' 0&&Nat.beq lo 0||Nat.beq sz' N.sz)&&Nat.beq A A'&&Nat.beq sz N.sz then
       some ([lookH H t=some (@Blk.row _ _ N A' xs m kk),rowS H yv=some (@RowOf.mk _ _ N ys m2),Nat.ble hi m=true],some (.v (.int .i64 ((min ys.length (hi - lo):Nat):Int))),repH H t t (@Blk.row _ _ N A' (pasteX xs lo (ys.take (hi - lo))) m .unk),n) else none
     | none=>none
    | _,_,_=>none
   | _,_,_=>none
  | _,_=>none
 | _=>none
theorem coF_ok {c:C4} {α:Type} [Inhabited α] {N:Et α} {t:Nat} {xs ys:List α}:EvOk c (coF N t xs ys):=by
 intro b L H n op cs r H' n' hB h hc dst T pos af g hdr hd
 unfold coF at h
 split at h
 ·rename_i args tys;split at h
  ·rename_i x y X Y hargs htys;split at h
   ·rename_i xv yv A hx hy hX;split at h
    ·rename_i sz by' zi β j N2 A' xs2 m kk γ j2 N3 ys3 m2 hinf hl hry;split at h
     ·rename_i t' sz' lo hi hlim
      cases hb:Nat.beq t' t&&(Nat.beq sz' 0&&Nat.beq lo 0||Nat.beq sz' N.sz)&&Nat.beq A A'&&Nat.beq sz N.sz with
      | false=>rw [hb] at h;cases h
      | true =>
       rw [hb,cond_true] at h;cases h
       simp only [Bool.and_eq_true] at hb
       obtain ⟨⟨⟨b1,b2⟩,b3⟩,b4⟩:=hb
       have e1:=Nat.eq_of_beq_eq_true b1;subst e1
       have e2:=Nat.eq_of_beq_eq_true b3;subst e2
       have e3:=Nat.eq_of_beq_eq_true b4;subst e3
       obtain ⟨c1,c2⟩:=allP_cons hc
       obtain ⟨c2,c3⟩:=allP_cons c2
       have c3:=Nat.le_of_ble_eq_true (show Nat.ble hi m=true from c3)
       cases dst with
       | none=>simp at hdr
       | some d =>
        refine ⟨rfl,OT.ofTX hd fun ρ F Fx o Lr hLr Q hk=>?_⟩
        obtain ⟨info,zv,vs,i1,i2,i3,i4,i5,i6,i7⟩:=hB.i.inf.mem _ (lk_mem hinf)
        obtain ⟨vx,e1,e2⟩:=evS_ok o.dens hx
        obtain ⟨vy,e3,e4⟩:=evS_ok o.dens hy
        obtain ⟨FA,f,FB,rfl,⟨sp,cap,r1,r2,r3,r4⟩,hrep,_⟩:=o.reps.look c1
        obtain ⟨sq,cq,rfl,y2,y3⟩:=rowS_ok o c2 e3
        have ea:args=#[x,y]:=by cases args;simpa using hargs
        have et:tys=#[X,Y]:=by cases tys;simpa using htys
        subst ea;subst et
        have hlim2:∃sd cd,vx=.slice sd (hi - lo) cd∧(sd=sp∧lo=0∨sd=subP sp N.sz cap lo):=by
         cases xv with
         | sl u =>
          simp only [ssLim,Option.some.injEq,Prod.mk.injEq] at hlim
          obtain ⟨rfl,rfl,rfl,rfl⟩:=hlim
          rw [SV.den,r1] at e1;cases e1
          exact ⟨sp,cap,by simp,.inl ⟨rfl,rfl⟩⟩
         | ss u lo' sz'' k =>
          simp only [ssLim,Option.some.injEq,Prod.mk.injEq] at hlim
          obtain ⟨rfl,rfl,rfl,rfl⟩:=hlim
          rw [SV.den,r1] at e1
          simp only [Option.bind_some] at e1
          cases hble:Nat.ble (lo'+k) m with
          | false=>rw [hble] at e1;cases e1
          | true =>
           rw [hble,cond_true] at e1;cases e1
           refine ⟨_,_,by rw [Nat.add_sub_cancel_left],?_⟩
           simp only [Bool.or_eq_true,Bool.and_eq_true] at b2
           rcases b2 with ⟨b2,b5⟩ | b2
           ·have:=Nat.eq_of_beq_eq_true b2;subst this
            have:=Nat.eq_of_beq_eq_true b5;subst this
            left;refine ⟨?_,rfl⟩
            unfold subP;split
            ·rfl
            cases sp with
            | none=>rfl
            | some ad =>
             rcases r3 with ⟨h,_⟩ | ⟨gg,cur,h,_⟩
             ·cases h
             cases h;rfl
           have:=Nat.eq_of_beq_eq_true b2;subst this
           exact .inr rfl
         | _=>simp [ssLim] at hlim
        obtain ⟨sd,cd,rfl,hsd⟩:=hlim2
        have hFe:FA++f::FB++Fx=FA++f::(FB++Fx):=by simp
        rw [hFe]
        refine TX.copyS (N:=N.toEn) (si:=FA.length) (xs:=xs) (ys:=ys) (lo:=lo) (hi:=hi) (E:=[]) (hB.t.und.mem _ (lk_mem hX)) i1 i3 (ev_ext hLr e2) hsd rfl (by omega) (ev_ext hLr e4) y2 getS_app r3 (fun a w s=>y3 _ Fx a w (by rw [hFe];exact s)) hd (fun Hs' S' hS ho=>?_)
        rw [setS_app] at hS;cases hS
        have:=hk ρ (FA++Hs'::FB) (.int .i64 ((min ys.length (hi - lo):Nat):Int)) o.grow0 (by rw [Option.getD_some,SV.den]) (hrep ρ t' _ Hs' (Env.le_refl _) ⟨sp,cap,r1,by rw [pasteX_len (by omega)];exact r2,ho,trivial⟩)
        simpa [putS] using this
     cases h
    cases h
   cases h
  cases h
 cases h
def Ev.co {c:C4} {α:Type} [Inhabited α] (N:Et α) (t:Nat) (xs ys:List α):Ev c:=.ot (coF N t xs ys) coF_ok
section
variable {c:C4}
end
theorem ssB {l h:Int} {m:Nat} (hk:sliceOk l h m=true):Nat.ble (l.toNat+(h.toNat - l.toNat)) m=true:=by
 have:=sliceOk_iff.1 hk
 exact Nat.ble_eq_true_of_le (by omega)
theorem bleR {m:Nat}:Nat.ble m m=true:=Nat.ble_eq_true_of_le (Nat.le_refl _)
section
variable {c:C4}
theorem Imp.vwS (d:Nat) {t lo sz k:Nat} {L:SL} {H:SH} {n:Nat} (h:lookV L d=some (.ss t lo sz k)):Imp c ⟨L,H,n⟩ ⟨(d,.sl n)::L,(n,.vw (.ss t lo sz k))::H,n+1⟩:=by
 intro ρ F a w hs
 obtain ⟨v,e1,e2⟩:=hs.ok.dens.look h
 have e0:=e1
 rw [SV.den] at e1
 obtain ⟨l,hl,e1⟩:=Option.bind_eq_some_iff.1 e1
 cases hb:Nat.ble (lo+k) l.len with
 | false=>rw [hb] at e1;cases e1
 | true =>
 rw [hb,cond_true] at e1;cases e1
 have hg:=Env.set_grow (ρ:=ρ) (n:=n) (l:=⟨subP l.sp sz l.cap lo,l.cap - lo,k⟩) hs.ok.fr
 have hle:=hg.toLe hs.ok.fr
 have hρ:ρ.set n ⟨subP l.sp sz l.cap lo,l.cap - lo,k⟩ n=some ⟨subP l.sp sz l.cap lo,l.cap - lo,k⟩:=by simp [Env.set]
 have hd:(SV.sl n).den (ρ.set n ⟨subP l.sp sz l.cap lo,l.cap - lo,k⟩)=some (.slice (subP l.sp sz l.cap lo) k (l.cap - lo)):=by rw [SV.den,hρ];rfl
 refine ⟨_,[]::F,⟨⟨⟨⟨_,hd⟩,hs.ok.dens.mono hle⟩,⟨[],F,rfl,⟨_,_,_,hρ,den_mono hle e0,rfl⟩,hs.ok.reps.mono hle⟩,hg.fr,fun t ht=>?_,Nat.le_succ_of_le hs.ok.mle⟩,?_⟩⟩
 ·have:=hs.ok.mle
  rw [hg.old t (by simp only at this;omega)];exact hs.ok.pin t ht
 have s1:=hs.sat
 refine ⟨s1.size,s1.defers,fun t v hl=>?_,s1.ext,by simpa [Hp.all] using s1.nodup,by simpa [Hp.all] using s1.heap,by simpa [Hp.all] using s1.own⟩
 simp only [realL,realL_mono hle hs.ok.dens,hd,Option.getD_some,look] at hl
 cases hb:Nat.beq d t with
 | true =>
  rw [hb] at hl;cases hl
  have:=Nat.eq_of_beq_eq_true hb;subst this
  exact s1.slots d _ e2
 | false=>rw [hb] at hl;exact s1.slots t v hl
theorem Imp.nilL {α:Type} [Inhabited α] (N:Et α) (e A:TypeId) (d:Nat) {L:SL} {H:SH} {n:Nat} (h:lookV L d=some (.v (.slice none 0 0))) :
  Imp c ⟨L,H,n⟩ ⟨(d,.sl n)::L,(n,.rowL N e A ([]:List (List α)) 0)::H,n+1⟩:=by
 intro ρ F a w hs
 obtain ⟨v,e1,e2⟩:=hs.ok.dens.look h
 rw [SV.den] at e1;cases e1
 have hg:=Env.set_grow (ρ:=ρ) (n:=n) (l:=⟨none,0,0⟩) hs.ok.fr
 have hle:=hg.toLe hs.ok.fr
 have hρ:ρ.set n ⟨none,0,0⟩ n=some ⟨none,0,0⟩:=by simp [Env.set]
 have hd:(SV.sl n).den (ρ.set n ⟨none,0,0⟩)=some (.slice none 0 0):=by rw [SV.den,hρ];rfl
 refine ⟨ρ.set n ⟨none,0,0⟩,[]::F,⟨⟨⟨⟨_,hd⟩,hs.ok.dens.mono hle⟩,⟨[],F,rfl,⟨none,0,hρ,rfl,OwnLL.nil⟩,hs.ok.reps.mono hle⟩,hg.fr,fun t ht=>?_,Nat.le_succ_of_le hs.ok.mle⟩,?_⟩⟩
 ·have:=hs.ok.mle
  rw [hg.old t (by simp only at this;omega)];exact hs.ok.pin t ht
 have s1:=hs.sat
 refine ⟨s1.size,s1.defers,fun t v hl=>?_,s1.ext,by simpa [Hp.all] using s1.nodup,by simpa [Hp.all] using s1.heap,by simpa [Hp.all] using s1.own⟩
 simp only [realL,realL_mono hle hs.ok.dens,hd,Option.getD_some,look] at hl
 cases hb:Nat.beq d t with
 | true =>
  rw [hb] at hl;cases hl
  have:=Nat.eq_of_beq_eq_true hb;subst this
  exact s1.slots d _ e2
 | false=>rw [hb] at hl;exact s1.slots t v hl
end
def pOne (A:TypeId):Loc→List Value→Blocks→Prop:=fun l vs f=>∃g,l=⟨some ⟨g,0,none⟩,1,1⟩∧vs.length=1∧f=[(g,.cells vs.toArray A (0,0))]
def pLo {α:Type} [Inhabited α] (N:Et α) (e A:TypeId) (xss:List (List α)) (i:Int):Loc→List Value→Blocks→Prop:=fun l vs f =>
 ∃(hl:List Sl) (H0:Blocks) (rs1 rs2:List Blocks) (h:Sl),l.len=xss.length∧(xss=[]→l.sp=none)∧OwnL En.sl A l.sp l.cap hl H0∧vs=[.slice h.1 h.2.1 h.2.2] ∧
  (∀r',OwnL N.toEn e h.1 h.2.2 (gt xss i) r'→InAll N.toEn e hl xss (rs1++r'::rs2))∧f=H0++(rs1++rs2).flatten∧(hl.length=xss.length∧hl[i.toNat]?=some h)
theorem InAll.open {α:Type} {N:En α} {e:TypeId}:∀{hl:List Sl} {xss:List (List α)} {rs:List Blocks} {k:Nat} {xs:List α},InAll N e hl xss rs→xss[k]?=some xs →
  ∃h rs1 r rs2,hl[k]?=some h∧rs=rs1++r::rs2∧OwnL N e h.1 h.2.2 xs r∧xs.length=h.2.1∧∀r',OwnL N e h.1 h.2.2 xs r'→InAll N e hl xss (rs1++r'::rs2)
 | h::hs,ys::xss,r::rs,0,xs,hh,hk=>by
  simp at hk;subst hk
  exact ⟨h,[],r,rs,rfl,rfl,hh.1.1,hh.1.2,fun r' hr'=>⟨⟨hr',hh.1.2⟩,hh.2⟩⟩
 | h::hs,ys::xss,r::rs,k+1,xs,hh,hk=>by
  obtain ⟨q,rs1,r1,rs2,h1,rfl,h3,h4,h5⟩:=InAll.open (k:=k) hh.2 (by simpa using hk)
  exact ⟨q,r::rs1,r1,rs2,by simpa using h1,rfl,h3,h4,fun r' hr'=>⟨hh.1,h5 r' hr'⟩⟩
 | [],[],[],_,_,_,hk=>by simp at hk
 | [],_::_,_,_,_,h,_=>by simp [InAll] at h
 | [],[],_::_,_,_,h,_=>by simp [InAll] at h
 | _::_,[],_,_,_,h,_=>by simp [InAll] at h
 | _::_,_::_,[],_,_,h,_=>by simp [InAll] at h
section
variable {c:C4}
theorem Imp.closeL (t u:Nat) {α:Type} [i0:Inhabited α] {N:Et α} {e A:TypeId} {xss:List (List α)} {i:Int} {m:Nat} {kk:NK} {L:SL} {H:SH} {n:Nat} (hl:lookH H t=some (.ex (pLo N e A xss i) [.sl u]))
  (hu:lookH H u=some (@Blk.row α i0 N e (gt xss i) m kk)) (hl2:lookH (delH H u) t=some (.ex (pLo N e A xss i) [.sl u])):Imp c ⟨L,H,n⟩ ⟨L,repH (delH H u) t t (.rowL N e A xss xss.length),n⟩:=by
 intro ρ F a w hs
 obtain ⟨FA,f,FB,rfl,⟨sp,cap,r1,r2,r3,r4⟩,_,hdel⟩:=hs.ok.reps.look hu
 obtain ⟨FA2,f2,FB2,e2,⟨l,vs,q1,q2,hl',H0,rs1,rs2,h,q3,q4,q5,rfl,q7,rfl,_⟩,hr2,_⟩:=hdel.look hl2
 have hv:SV.dens ρ [.sl u]=some [.slice sp m cap]:=denAll_dens (l:=[.sl u]) ⟨by rw [SV.den,r1];rfl,trivial⟩
 rw [hv] at q2
 simp only [Option.some.injEq,List.cons.injEq,Value.slice.injEq,and_true] at q2
 obtain ⟨j1,j2,j3⟩:=q2
 have hin:=q7 f (by rw [← j1,← j3];exact r3)
 refine ⟨ρ,FA2++(H0++(rs1++f::rs2).flatten)::FB2,⟨⟨hs.ok.dens,hr2 ρ t (.rowL N e A xss xss.length) _ (Env.le_refl _) ⟨l.sp,l.cap,by rw [q1,← q3],rfl,q4,hl',H0,rs1++f::rs2,q5,hin,rfl⟩,hs.ok.fr,hs.ok.pin,hs.ok.mle⟩,?_⟩⟩
 refine hs.sat.perm ?_
 simp only [Hp.all,List.nil_append,List.flatten_append,List.flatten_cons]
 have p1:(FA.flatten++(f++FB.flatten)).Perm (f++(FA++FB).flatten):=by
  rw [List.flatten_append,← List.append_assoc,← List.append_assoc]
  exact List.Perm.append_right _ List.perm_append_comm
 refine List.Perm.trans ?_ p1.symm
 rw [e2]
 simp only [List.flatten_append,List.flatten_cons,List.append_assoc]
 have mv:∀(X Y Z W:Blocks),(X++(Y++(f++Z))).Perm (f++(X++(Y++Z))):=fun X Y Z W=>by
  have a1:(X++(Y++(f++Z))).Perm (X++(f++(Y++Z))):=List.Perm.append_left X (by rw [← List.append_assoc,← List.append_assoc];exact List.Perm.append_right _ List.perm_append_comm)
  refine a1.trans ?_
  rw [← List.append_assoc X f,← List.append_assoc f X];exact List.Perm.append_right _ List.perm_append_comm
 have:=mv (FA2.flatten++H0) rs1.flatten (rs2.flatten++FB2.flatten) []
 simpa [List.append_assoc] using this
end
def b1F {α:Type} [Inhabited α] (N:Et α):EvF:=fun b L H n op=>match op with
 | .buildSlice X 1 ps=>match ps.toList with
  | [(0,y)]=>match evS L y,lk b.t.und X with
   | some (.sl u),some (.slice A)=>match lk b.t.siz A,lk b.z.z A with
    | some sz,some zi=>bif Nat.beq sz 1&&Nat.beq (sizeI zi) 1 then some ([],some (.sl n),(n,.ex (pOne A) [.sl u])::H,n+1) else none
    | _,_=>none
   | _,_=>none
  | _=>none
 | _=>none
theorem b1F_ok {c:C4} {α:Type} [Inhabited α] {N:Et α}:EvOk c (b1F N):=by
 intro b L H n op cs r H' n' hB h hc dst T pos af g hdr hd
 unfold b1F at h
 split at h
 ·rename_i X ps;split at h
  ·rename_i y hps;split at h
   ·rename_i u A hy hX;split at h
    ·rename_i sz zi hs hz
     cases hb:Nat.beq sz 1&&Nat.beq (sizeI zi) 1 with
     | false=>rw [hb] at h;cases h
     | true =>
      rw [hb,cond_true] at h;cases h
      simp only [Bool.and_eq_true] at hb
      have e1:=Nat.eq_of_beq_eq_true hb.1;subst e1
      have e2:=Nat.eq_of_beq_eq_true hb.2
      cases dst with
      | none=>simp at hdr
      | some d =>
       refine ⟨rfl,OT.ofTX hd fun ρ F Fx o Lr hLr Q hk=>?_⟩
       obtain ⟨zv,zvs,z1,z2,z3⟩:=hB.z.z.mem _ (lk_mem hz)
       have hzs:zv.cells.size=En.sl.sz:=by rw [z2,List.size_toArray,dens_size z3,e2];rfl
       obtain ⟨vy,f1,f2⟩:=evS_ok o.dens hy
       have f1':=f1
       rw [SV.den] at f1
       obtain ⟨l,hl,rfl⟩:=Option.map_eq_some_iff.1 f1
       have ep:ps=[(0,y)].toArray:=by cases ps;simpa using hps
       rw [ep]
       have hp:evp Lr [(0,y)]=some [(0,.slice l.sp l.len l.cap)]:=by
        have:=ev_ext hLr f2
        simp [evp,this]
       refine TX.buildS0 (N:=En.sl) (ys:=[(l.sp,l.len,l.cap)]) (hB.t.und.mem _ (lk_mem hX)) (hB.t.siz.mem _ (lk_mem hs)) z1 hzs hp rfl rfl (fillS [.slice l.sp l.len l.cap] rfl rfl rfl rfl) hd (fun sp Hs ho=>?_)
       rcases ho with ⟨_,_,h0,_⟩ | ⟨gg,cur,rfl,rfl,g1,g2,g3,g4⟩
       ·cases h0
       have hcur:cur=#[.slice l.sp l.len l.cap]:=by
        have h3:cur.size=1:=by simpa [En.sl] using g3
        have h4:cur.toList=[.slice l.sp l.len l.cap]:=by
         have:cur.toList.take 1=[.slice l.sp l.len l.cap]:=by simpa [En.sl] using g4
         rw [List.take_of_length_le (by simp [h3])] at this;exact this
        cases cur;simpa using h4
       subst hcur
       have hg:=Env.set_grow (ρ:=ρ) (n:=n) (l:=⟨some ⟨gg,0,none⟩,1,1⟩) o.fr
       have hle:=hg.toLe o.fr
       refine hk (ρ.set n ⟨some ⟨gg,0,none⟩,1,1⟩) (_::F) _ hg (by rw [Option.getD_some,SV.den,Env.set_self];rfl) (Env.set_row o.reps o.fr ⟨_,[.slice l.sp l.len l.cap],Env.set_self,denAll_dens (l:=[.sl u]) ⟨den_mono hle f1',trivial⟩,gg,rfl,rfl,rfl⟩)
    cases h
   cases h
  cases h
 cases h
def Ev.b1 {c:C4} {α:Type} [Inhabited α] (N:Et α):Ev c:=.ot (b1F N) b1F_ok
def aLF {α:Type} [Inhabited α] (N:Et α) (e:TypeId) (xss:List (List α)) (xs1:List α):EvF:=fun b L H n op=>match op with
 | .call ⟨.builtin .append,args,ts⟩=>match args.toList,ts.toList with
  | [x,y],[X,X']=>match evS L x,evS L y,lk b.t.und X with
   | some (.sl t),some (.sl v),some (.slice A)=>match lookH H v,lk b.i.inf A with
    | some (.ex _ [.sl u]),some (sz,by',_)=>match lookH (delH H v) t,lookH (delH (delH H v) t) u with
     | some (@Blk.rowL _ _ _ _ _ _ m),some (@Blk.row _ _ _ _ _ m1 k1)=>bif Nat.beq X X'&&Nat.beq sz 1 then
       some ([lookH H v=some (.ex (pOne A) [.sl u]),lookH (delH H v) t=some (.rowL N e A xss m),lookH (delH (delH H v) t) u=some (@Blk.row _ _ N e xs1 m1 k1),appHyp by' xss.length 1=true],
        some (.sl n),(n,.rowL N e A (xss++[xs1]) (xss++[xs1]).length)::delH (delH (delH H v) t) u,n+1) else none
     | _,_=>none
    | _,_=>none
   | _,_,_=>none
  | _,_=>none
 | _=>none
theorem aLF_ok {c:C4} {α:Type} [Inhabited α] {N:Et α} {e:TypeId} {xss:List (List α)} {xs1:List α}:EvOk c (aLF N e xss xs1):=by
 intro b L H n op cs r H' n' hB h hc dst T pos af g hdr hd
 unfold aLF at h
 split at h
 ·rename_i args tys;split at h
  ·rename_i x y X X' hargs htys;split at h
   ·rename_i t v A hx hy hX;split at h
    ·rename_i p0 u sz by' zi hv hinf;split at h
     ·rename_i β j N2 e3 A3 xss2 m γ j2 N3 e4 xs2 m1 k1 ht hu
      cases hb:Nat.beq X X'&&Nat.beq sz 1 with
      | false=>rw [hb] at h;cases h
      | true =>
       rw [hb,cond_true] at h;cases h
       simp only [Bool.and_eq_true] at hb
       have e1:=Nat.eq_of_beq_eq_true hb.1;subst e1
       have e2:=Nat.eq_of_beq_eq_true hb.2;subst e2
       obtain ⟨c1,c2⟩:=allP_cons hc
       obtain ⟨c2,c3⟩:=allP_cons c2
       obtain ⟨c3,c4⟩:=allP_cons c3
       have c4:appHyp by' xss.length 1=true:=c4
       cases dst with
       | none=>simp at hdr
       | some d =>
        refine ⟨rfl,OT.ofTX hd fun ρ F Fx o Lr hLr Q hk=>?_⟩
        obtain ⟨info,zv,vs,i1,i2,i3,i4,i5,i6,i7⟩:=hB.i.inf.mem _ (lk_mem hinf)
        obtain ⟨vx,x1,x2⟩:=evS_ok o.dens hx
        obtain ⟨vy,y1,y2⟩:=evS_ok o.dens hy
        obtain ⟨FA,f,FB,rfl,⟨lv,us,p1,p2,gg,rfl,p4,rfl⟩,_,d1⟩:=o.reps.look c1
        obtain ⟨FA2,f2,FB2,q0,⟨sp,cap,q1,q2,q3⟩,_,d2⟩:=d1.look c2
        obtain ⟨FA3,f3,FB3,s0,⟨sp1,cap1,s1,s2,s3,s4⟩,_,d3⟩:=d2.look c3
        rw [SV.den,q1] at x1;cases x1
        rw [SV.den,p1] at y1;cases y1
        have hus:us=[.slice sp1 m1 cap1]:=by
         have:SV.dens ρ [.sl u]=some [.slice sp1 m1 cap1]:=denAll_dens (l:=[.sl u]) ⟨by rw [SV.den,s1];rfl,trivial⟩
         rw [this] at p2;exact (Option.some.inj p2).symm
        subst hus
        have ea:args=#[x,y]:=by cases args;simpa using hargs
        have et:tys=#[X,X]:=by cases tys;simpa using htys
        subst ea;subst et
        have hp:(⟨[],f2::f3::[(gg,Obj.cells #[.slice sp1 m1 cap1] A (0,0))]::(FA3++FB3++Fx)⟩:Hp).all.Perm (⟨[],FA++[(gg,Obj.cells [Value.slice sp1 m1 cap1].toArray A (0,0))]::FB++Fx⟩:Hp).all:=by
         simp only [Hp.all,List.nil_append,List.flatten_append,List.flatten_cons,List.append_assoc]
         have k1:(FA.flatten++([(gg,Obj.cells #[Value.slice sp1 m1 cap1] A (0,0))]++(FB.flatten++Fx.flatten))).Perm ([(gg,Obj.cells #[Value.slice sp1 m1 cap1] A (0,0))]++((FA++FB).flatten++Fx.flatten)):=by
          rw [List.flatten_append,← List.append_assoc,← List.append_assoc,List.append_assoc]
          refine (List.Perm.append_right _ List.perm_append_comm).trans ?_
          simp [List.append_assoc]
         refine List.Perm.trans ?_ k1.symm
         rw [q0]
         have k2:((FA2++f2::FB2).flatten).Perm (f2++(FA2++FB2).flatten):=by
          have:=(List.perm_middle (l₁:=FA2) (a:=f2) (l₂:=FB2)).flatten;simpa using this
         have k3:((FA3++f3::FB3).flatten).Perm (f3++(FA3++FB3).flatten):=by
          have:=(List.perm_middle (l₁:=FA3) (a:=f3) (l₂:=FB3)).flatten;simpa using this
         have k4:=(List.Perm.append_left f2 (s0▸k3))
         have k5:((FA2++f2::FB2).flatten).Perm (f2++(f3++(FA3++FB3).flatten)):=k2.trans k4
         refine List.Perm.trans ?_ (List.Perm.append_left _ (List.Perm.append_right _ k5.symm))
         simp only [List.append_assoc,List.flatten_append]
         have mv:∀(X Y Z:Blocks) (q:Nat×Obj),(X++(Y++([q]++Z))).Perm ([q]++(X++(Y++Z))):=fun X Y Z q=>by
          have:=List.perm_middle (a:=q) (l₁:=X++Y) (l₂:=Z)
          simpa [List.append_assoc] using this
         exact mv f2 f3 _ _
        refine TX.permL hp.symm (TX.appendLL (N:=N.toEn) (e:=e) (si:=0) (sj:=0) (E:=[]) (S:=f2::f3::[(gg,Obj.cells #[.slice sp1 m1 cap1] A (0,0))]::(FA3++FB3++Fx)) 0 (hB.t.und.mem _ (lk_mem hX)) i1 i2 (by rw [i5,List.size_toArray];exact i7) i3 i4 (ev_ext hLr x2) q2 (ev_ext hLr y2) rfl q3 rfl s3 s2 ?_ c4 hd ?_)
        ·intro a w sa
         have hb:w.heap[gg]?=some (.cells #[.slice sp1 m1 cap1] A (0,0)):=sa.heap (gg,_) (by simp [Hp.all])
         refine ⟨(by decide:1≤maxLen),.inr ⟨⟨gg,0,none⟩,rfl,rfl,fun k x hk j v hj=>?_⟩⟩
         cases k with
         | zero =>
          simp at hk;subst hk
          cases j with
          | zero=>simp [En.sl] at hj;subst hj;simp [World.cell?,hb]
          | succ j=>simp [En.sl] at hj
         | succ k=>simp at hk
        intro sp' cap' Hs' hO
        have hg:=Env.set_grow (ρ:=ρ) (n:=n) (l:=⟨sp',cap',(xss++[xs1]).length⟩) o.fr
        have hle:=hg.toLe o.fr
        have:=hk (ρ.set n ⟨sp',cap',(xss++[xs1]).length⟩) (Hs'::(FA3++FB3)) (.slice sp' (xss++[xs1]).length cap') hg (by rw [Option.getD_some,SV.den,Env.set_self];rfl)
         ⟨Hs',_,rfl,⟨sp',cap',Env.set_self,rfl,hO⟩,d3.mono hle⟩
        refine fun a w sa=>this a w (sa.weak (fun _ _ h=>by simpa [putS] using h) ?_)
        simp only [Hp.all,List.nil_append,insB,List.flatten_cons,List.flatten_append,List.cons_append]
        refine List.Sublist.append_left (l:=Hs') ?_
        exact List.Sublist.cons _ (by simp)
     cases h
    cases h
   cases h
  cases h
 cases h
def Ev.aL {c:C4} {α:Type} [Inhabited α] (N:Et α) (e:TypeId) (xss:List (List α)) (xs1:List α):Ev c:=.ot (aLF N e xss xs1) aLF_ok
end Go.HW
namespace Go.HW
open Go Go.RowKit
def lnF:EvF:=fun b L H n op=>match op with
 | .call ⟨.builtin .len,args,ts⟩=>match args.toList,ts.toList with
  | [x],[X]=>match evS L x,lk b.t.und X with
   | some (.sl t),some (.slice A)=>match lookH H t with
    | some (@Blk.rowL _ _ _ _ _ xss m)=>some ([],some (.v (.int .i64 (xss.length:Int))),H,n)
    | _=>none
   | _,_=>none
  | _,_=>none
 | _=>none
theorem lnF_ok {c:C4}:EvOk c lnF:=by
 intro b L H n op cs r H' n' hB h hc dst T pos af g hdr hd
 unfold lnF at h
 split at h
 ·rename_i args tys;split at h
  ·rename_i x X hargs htys;split at h
   ·rename_i t A hx hX;split at h
    ·rename_i β j N e A2 xss m hl;cases h
     cases dst with
     | none=>simp at hdr
     | some d =>
      refine ⟨rfl,OT.ofTX hd fun ρ F Fx o Lr hLr Q hk=>?_⟩
      obtain ⟨vx,x1,x2⟩:=evS_ok o.dens hx
      obtain ⟨FA,f,FB,e1,⟨sp,cap,q1,q2,q3⟩,_,_⟩:=o.reps.look hl
      rw [SV.den,q1] at x1;cases x1
      have ea:args=#[x]:=by cases args;simpa using hargs
      have et:tys=#[X]:=by cases tys;simpa using htys
      subst ea;subst et
      exact TX.lenS (xs:=xss) (hB.t.und.mem _ (lk_mem hX)) (ev_ext hLr x2) q2 hd (hk ρ F _ o.grow0 (by rw [Option.getD_some,SV.den]) o.reps)
    cases h
   cases h
  cases h
 cases h
def Ev.ln {c:C4}:Ev c:=.ot lnF lnF_ok
def ixF:EvF:=fun b L H n op=>match op with
 | .indexAddr X x ix=>match evS L x,evS L ix,lk b.t.und X with
  | some (.sl t),some (.v (.int _ i)),some (.slice A)=>match lookH H t,lk b.t.siz A with
   | some (@Blk.rowL _ _ _ _ A2 xss m),some sz=>bif Nat.beq sz 1&&Nat.beq A A2 then some ([inb i m=true],some (.e t i 1 0),H,n) else none
   | _,_=>none
  | _,_,_=>none
 | _=>none
theorem ixF_ok {c:C4}:EvOk c ixF:=by
 intro b L H n op cs r H' n' hB h hc dst T pos af g hdr hd
 unfold ixF at h
 split at h
 ·rename_i X x ix;split at h
  ·rename_i t k i A hx hix hX;split at h
   ·rename_i β j N e A2 xss m sz hl hs
    cases hb:Nat.beq sz 1&&Nat.beq A A2 with
    | false=>rw [hb] at h;cases h
    | true =>
     rw [hb,cond_true] at h;cases h
     simp only [Bool.and_eq_true] at hb
     have e1:=Nat.eq_of_beq_eq_true hb.1;subst e1
     have e2:=Nat.eq_of_beq_eq_true hb.2;subst e2
     have hc:inb i m=true:=hc
     cases dst with
     | none=>simp at hdr
     | some d =>
      refine ⟨rfl,OT.ofTX hd fun ρ F Fx o Lr hLr Q hk=>?_⟩
      obtain ⟨vx,x1,x2⟩:=evS_ok o.dens hx
      obtain ⟨vi,y1,y2⟩:=evS_ok o.dens hix
      rw [SV.den] at y1;cases y1
      obtain ⟨FA,f,FB,rfl,⟨sp,cap,q1,q2,q3⟩,_,_⟩:=o.reps.look hl
      rw [SV.den,q1] at x1;cases x1
      have hFe:FA++f::FB++Fx=FA++f::(FB++Fx):=by simp
      have hk':=hk ρ (FA++f::FB) (.pointer (some (eAddr sp (i.toNat * 1+0)))) o.grow0 (by rw [Option.getD_some,SV.den,q1];simp only [Option.bind_some,hc,cond_true]) o.reps
      rw [hFe] at hk' ⊢
      exact TX.indexLL (N:=N.toEn) (e:=e) (si:=FA.length) (E:=[]) (hB.t.und.mem _ (lk_mem hX)) (hB.t.siz.mem _ (lk_mem hs)) (ev_ext hLr x2) q2 (ev_ext hLr y2) getS_app q3 (by rw [q2];exact hc) hd hk'
   cases h
  cases h
 cases h
def Ev.ix {c:C4}:Ev c:=.ot ixF ixF_ok
def ldF {α:Type} [Inhabited α] (N:Et α) (e:TypeId) (xss:List (List α)):EvF:=fun b L H n op=>match op with
 | .load A x=>match evS L x,lk b.t.agg A with
  | some (.e t i 1 0),some false=>match lookH H t with
   | some (@Blk.rowL _ _ _ _ A2 _ m)=>bif Nat.beq A A2 then
     some ([lookH H t=some (.rowL N e A2 xss m),inb i xss.length=true],some (.sl n),(n,.row N e (gt xss i) (gt xss i).length .unk)::repH H t t (.ex (pLo N e A2 xss i) [.sl n]),n+1) else none
   | _=>none
  | _,_=>none
 | _=>none
theorem ldF_ok {c:C4} {α:Type} [Inhabited α] {N:Et α} {e:TypeId} {xss:List (List α)}:EvOk c (ldF N e xss):=by
 intro b L H n op cs r H' n' hB h hc dst T pos af g hdr hd
 unfold ldF at h
 split at h
 ·rename_i A x;split at h
  ·rename_i t i hx hag;split at h
   ·rename_i β j N2 e2 A2 xss2 m hl
    cases hb:Nat.beq A A2 with
    | false=>rw [hb] at h;cases h
    | true =>
     rw [hb,cond_true] at h;cases h
     have e2:=Nat.eq_of_beq_eq_true hb;subst e2
     obtain ⟨c1,c2⟩:=allP_cons hc
     have c2:inb i xss.length=true:=c2
     cases dst with
     | none=>simp at hdr
     | some d =>
      refine ⟨rfl,OT.ofTX hd fun ρ F Fx o Lr hLr Q hk=>?_⟩
      obtain ⟨vx,x1,x2⟩:=evS_ok o.dens hx
      obtain ⟨FA,f,FB,rfl,⟨sp,cap,q1,q2,h0,hh,H0,rs,h1,h2,rfl⟩,hrep,_⟩:=o.reps.look c1
      rw [SV.den,q1] at x1
      simp only [Option.bind_some] at x1
      rw [show inb i m=true from by rw [← q2];exact c2,cond_true] at x1;cases x1
      have hln:=h2.len
      have hk1:inb i hh.length=true:=by rw [hln];exact c2
      obtain ⟨q,rs1,r1,rs2,g1,rfl,g3,g4,g5⟩:=h2.open (gt_some c2)
      have hq:gt hh i=q:=by have:=gt_some hk1;rw [g1] at this;cases this;rfl
      have hg:=Env.set_grow (ρ:=ρ) (n:=n) (l:=⟨q.1,q.2.2,q.2.1⟩) o.fr
      have hle:=hg.toLe o.fr
      have hself:ρ.set n ⟨q.1,q.2.2,q.2.1⟩ n=some ⟨q.1,q.2.2,q.2.1⟩:=Env.set_self
      have hsl:(SV.sl n).den (ρ.set n ⟨q.1,q.2.2,q.2.1⟩)=some (.slice q.1 q.2.1 q.2.2):=by rw [SV.den,hself];rfl
      have hR:=hrep _ t (.ex (pLo N e A xss i) [.sl n]) (H0++(rs1++rs2).flatten) hle ⟨_,[.slice q.1 q.2.1 q.2.2],hle _ _ q1,denAll_dens (l:=[.sl n]) ⟨hsl,trivial⟩,hh,H0,rs1,rs2,q,q2.symm,h0,h1,rfl,g5,rfl,hln,g1⟩
      have hkk:=hk _ (r1::(FA++(H0++(rs1++rs2).flatten)::FB)) (.slice q.1 q.2.1 q.2.2) hg (by rw [Option.getD_some];exact hsl) ⟨r1,_,rfl,⟨q.1,q.2.2,by rw [hself,g4],rfl,g3,trivial⟩,hR⟩
      have hp:(⟨[],r1::(FA++(H0++(rs1++rs2).flatten)::FB)++Fx⟩:Hp).all.Perm (⟨[],FA++(H0++(rs1++r1::rs2).flatten)::FB++Fx⟩:Hp).all:=by
       simp only [Hp.all,List.nil_append,List.flatten_append,List.flatten_cons,List.append_assoc,List.cons_append]
       have mv:∀(X Y Z W:Blocks),(r1++(X++(Y++(Z++W)))).Perm (X++(Y++(Z++(r1++W)))):=fun X Y Z W=>by
        have a1:(r1++((X++(Y++Z))++W)).Perm ((X++(Y++Z))++(r1++W)):=by
         rw [← List.append_assoc r1,← List.append_assoc (X++(Y++Z))];exact List.Perm.append_right _ List.perm_append_comm
        simpa [List.append_assoc] using a1
       exact mv _ _ _ _
      refine TX.permL hp.symm ?_
      refine TX.loadR1 (N:=En.sl) (xs:=hh) (o:=0) (hB.t.agg.mem _ (lk_mem hag)) (ev_ext hLr x2) (fun a w s=>h1.rdm s (fun p hp=>?_)) hk1 (by rw [hq];rfl) hd hkk
      simp only [Hp.all,List.nil_append,List.flatten_append,List.flatten_cons,List.mem_append,List.cons_append]
      exact .inr (.inl (.inr (.inl (.inl hp))))
   cases h
  cases h
 cases h
def Ev.ld {c:C4} {α:Type} [Inhabited α] (N:Et α) (e:TypeId) (xss:List (List α)):Ev c:=.ot (ldF N e xss) ldF_ok
end Go.HW
namespace Go.HW
open Go Go.RowKit
theorem subP_zero {sp:Option Addr} {sz cap:Nat}:subP sp sz cap 0=sp:=by
 unfold subP;split
 ·rfl
 cases sp with
 | none=>rfl
 | some a=>simp [Addr.add]
def svF:EvF:=fun b L H n op=>match op with
 | .slice X x lo hi none=>match evS L x,lk b.t.und X with
  | some (.sl u),some (.slice A)=>match lookH H u with
   | some (.vw (.ss t l0 sz k))=>match rowOf H t,lk b.t.siz A with
    | some (@RowOf.mk _ _ N xs m),some sz'=>match bdS L lo ((0:Nat):Int),bdS L hi ((k:Nat):Int) with
     | some l,some h=>bif Nat.beq sz' N.sz&&Nat.beq sz sz' then some ([l0=0,sliceOk l h m=true],some (.ss t l.toNat sz' (h.toNat - l.toNat)),H,n) else none
     | _,_=>none
    | _,_=>none
   | _=>none
  | _,_=>none
 | _=>none
theorem svF_ok {c:C4}:EvOk c svF:=by
 intro b L H n op cs r H' n' hB h hc dst T pos af g hdr hd
 unfold svF at h
 split at h
 ·rename_i X x lo hi;split at h
  ·rename_i u A hx hX;split at h
   ·rename_i t l0 sz k hu;split at h
    ·rename_i α i N xs m sz' hro hs;split at h
     ·rename_i l hh hl hhi
      cases hb:Nat.beq sz' N.sz&&Nat.beq sz sz' with
      | false=>rw [hb] at h;cases h
      | true =>
       rw [hb,cond_true] at h;cases h
       simp only [Bool.and_eq_true] at hb
       have e1:=Nat.eq_of_beq_eq_true hb.1
       have e2:=Nat.eq_of_beq_eq_true hb.2;subst e2
       obtain ⟨c0,c1⟩:=allP_cons hc
       have hcc:sliceOk l hh m=true:=c1
       have c0:l0=0:=c0
       subst c0
       have hsl:=sliceOk_iff.1 hcc
       cases dst with
       | none=>simp at hdr
       | some d =>
        refine ⟨rfl,OT.ofTX hd fun ρ F Fx o Lr hLr Q hk=>?_⟩
        obtain ⟨vx,x1,x2⟩:=evS_ok o.dens hx
        obtain ⟨sp,cap,r1,r2,r3,r4⟩:=rowOf_ok o hro
        obtain ⟨FA,f,FB,rfl,⟨su,cu,ku,q1,q2,rfl⟩,_,_⟩:=o.reps.look hu
        rw [SV.den,r1] at q2
        simp only [Option.bind_some] at q2
        cases hble:Nat.ble (0+k) m with
        | false=>rw [hble] at q2;cases q2
        | true =>
         rw [hble,cond_true] at q2
         have q2:=Option.some.inj q2
         injection q2 with q3 q4 q5
         rw [SV.den,q1] at x1;cases x1
         rw [subP_zero] at q3
         simp only [Nat.sub_zero] at q5
         subst q3;subst q4;subst q5
         refine TX.slice (hB.t.und.mem _ (lk_mem hX)) (hB.t.siz.mem _ (lk_mem hs)) (ev_ext hLr x2) (bdS_ok o.dens hLr hl) (bdS_ok o.dens hLr hhi) (m:=m) (cap:=cap) (by show m≤cap;omega) hcc hd ?_
         refine hk ρ _ _ o.grow0 ?_ o.reps
         rw [Option.getD_some,SV.den,r1]
         simp only [Option.bind_some]
         rw [show Nat.ble (l.toNat+(hh.toNat - l.toNat)) m=true from Nat.ble_eq_true_of_le (by omega),cond_true]
     cases h
    cases h
   cases h
  cases h
 cases h
def Ev.sv {c:C4}:Ev c:=.ot svF svF_ok
def pS1:Loc→List Value→Blocks→Prop:=fun l vs f=>∃g,vs=[.pointer (some ⟨g,0,none⟩)]∧l=⟨some ⟨g,0,none⟩,1,1⟩∧f=[]
def En.raw (sz:Nat) (h:0 < sz):En { l:List Value // l.length=sz∧allOne l=true }:=⟨fun l=>l.1,sz,fun l=>l.2.1,fun l=>l.2.2,h⟩
def s1F:EvF:=fun b L H n op=>match op with
 | .buildSlice X 1 ps=>match ps.toList with
  | [(0,y)]=>match evS L y,lk b.t.und X with
   | some (.ag is),some (.slice A)=>match lk b.t.siz A,lk b.z.z A with
    | some sz,some zi=>bif Nat.blt 0 sz&&Nat.beq (sizeI zi) sz&&(Nat.beq (sizeI is) sz&&oneI is)&&Nat.ble sz 16777216 then some ([],some (.sl (n+1)),(n+1,.ex pS1 [.p n 0])::(n,.cells A is)::H,n+1+1) else none
    | _,_=>none
   | _,_=>none
  | _=>none
 | _=>none
theorem s1F_ok {c:C4}:EvOk c s1F:=by
 intro b L H n op cs r H' n' hB h hc dst T pos af g hdr hd
 unfold s1F at h
 split at h
 ·rename_i X ps;split at h
  ·rename_i y hps;split at h
   ·rename_i is A hy hX;split at h
    ·rename_i sz zi hs hz
     cases hb:Nat.blt 0 sz&&Nat.beq (sizeI zi) sz&&(Nat.beq (sizeI is) sz&&oneI is)&&Nat.ble sz 16777216 with
     | false=>rw [hb] at h;cases h
     | true =>
      rw [hb,cond_true] at h;cases h
      simp only [Bool.and_eq_true] at hb
      obtain ⟨⟨⟨b1,b2⟩,b3,b4⟩,b5⟩:=hb
      have b1:0 < sz:=by simpa [Nat.blt_eq] using b1
      have b2:=Nat.eq_of_beq_eq_true b2
      have b3:=Nat.eq_of_beq_eq_true b3
      cases dst with
      | none=>simp at hdr
      | some d =>
       refine ⟨rfl,OT.ofTX hd fun ρ F Fx o Lr hLr Q hk=>?_⟩
       obtain ⟨zv,zvs,z1,z2,z3⟩:=hB.z.z.mem _ (lk_mem hz)
       have hzs:zv.cells.size=(En.raw sz b1).sz:=by rw [z2,List.size_toArray,dens_size z3,b2];rfl
       obtain ⟨vy,f1,f2⟩:=evS_ok o.dens hy
       rw [SV.den] at f1
       obtain ⟨vs,hvs,rfl⟩:=Option.map_eq_some_iff.1 f1
       have hlen:vs.length=sz:=by rw [dens_size hvs,b3]
       have hone:allOne vs=true:=oneI_ok b4 hvs
       have ep:ps=[(0,y)].toArray:=by cases ps;simpa using hps
       rw [ep]
       have hp:evp Lr [(0,y)]=some [(0,.agg vs.toArray)]:=by
        have:=ev_ext hLr f2
        simp [evp,this]
       refine TX.buildS0 (N:=En.raw sz b1) (ys:=[⟨vs,hlen,hone⟩]) (hB.t.und.mem _ (lk_mem hX)) (hB.t.siz.mem _ (lk_mem hs)) z1 hzs hp rfl (by rw [Nat.one_mul];exact b5) (fillS [.agg vs.toArray] rfl rfl (by simp [Value.cells,hlen,En.raw]) (by simp [Value.cells,En.raw])) hd (fun sp Hs ho=>?_)
       rcases ho with ⟨_,_,h0,_⟩ | ⟨gg,cur,rfl,rfl,g1,g2,g3,g4⟩
       ·cases h0
       have hcur:cur=vs.toArray:=by
        have h3:cur.size=sz:=by simpa [En.raw] using g3
        have h4:cur.toList=vs:=by
         have:cur.toList.take sz=vs:=by simpa [En.raw] using g4
         rw [List.take_of_length_le (by simp [h3])] at this;exact this
        cases cur;simp at h4;simp [h4]
       subst hcur
       have hgr:=Env.set_grow (ρ:=ρ) (n:=n) (l:=⟨some ⟨gg,0,none⟩,0,0⟩) o.fr
       have hle:=hgr.toLe o.fr
       have hR:=Env.set_row (b:=.cells A is) (l:=⟨some ⟨gg,0,none⟩,0,0⟩) o.reps o.fr ⟨gg,vs,by rw [Env.set_self];rfl,dens_mono hle hvs,rfl⟩
       have hgr2:=Env.set_grow (ρ:=ρ.set n ⟨some ⟨gg,0,none⟩,0,0⟩) (n:=n+1) (l:=⟨some ⟨gg,0,none⟩,1,1⟩) hgr.fr
       have hpd:SV.dens ((ρ.set n ⟨some ⟨gg,0,none⟩,0,0⟩).set (n+1) ⟨some ⟨gg,0,none⟩,1,1⟩) [.p n 0]=some [.pointer (some ⟨gg,0,none⟩)]:=by
        refine denAll_dens (l:=[.p n 0]) ⟨?_,trivial⟩
        rw [SV.den,hgr2.old n (Nat.lt_succ_self n),Env.set_self];rfl
       have hR2:=Env.set_row (b:=.ex pS1 [.p n 0]) (f:=[]) (l:=⟨some ⟨gg,0,none⟩,1,1⟩) hR hgr.fr ⟨_,_,Env.set_self,hpd,gg,rfl,rfl,rfl⟩
       have:=hk _ ([]::[(gg,.cells vs.toArray A (0,0))]::F) (.slice (some ⟨gg,0,none⟩) 1 1) ⟨fun t ht=>by rw [hgr2.old t (by omega),hgr.old t ht],hgr2.fr,by omega⟩ (by rw [Option.getD_some,SV.den,Env.set_self];rfl) hR2
       refine TO.perm ?_ this
       simp [Hp.all]
    cases h
   cases h
  cases h
 cases h
def Ev.s1 {c:C4}:Ev c:=.ot s1F s1F_ok
end Go.HW
namespace Go.HW
open Go Go.RowKit
def mnF:EvF:=fun b L H n op=>match op with
 | .call ⟨.builtin .min,args,ts⟩=>match args.toList with
  | [x,y]=>match evS L x,evS L y with
   | some (.v (.int k i)),some (.v (.int k' j))=>some ([],some (.v (.int k (bif decide (j < i) then j else i))),H,n)
   | _,_=>none
  | _=>none
 | .call ⟨.builtin .max,args,ts⟩=>match args.toList with
  | [x,y]=>match evS L x,evS L y with
   | some (.v (.int k i)),some (.v (.int k' j))=>some ([],some (.v (.int k (bif decide (i < j) then j else i))),H,n)
   | _,_=>none
  | _=>none
 | _=>none
def hdS:SV→Option (Option Nat)
 | .sl t=>some (some t)
 | .v v=>bif isNil v then some none else none
 | _=>none
theorem hdS_sl {x:SV} {t:Nat} (h:hdS x=some (some t)):x=.sl t:=by
 cases x <;> simp [hdS] at h
 ·rename_i v;cases hb:isNil v <;> rw [hb] at h <;> cases h
 rw [h]
theorem hdS_nil {x:SV} (h:hdS x=some none):x=.v (.slice none 0 0):=by
 cases x <;> simp [hdS] at h
 rename_i v
 cases hb:isNil v with
 | false=>rw [hb] at h;cases h
 | true =>
  have:v=.slice none 0 0:=by
   unfold isNil at hb;split at hb
   ·rfl
   cases hb
  rw [this]
def gatL {α:Type} [Inhabited α] (N:Et α) (e:TypeId):List (Nat×SV)→List (List α)→Nat→SH→Option (List Prop×SH)
 | [],[],_,H=>some ([],H)
 | p::vs,xs::xss,i,H=>bif Nat.beq p.1 i then (match hdS p.2 with
  | some (some t)=>match lookH H t with
   | some (@Blk.row _ _ _ _ _ m kk)=>match gatL N e vs xss (i+1) (delH H t) with
    | some (ps,H')=>some ((lookH H t=some (.row N e xs m kk))::ps,H')
    | none=>none
   | _=>none
  | some none=>match gatL N e vs xss (i+1) H with
   | some (ps,H')=>some ((xs=[])::ps,H')
   | none=>none
  | none=>none) else none
 | _,_,_,_=>none
theorem allP_cons' {p:Prop} {l:List Prop} (h:allP (p::l)):p∧allP l:=by
 cases l with
 | nil=>exact ⟨h,trivial⟩
 | cons q l=>exact h
theorem gatL_ok {c:Cx} {ρ:Env} {α:Type} [i0:Inhabited α] {N:Et α} {e:TypeId}:∀{pv:List (Nat×SV)} {xss:List (List α)} {i:Nat} {H H':SH} {F:List Blocks} {ps:List Prop},gatL N e pv xss i H=some (ps,H')→allP ps→Reps c ρ H F →
  ∃(hl:List Sl) (rs:List Blocks) (F':List Blocks),InAll N.toEn e hl xss rs∧Reps c ρ H' F'∧(rs.flatten++F'.flatten).Perm F.flatten∧hl.length=pv.length∧xss.length=pv.length ∧
   ∀k p,pv[k]?=some p→p.1=i+k∧∃h:Sl,hl[k]?=some h∧p.2.den ρ=some (.slice h.1 h.2.1 h.2.2):=by
 intro pv
 induction pv with
 | nil =>
  intro xss i H H' F ps h hc hR
  cases xss with
  | nil =>
   simp only [gatL] at h;cases h
   exact ⟨[],[],F,trivial,hR,List.Perm.refl _,rfl,rfl,fun k p hk=>by simp at hk⟩
  | cons xs xss=>simp only [gatL] at h;cases h
 | cons p vs ih =>
  intro xss i H H' F ps h hc hR
  cases xss with
  | nil=>simp only [gatL] at h;cases h
  | cons xs xss =>
   simp only [gatL] at h
   cases hb:Nat.beq p.1 i with
   | false=>rw [hb] at h;cases h
   | true =>
    rw [hb,cond_true] at h
    have hpi:=Nat.eq_of_beq_eq_true hb
    split at h
    ·rename_i t ht
     have ht:=hdS_sl ht
     split at h
     ·rename_i β zi N2 e2 xs2 m kk hl0;split at h
      ·rename_i ps' H2 hg;cases h
       obtain ⟨c1,c2⟩:=allP_cons' hc
       obtain ⟨FA,f,FB,rfl,⟨sp,cap,r1,r2,r3,r4⟩,_,hdel⟩:=hR.look c1
       obtain ⟨hl,rs,F',q1,q2,q3,q4,q5,q6⟩:=ih hg c2 hdel
       refine ⟨(sp,m,cap)::hl,f::rs,F',⟨⟨r3,r2⟩,q1⟩,q2,?_,by simp [q4],by simp [q5],?_⟩
       ·simp only [List.flatten_cons,List.flatten_append,List.append_assoc]
        refine (List.Perm.append_left f q3).trans ?_
        rw [List.flatten_append,← List.append_assoc,← List.append_assoc]
        exact List.Perm.append_right _ List.perm_append_comm
       intro k p' hk
       cases k with
       | zero=>simp at hk;subst hk;exact ⟨hpi,_,rfl,by rw [ht,SV.den,r1];rfl⟩
       | succ k=>obtain ⟨e1,h,e2,e3⟩:=q6 k p' (by simpa using hk);exact ⟨by omega,h,by simpa using e2,e3⟩
      cases h
     cases h
    ·rename_i ht
     have ht:=hdS_nil ht
     split at h
     ·rename_i ps' H2 hg;cases h
      obtain ⟨c1,c2⟩:=allP_cons' hc
      obtain ⟨hl,rs,F',q1,q2,q3,q4,q5,q6⟩:=ih hg c2 hR
      have c1:xs=[]:=c1
      subst c1
      refine ⟨(none,0,0)::hl,[]::rs,F',⟨⟨.inl ⟨rfl,rfl,rfl,rfl⟩,rfl⟩,q1⟩,q2,by simpa using q3,by simp [q4],by simp [q5],?_⟩
      intro k p' hk
      cases k with
      | zero=>simp at hk;subst hk;exact ⟨hpi,_,rfl,by rw [ht,SV.den]⟩
      | succ k=>obtain ⟨e1,h,e2,e3⟩:=q6 k p' (by simpa using hk);exact ⟨by omega,h,by simpa using e2,e3⟩
     cases h
    cases h
theorem evSp_vals {ρ:Env} {L:SL} (hD:DensL ρ L):∀{ps:List (Nat×Operand)} {pv:List (Nat×SV)} {hl:List Sl} {i:Nat},evSp L ps=some pv→hl.length=pv.length →
  (∀k p,pv[k]?=some p→p.1=i+k∧∃h:Sl,hl[k]?=some h∧p.2.den ρ=some (.slice h.1 h.2.1 h.2.2))→evp (realL ρ L) ps=some ((List.range' i hl.length).zip (hl.map fun h=>.slice h.1 h.2.1 h.2.2))
 | [],pv,hl,i,h,hn,hq=>by
  cases h
  have:hl=[]:=List.eq_nil_of_length_eq_zero hn
  subst this;rfl
 | (j,x)::ps,pv,hl,i,h,hn,hq=>by
  simp only [evSp] at h;split at h
  ·rename_i v vs h1 h2;cases h
   cases hl with
   | nil=>simp at hn
   | cons h0 hl =>
    obtain ⟨e1,h,e2,e3⟩:=hq 0 _ rfl
    simp at e2;subst e2
    obtain ⟨u,u1,u2⟩:=evS_ok hD h1
    simp only at e3 e1
    rw [e3] at u1;cases u1
    have:=evSp_vals hD (hl:=hl) (i:=i+1) h2 (by simpa using hn) (fun k p hk=>by
     obtain ⟨f1,hh,f2,f3⟩:=hq (k+1) p (by simpa using hk)
     exact ⟨by omega,hh,by simpa using f2,f3⟩)
    simp only [evp,u2,this,List.length_cons,List.range'_succ,List.map_cons,List.zip_cons_cons]
    rw [e1];rfl
  cases h
def bLF {α:Type} [Inhabited α] (N:Et α) (e:TypeId) (xss:List (List α)):EvF:=fun b L H n op=>match op with
 | .buildSlice X m ps=>match evSp L ps.toList,lk b.t.und X with
  | some pv,some (.slice A)=>match lk b.t.siz A,lk b.z.z A,gatL N e pv xss 0 H with
   | some sz,some zi,some (cs,H')=>bif Nat.beq sz 1&&Nat.beq (sizeI zi) 1&&Nat.beq pv.length m&&Nat.blt 0 m&&Nat.ble m 16777216 then some (cs,some (.sl n),(n,.rowL N e A xss m)::H',n+1) else none
   | _,_,_=>none
  | _,_=>none
 | _=>none
theorem bLF_ok {c:C4} {α:Type} [Inhabited α] {N:Et α} {e:TypeId} {xss:List (List α)}:EvOk c (bLF N e xss):=by
 intro b L H n op cs r H' n' hB h hc dst T pos af g hdr hd
 unfold bLF at h
 split at h
 ·rename_i X m ps;split at h
  ·rename_i pv A hp hX;split at h
   ·rename_i sz zi cs1 H1 hs hz hg
    cases hb:Nat.beq sz 1&&Nat.beq (sizeI zi) 1&&Nat.beq pv.length m&&Nat.blt 0 m&&Nat.ble m 16777216 with
    | false=>rw [hb] at h;cases h
    | true =>
     rw [hb,cond_true] at h;cases h
     simp only [Bool.and_eq_true] at hb
     obtain ⟨⟨⟨⟨b1,b2⟩,b3⟩,b4⟩,b5⟩:=hb
     have b1:=Nat.eq_of_beq_eq_true b1;subst b1
     have b2:=Nat.eq_of_beq_eq_true b2
     have b3:=Nat.eq_of_beq_eq_true b3
     have b4:0 < m:=by simpa [Nat.blt_eq] using b4
     cases dst with
     | none=>simp at hdr
     | some d =>
      refine ⟨rfl,OT.ofTX hd fun ρ F Fx o Lr hLr Q hk=>?_⟩
      obtain ⟨zv,zvs,z1,z2,z3⟩:=hB.z.z.mem _ (lk_mem hz)
      have hzs:zv.cells.size=En.sl.sz:=by rw [z2,List.size_toArray,dens_size z3,b2];rfl
      obtain ⟨hl,rs,F',q1,q2,q3,q4,q5,q6⟩:=gatL_ok hg hc o.reps
      have hev:=evSp_vals o.dens hp q4 q6
      have ep:ps=ps.toList.toArray:=by simp
      rw [ep]
      have hfl:(hl.map fun h=>Value.slice h.1 h.2.1 h.2.2).flatMap (fun v=>v.cells.toList)=hl.flatMap En.sl.enc:=by
       rw [List.flatMap_map];rfl
      have hal:((hl.map fun h=>Value.slice h.1 h.2.1 h.2.2).all fun v=>Nat.beq v.cells.toList.length 1)=true:=by
       rw [List.all_eq_true];intro v hv
       obtain ⟨h,_,rfl⟩:=List.mem_map.1 hv;rfl
      refine TX.permL (H':=⟨[],rs.flatten::(F'++Fx)⟩) ?_ (TX.buildS (N:=En.sl) (ys:=hl) (E:=[]) (S:=rs.flatten::(F'++Fx)) (hB.t.und.mem _ (lk_mem hX)) (hB.t.siz.mem _ (lk_mem hs)) z1 hzs (evp_ext hLr hev) (by rw [q4,b3]) (by rw [show En.sl.sz=1 from rfl,Nat.mul_one];exact b5) (fillS _ (by simp) (by simp [q4,b3]) hal hfl) hd (fun sp Hs ho=>?_))
      ·simp only [Hp.all,List.nil_append,List.flatten_append,List.flatten_cons]
       rw [← List.append_assoc]
       exact List.Perm.append_right _ q3.symm
      have hxl:xss.length=m:=by rw [q5,b3]
      have:=hk (ρ.set n ⟨sp,m,m⟩) ((Hs++rs.flatten)::F') _ (Env.set_grow o.fr) (by rw [Option.getD_some,SV.den,Env.set_self];rfl) (Env.set_row q2 o.fr ⟨sp,m,Env.set_self,hxl,fun h0=>(by rw [h0] at hxl;simp at hxl;omega),hl,Hs,rs,ho,q1,rfl⟩)
      refine TO.perm ?_ this
      simp [Hp.all]
   cases h
  cases h
 cases h
def Ev.bL {c:C4} {α:Type} [Inhabited α] (N:Et α) (e:TypeId) (xss:List (List α)):Ev c:=.ot (bLF N e xss) bLF_ok
theorem sj {α:Type} {a b:α} (h:some a=some b):a=b:=Option.some.inj h
section
variable {c:C4} {Q:Exit→Act→World→Prop}
theorem I_ {L L':SL} {H H':SH} {n n':Nat} (σ:List Nat) (h1:lookAll L L'=some (renAll σ L'):=by rfl) (h2:takesH σ H H'=some (renBs σ H'):=by rfl) (h3:idB 0 c.m σ=true:=by rfl) (h4:σ.length=n':=by rfl):Imp c ⟨L,H,n⟩ ⟨L',H',n'⟩:=Imp.to σ h1 h2 h3 h4
theorem C_ {α:Type} {s:St} {x y:Code} {k:Operand} {K:List Fr} {b:Bool} {A B r:α} (h:(bif b then A else B)=r) (h1:A=r→b=true→G4 c Q (.code x K) s) (h2:B=r→b=false→G4 c Q (.code y K) s) (hk:evS s.L k=some (.v (.bool b)):=by rfl):G4 c Q (.code (.cond k x y) K) s:=CD h hk h1 h2
end
section
variable {P:Program} {w0:World} {F0:List Blocks} {gl:GlF w0 (F0.flatten.map (·.1))} {ρ0:Env} {N m n':Nat} {fn:Func} {r:SV} {H':SH} {L:SL} {H:SH} {n:Nat} {rs:List ResultVar} {ys:List SV}
theorem T_ {t:Tab} (ht:TabOk P t) (hrs:fn.results=rs.toArray) (σ:List Nat) (hy:resS t L H rs=some ys:=by rfl) (hr:retS ys=r.ren σ:=by rfl) (h2:takesH σ H H'=some (renBs σ H'):=by rfl) (h3:idB 0 m σ=true:=by rfl) (h4:σ.length=n':=by rfl) :
  G4 (c0 P w0 F0 N ρ0 m gl) (FinC P fn w0 F0 ρ0 m r H' n') (.exit .ret []) ⟨L,H,n⟩:=RT ht hrs σ hy hr h2 h3 h4
theorem TN_ {t:Tab} (ht:TabOk P t) (hrs:fn.results=rs.toArray) (σ:List Nat) (hy:resS t L H rs=some ys:=by rfl) (hr:retS ys=r.ren σ:=by rfl) (h2:takesH σ H H'=some (renBs σ H'):=by rfl) (h3:idB 0 m σ=true:=by rfl) (h4:σ.length=n':=by rfl) :
  G4 (c0 P w0 F0 N ρ0 m gl) (FinC P fn w0 F0 ρ0 m r H' n') (.exit .normal []) ⟨L,H,n⟩:=RTN ht hrs σ hy hr h2 h3 h4
end
inductive Out:Type 1 where
 | ret (r:SV) (H:SH) (n:Nat)
 | pan (v:Value) (H:SH) (n:Nat)
def PanE (w:World) (R:Hp) (v:Value) (post:Hp→Prop):Ending→World→Prop :=
 fun e w'=>∃R',e=.panicked [{ v:=v,recovered:=false }]∧Eff w R w' R'∧post R'
def postP (ρ:Env) (n:Nat) (H':SH) (n':Nat) (R':Hp):Prop :=
 ∃(c:Cx) (ρ':Env) (F':List Blocks),R'=⟨[],F'⟩∧Env.grow n n' ρ ρ'∧Reps c ρ' H' F'
def EndO (w:World) (F:List Blocks) (ρ:Env) (m:Nat):Out→Ending→World→Prop
 | .ret r H' n'=>RetE w ⟨[],F⟩ (postC ρ m r H' n')
 | .pan v H' n'=>PanE w ⟨[],F⟩ v (postP ρ m H' n')
def ConE (P:Program) (k:FuncId) (args:List SV) (H:SH) (n:Nat) (E:World→List Blocks→Env→Ending→World→Prop):Prop :=
 ∀(w:World) (ρ:Env) (F:List Blocks) (vs:List Value),SV.dens ρ args=some vs→Reps (cB P w F) ρ H F→(∀t,n≤t→ρ t=none)→(∀p∈F.flatten,w.heap[p.1]?=some p.2)→(F.flatten.map (·.1)).Nodup→GlF w (F.flatten.map (·.1)) →
  Calls P k vs.toArray w (E w F ρ)
def ConX (P:Program) (k:FuncId) (args:List SV) (H:SH) (n:Nat) (v:Value) (H':SH) (n':Nat):Prop:=ConE P k args H n fun w F ρ=>EndO w F ρ n (.pan v H' n')
def ConO (P:Program) (k:FuncId) (args:List SV) (H:SH) (n:Nat):Out→Prop
 | .ret r H' n'=>Con P k args H n r H' n'
 | .pan v H' n'=>ConX P k args H n v H' n'
theorem ConO.of {P:Program} {k:FuncId} {args:List SV} {H:SH} {n:Nat} {o:Out} (h:ConE P k args H n fun w F ρ=>EndO w F ρ n o):ConO P k args H n o:=by
 cases o with
 | ret r H' n'=>exact h
 | pan v H' n'=>exact h
def FinO (P:Program) (fn:Func) (w:World) (F:List Blocks) (ρ:Env) (m:Nat) (o:Out):Exit→Act→World→Prop:=bodyPostM (FW none) 1 P fn (EndO w F ρ m o)
theorem ConE.of_body {P:Program} {k:FuncId} {fn:Func} {code:Code} {N:Nat} {args:List SV} {H:SH} {n:Nat} {E:World→List Blocks→Env→Ending→World→Prop} (hf:P.funcs[k]?=some fn) (hb:fn.body=some code) (hN:fn.ntmps=N)
  (ha:(Nat.ble args.length N&&noAr args)=true) (h:∀w F ρ gl,G4 (c0 P w F N ρ n gl) (bodyPostM (FW none) 1 P fn (E w F ρ)) (.code code []) ⟨argL 0 args,H,n⟩):ConE P k args H n E:=by
 intro w ρ F vs hd hR hl hh hn gl
 simp only [Bool.and_eq_true] at ha
 obtain ⟨d1,d2,d3⟩:=argL_dens (k:=0) (noAr_spec ha.2) hd
 have ha':vs.length≤N:=by rw [d3];exact Nat.le_of_ble_eq_true ha.1
 refine (callsIn_wide (n:=1)).1 ?_
 refine callsIn_of_wp_marks (F:=Fence.wide) (n:=1) hf hb trivial ?_
 rw [hN]
 have s:Sat ⟨P,none,w,F.flatten.map (·.1),N,[]⟩ (argS 0 vs) ⟨[],F⟩ { tmps:=vs.toArray++Array.replicate (N - vs.toArray.size) undef,defers:=[] } w:=by
  refine ⟨by simp;omega,rfl,?_,Ext.refl _ _,by simpa [Hp.all] using hn,by simpa [Hp.all] using hh,fun p hp=>.inl (List.mem_map.2 ⟨p,by simpa [Hp.all] using hp,rfl⟩)⟩
  intro t v hl
  obtain ⟨_,h2⟩:=look_argS vs 0 t v hl
  simp only [Nat.sub_zero] at h2
  have ht:t < vs.length:=(List.getElem?_eq_some_iff.1 h2).1
  have hv:vs[t]=v:=(List.getElem?_eq_some_iff.1 h2).2
  simp [Array.getD,show t < vs.length+(N - vs.length) from by omega,ht,hv]
 refine h w F ρ gl ρ F _ w ⟨⟨d1,Reps.cx (c:=cB P w F) (c':=(c0 P w F N ρ n gl).toCx) rfl rfl hR,hl,fun _ _=>rfl,Nat.le_refl _⟩,?_⟩
 show Sat _ (realL ρ (argL 0 args)) ⟨[],F⟩ _ w
 rw [d2];exact s
theorem ConO.of_body {P:Program} {k:FuncId} {fn:Func} {code:Code} {N:Nat} {args:List SV} {H:SH} {n:Nat} {o:Out} (hf:P.funcs[k]?=some fn) (hN:fn.ntmps=N)
  (h:∀w F ρ gl,G4 (c0 P w F N ρ n gl) (FinO P fn w F ρ n o) (.code code []) ⟨argL 0 args,H,n⟩) (hb:fn.body=some code:=by rfl) (ha:(Nat.ble args.length N&&noAr args)=true:=by rfl):ConO P k args H n o :=
 ConO.of (ConE.of_body hf hb hN ha h)
section
variable {c:C4} {Q:Exit→Act→World→Prop} {ch:List PanicEntry} {s:St}
theorem QK_panic {ro:Option Nat} {P:Program}:∀(K:List Fr) (a:Act) (w:World),Q (.panic ch) a w→QK ro P Q K (.panic ch) a w
 | [],a,w,h=>h
 | .th y::K,a,w,h=>QK_panic K a w h
 | .bl id::K,a,w,h=>QK_panic K a w h
 | .st M::K,a,w,h=>QK_panic K a w h
 | .ct id M::K,a,w,h=>QK_panic K a w h
theorem G4.panic {K:List Fr} (h:G4 c Q (.exit (.panic ch) []) s):G4 c Q (.exit (.panic ch) K) s :=
 fun ρ F a w hs=>QK_panic K a w (h ρ F a w hs)
def OX (c:C4) (o:Oper) (s:St) (e:Exit) (H':SH) (n':Nat):Prop :=
 ∀ρ F Fx a w,Ok c ρ F s→Sat c (realL ρ s.L) ⟨[],F++Fx⟩ a w→∀(K:Act→World→Prop) (Q:Exit→Act→World→Prop),
  (∀ρ' F' w',Env.grow s.n n' ρ ρ'→Reps c ρ' H' F'→Sat c (realL ρ s.L) ⟨[],F'++Fx⟩ a w'→Q e a w') →
  o.uponIn (FW c.ro) 1 c.P a K Q ((execOp a.eval o).run c.P w)
theorem OX.use {o:Oper} {ops:Array Oper} {l:List Oper} {K:List Fr} {e:Exit} {H':SH} {n':Nat} (hg:o.guard=none) (hn:notDefer o.op=true) (h:OX c o s e H' n') (k:G4 c Q (.exit e K) ⟨s.L,H',n'⟩):G4 c Q (.ops ops (o::l) K []) s:=by
 intro ρ F a w hs _
 unfold wpListIn
 rw [if_pos (by simp [Region.wanted,hg])]
 refine wpIn_of hn (h ρ F [] a w hs.ok (by simpa using hs.sat) _ _ ?_)
 intro ρ' F' w' hg hR hS
 refine k ρ' F' a w' ⟨⟨hs.ok.dens.mono (hg.toLe hs.ok.fr),hR,hg.fr,fun t ht=>?_,Nat.le_trans hs.ok.mle hg.le⟩,?_⟩
 ·rw [hg.old t (Nat.lt_of_lt_of_le ht hs.ok.mle)];exact hs.ok.pin t ht
 have hS':Sat c.toCx (realL ρ s.L) ⟨[],F'⟩ a w':=by simpa using hS
 show Sat c.toCx (realL ρ' s.L) ⟨[],F'⟩ a w'
 rw [realL_mono (hg.toLe hs.ok.fr) hs.ok.dens];exact hS'
theorem OX.call {L:SL} {H:SH} {n:Nat} {T:TypeId} {pos:String} {af:Array Edge} {g:Option (Nat×Bool)} {ats:Array TypeId} {d:Option Nat} {f:Operand} {args:Array Operand} {k:FuncId} {cargs:List SV} {cH cH':SH} {m m':Nat}
  {v:Value} {fi ca vs:List SV} {H1:SH} (σ:List Nat) (con:ConX c.P k cargs cH m v cH' m')
  (hk:∀(args:Array Value) (w:World),(callFunc k args).run c.P w=.ok (.enter k args) w)
  (hf:evS L f=some (.fn (.func k) fi ca)) (ha:evSs L args.toList=some vs)
  (hargs:appI fi (appI vs ca)=SV.rens σ cargs) (hO:takeW σ H cH=some (ownBs σ cH,H1)) (hR:rdsOf σ H1 cH=some (rdsW cH))
  (hb:(ltAll n σ&&Nat.beq σ.length m&&Nat.ble m m'&&allOwn cH')=true) :
  OX c ⟨d,.call ⟨.value f,args,ats⟩,T,pos,af,g⟩ ⟨L,H,n⟩ (.panic [{ v:=v,recovered:=false }]) (nH (appN σ (seqN n (m' - m))) H1 cH') (n+(m' - m)):=by
 simp only [Bool.and_eq_true] at hb
 obtain ⟨⟨⟨hb1,hb2⟩,hb3⟩,hb4⟩:=hb
 have hm:σ.length=m:=Nat.eq_of_beq_eq_true hb2
 have hσ:=ltAll_spec hb1
 intro ρ F Fx a w ok s K Q hK
 obtain ⟨Fc,F1,t1,t2,t3⟩:=takeW_spec ok.reps hO
 obtain ⟨vf,e1,e2⟩:=evS_ok ok.dens hf
 obtain ⟨va,e3,e4⟩:=evSs_ok ok.dens ha
 rw [SV.den] at e1
 obtain ⟨xf,e5,e6⟩:=Option.bind_eq_some_iff.1 e1
 obtain ⟨xc,e7,rfl⟩:=Option.map_eq_some_iff.1 e6
 have hcargs:SV.dens (ρ.sel σ) cargs=some (xf++(va++xc)):=by
  refine dens_ren ?_
  rw [← hargs,appI_eq,appI_eq]
  exact dens_append.2 ⟨_,_,e5,dens_append.2 ⟨_,_,e3,e7,rfl⟩,rfl⟩
 have hp:((⟨[],Fc⟩:Hp).add ⟨[],F1++Fx⟩).all.Perm (⟨[],F++Fx⟩:Hp).all:=by
  simp only [Hp.all,Hp.add,List.nil_append,List.flatten_append,← List.append_assoc];exact t3.append_right _
 have s':=s.perm hp
 have eargs:args=args.toList.toArray:=by simp
 have hrun:(execOp a.eval ⟨d,.call ⟨.value f,args,ats⟩,T,pos,af,g⟩).run c.P w=.ok (.enter k (xf++(va++xc)).toArray) w:=by
  rw [eargs]
  simp [execOp,resolve,Deferred.ofValue,invoke,s.eval e2,s.evals e4,hk]
 rw [hrun]
 refine ⟨fun h=>by simp [FW] at h,?_⟩
 have hok:=s'.hpOk
 have hret:=con w (ρ.sel σ) Fc _ hcargs (callee_reps t2 s' t1 hR) (fun t ht=>by simp [Env.sel,tgO_none (σ:=σ) (t:=t) (by rw [hm];exact ht)]) (by simpa [Hp.all] using hok.1) (by simpa [Hp.all] using hok.2) (c.gl.tr (by simpa [Hp.all] using s'.extB))
 refine callsIn_FW (Calls.mono hret ?_)
 rintro e w' ⟨R',rfl,he,c',ρ',F',rfl,p0,p2⟩
 have hle:=backE_sel (n:=n) hm hσ p0
 have hg:Env.grow n (n+(m' - m)) ρ (backE ρ ρ' n m m'):=backE_grow
 have h6:=s'.eff he
 refine hK (backE ρ ρ' n m m') (F'++F1) w' hg (nH_reps (t2.mono (hg.toLe ok.fr)) hb4 (p2.mono hle)) ?_
 have:((⟨[],F'⟩:Hp).add ⟨[],F1++Fx⟩)=⟨[],F'++F1++Fx⟩:=by simp [Hp.add]
 rwa [this] at h6
def cxO (b:TB) (L:SL) (H:SH) (n:Nat) (op:Op) (σ:List Nat) (k:FuncId) (cargs:List SV) (cH:SH) (m:Nat) (cH':SH) (m':Nat):Option (List Prop×SH×Nat) :=
 match op with
 | .call ⟨.value f,args,_⟩=>match evS L f,evSs L args.toList,takeW σ H cH with
  | some (.fn (.func k') fi ca),some vs,some (bs,H1)=>bif Nat.beq k' k&&hasN b.e.cal k&&(ltAll n σ&&Nat.beq σ.length m&&Nat.ble m m'&&allOwn cH') then
    some ([appI fi (appI vs ca)=SV.rens σ cargs,bs=ownBs σ cH,rdsOf σ H1 cH=some (rdsW cH)],nH (appN σ (seqN n (m' - m))) H1 cH',n+(m' - m)) else none
  | _,_,_=>none
 | _=>none
theorem CX_ {b:TB} (hB:TBOk c.P b) (σ:List Nat) {k:FuncId} {cargs:List SV} {cH cH':SH} {m m':Nat} {v:Value} (con:ConX c.P k cargs cH m v cH' m') {cs:List Prop} (hc:allP cs)
  {d:Option Nat} {op:Op} {T:TypeId} {pos:String} {af:Array Edge} {ops:Array Oper} {l:List Oper} {K:List Fr} {L:SL} {H H2:SH} {n n2:Nat}
  (kk:G4 c Q (.exit (.panic [{ v:=v,recovered:=false }]) []) ⟨L,H2,n2⟩) (h:cxO b L H n op σ k cargs cH m cH' m'=some (cs,H2,n2):=by rfl):G4 c Q (.ops ops (⟨d,op,T,pos,af,none⟩::l) K []) ⟨L,H,n⟩:=by
 unfold cxO at h
 split at h
 ·rename_i f args ats;split at h
  ·rename_i k' fi ca vs bs H1 hf ha hO
   cases hb:Nat.beq k' k&&hasN b.e.cal k&&(ltAll n σ&&Nat.beq σ.length m&&Nat.ble m m'&&allOwn cH') with
   | false=>rw [hb] at h;cases h
   | true =>
    rw [hb,cond_true] at h;cases h
    simp only [Bool.and_eq_true] at hb
    obtain ⟨⟨b1,b2⟩,b3⟩:=hb
    have:=Nat.eq_of_beq_eq_true b1;subst this
    obtain ⟨c1,c2⟩:=allP_cons hc
    obtain ⟨c2,c3⟩:=allP_cons c2
    have c3:rdsOf σ H1 cH=some (rdsW cH):=c3
    exact OX.use rfl rfl (OX.call σ con (hB.e.cal.mem _ (hasN_mem b2)) hf ha c1 (by rw [hO,c2]) c3 (by simp only [Bool.and_eq_true];exact b3)) kk.panic
  cases h
 cases h
theorem PX_ {x:Operand} {t:TypeId} {v:Value} {d:Option Nat} {T:TypeId} {pos:String} {af:Array Edge} {ops:Array Oper} {l:List Oper} {K:List Fr}
  (kk:G4 c Q (.exit (.panic [{ v:=.iface t v,recovered:=false }]) []) s) (h:evS s.L x=some (.v (.iface t v)):=by rfl):G4 c Q (.ops ops (⟨d,.panic x,T,pos,af,none⟩::l) K []) s:=by
 obtain ⟨L,H,n⟩:=s
 refine OX.use rfl rfl (H':=H) (n':=n) ?_ kk.panic
 intro ρ F Fx a w ok s K Q hK
 obtain ⟨v',e1,e2⟩:=evS_ok ok.dens h
 rw [SV.den] at e1;cases e1
 have hrun:(execOp a.eval ⟨d,.panic x,T,pos,af,none⟩).run c.P w=.halt (.panic (.iface t v)) w:=by
  simp [execOp,s.eval e2];rfl
 rw [hrun]
 exact hK ρ F w ok.grow0 ok.reps s
end
section
variable {P:Program} {w0:World} {F0:List Blocks} {gl:GlF w0 (F0.flatten.map (·.1))} {ρ0:Env} {N m n':Nat} {fn:Func} {r:SV} {H':SH} {L:SL} {H:SH} {n:Nat} {rs:List ResultVar} {ys:List SV} {o:Out}
theorem TO_ {t:Tab} (ht:TabOk P t) (hrs:fn.results=rs.toArray) (σ:List Nat) (ho:o=.ret r H' n':=by rfl) (hy:resS t L H rs=some ys:=by rfl) (hr:retS ys=r.ren σ:=by rfl) (h2:takesH σ H H'=some (renBs σ H'):=by rfl) (h3:idB 0 m σ=true:=by rfl) (h4:σ.length=n':=by rfl) :
  G4 (c0 P w0 F0 N ρ0 m gl) (FinO P fn w0 F0 ρ0 m o) (.exit .ret []) ⟨L,H,n⟩:=by subst ho;exact RT ht hrs σ hy hr h2 h3 h4
theorem TNO_ {t:Tab} (ht:TabOk P t) (hrs:fn.results=rs.toArray) (σ:List Nat) (ho:o=.ret r H' n':=by rfl) (hy:resS t L H rs=some ys:=by rfl) (hr:retS ys=r.ren σ:=by rfl) (h2:takesH σ H H'=some (renBs σ H'):=by rfl) (h3:idB 0 m σ=true:=by rfl) (h4:σ.length=n':=by rfl) :
  G4 (c0 P w0 F0 N ρ0 m gl) (FinO P fn w0 F0 ρ0 m o) (.exit .normal []) ⟨L,H,n⟩:=by subst ho;exact RTN ht hrs σ hy hr h2 h3 h4
theorem TP_ {v:Value} (σ:List Nat) (ho:o=.pan v H' n':=by rfl) (h2:takesH σ H H'=some (renBs σ H'):=by rfl) (h3:idB 0 m σ=true:=by rfl) (h4:σ.length=n':=by rfl) :
  G4 (c0 P w0 F0 N ρ0 m gl) (FinO P fn w0 F0 ρ0 m o) (.exit (.panic [{ v:=v,recovered:=false }]) []) ⟨L,H,n⟩:=by
 subst ho
 intro ρ F a w s
 obtain ⟨F',G,j1,j2⟩:=takesH_ren s.ok.reps h2
 have hp:(⟨[],F'++G⟩:Hp).all.Perm (⟨[],F⟩:Hp).all:=by simp only [Hp.all,List.nil_append];exact j2.flatten
 have hg:Env.grow m n' ρ0 (ρ.sel σ):=⟨fun t ht=>by simp only [Env.sel,idB_spec h3 t ht,Nat.zero_add];exact s.ok.pin t ht,fun t ht=>by simp [Env.sel,tgO_none (σ:=σ) (t:=t) (by rw [h4];exact ht)],by rw [← h4];exact idB_len h3⟩
 have s2:=s.sat.perm hp
 show LeavesInM (FW none) 1 P fn a.tmps _ a.defers (.panicking _) w
 rw [s.sat.defers]
 refine ⟨⟨[],F'⟩,rfl,?_,_,ρ.sel σ,F',rfl,hg,j1⟩
 have hsub:(⟨[],F'⟩:Hp).all.Sublist (⟨[],F'++G⟩:Hp).all:=by simp only [Hp.all,List.nil_append];rw [List.flatten_append];exact List.sublist_append_left _ _
 exact ⟨s2.ext,(hsub.map _).nodup s2.nodup,fun p hp=>s2.heap p (hsub.subset hp),fun p hp=>s2.own p (hsub.subset hp)⟩
end
abbrev EvV:=TB→SL→SH→Op→Option (List Prop×SV)
abbrev EvVOk (c:C4) (f:EvV):Prop:=∀(b:TB) (L:SL) (H:SH) (n:Nat) (op:Op) (cs:List Prop) (r:SV),TBOk c.P b→f b L H op=some (cs,r)→allP cs →
 notDefer op=true∧∀ρ F Fx,Ok c ρ F ⟨L,H,n⟩→∀Lr:Slots,(∀t v,look (realL ρ L) t=some v→look Lr t=some v)→∃v,r.den ρ=some v∧∀(d:Nat) (T:TypeId) (pos:String) (af:Array Edge) (g:Option (Nat×Bool)),QV c.toCx ⟨some d,op,T,pos,af,g⟩ Lr ⟨[],F++Fx⟩ v
def liftV (f:EvV):EvF:=fun b L H n op=>match f b L H op with
 | some (cs,r)=>some (cs,some r,H,n)
 | none=>none
theorem liftV_ok {c:C4} {f:EvV} (hf:EvVOk c f):EvOk c (liftV f):=by
 intro b L H n op cs r H' n' hB h hc dst T pos af g hdr hd
 unfold liftV at h
 split at h
 ·rename_i cs1 r1 h1;cases h
  obtain ⟨a1,a2⟩:=hf b L H n op _ _ hB h1 hc
  cases dst with
  | none=>simp at hdr
  | some d =>
   refine ⟨a1,OT.ofTX hd fun ρ F Fx o Lr hLr Q hk=>?_⟩
   obtain ⟨v,e1,e2⟩:=a2 ρ F Fx o Lr hLr
   exact TX.val hd (e2 d T pos af g) (hk ρ F v o.grow0 (by rw [Option.getD_some];exact e1) o.reps)
 cases h
def miF:EvV:=fun b L H op=>match op with
 | .makeInterface X x=>match evS L x,lk b.t.und X with
  | some (.v v),some (.int k)=>some ([],.v (.iface X v))
  | _,_=>none
 | _=>none
theorem miF_ok {c:C4}:EvVOk c miF:=by
 intro b L H n op cs r hB h hc
 unfold miF at h
 split at h
 ·rename_i X x;split at h
  ·rename_i v k hx hX;cases h
   refine ⟨rfl,fun ρ F Fx o Lr hLr=>⟨_,by rw [SV.den],fun d T pos af g a w s=>?_⟩⟩
   obtain ⟨vx,x1,x2⟩:=evS_ok o.dens hx
   rw [SV.den] at x1;cases x1
   simp [execOp,s.eval (ev_ext hLr x2),Instr.makeInterface,hB.t.und.mem _ (lk_mem hX) w]
  cases h
 cases h
def Ev.mi {c:C4}:Ev c:=.ot (liftV miF) (liftV_ok miF_ok)
theorem ptr_nil {P:Program} {X:TypeId} {e:TypeId} (hu:∀w,(underlying X).run P w=.ok (.pointer e) w) (ad:Addr) (w:World):(Op.equal X (.pointer (some ad)) (.pointer none)).run P w=.ok false w:=by
 unfold Op.equal
 rw [show Op.maxDepth=9999+1 from rfl,Op.equalIn]
 simp only [Sem.run_bind,hu,Result.andThen_ok]
 simp
theorem nil_nil {P:Program} {X:TypeId} {e:TypeId} (hu:∀w,(underlying X).run P w=.ok (.pointer e) w) (w:World):(Op.equal X (.pointer none) (.pointer none)).run P w=.ok true w:=by
 unfold Op.equal
 rw [show Op.maxDepth=9999+1 from rfl,Op.equalIn]
 simp only [Sem.run_bind,hu,Result.andThen_ok]
 simp
def pnF:EvV:=fun b L H op=>match op with
 | .binOp o X x y _=>match evS L x,evS L y,lk b.t.und X with
  | some (.p t k),some (.v (.pointer none)),some (.pointer _)=>match o with
   | .eql=>some ([],.v (.bool false)) | .neq=>some ([],.v (.bool true)) | _=>none
  | some (.v (.pointer none)),some (.v (.pointer none)),some (.pointer _)=>match o with
   | .eql=>some ([],.v (.bool true)) | .neq=>some ([],.v (.bool false)) | _=>none
  | _,_,_=>none
 | _=>none
theorem pnF_ok {c:C4}:EvVOk c pnF:=by
 intro b L H n op cs r hB h hc
 unfold pnF at h
 split at h
 ·rename_i o X x y Y;split at h
  ·rename_i t k e hx hy hX
   have key:∀(ρ:Env) (F:List Blocks),Ok c ρ F ⟨L,H,n⟩→∀Lr:Slots,(∀t v,look (realL ρ L) t=some v→look Lr t=some v)→∃ad,ev Lr x=some (.pointer (some ad))∧ev Lr y=some (.pointer none):=fun ρ F o Lr hLr=>by
    obtain ⟨vx,x1,x2⟩:=evS_ok o.dens hx
    obtain ⟨vy,y1,y2⟩:=evS_ok o.dens hy
    rw [SV.den] at y1;cases y1
    rw [SV.den] at x1
    obtain ⟨bb,_,rfl⟩:=Option.map_eq_some_iff.1 x1
    exact ⟨_,ev_ext hLr x2,ev_ext hLr y2⟩
   split at h
   ·cases h;refine ⟨rfl,fun ρ F Fx o Lr hLr=>⟨_,by rw [SV.den],fun d T pos af g a w s=>?_⟩⟩
    obtain ⟨ad,e1,e2⟩:=key ρ F o Lr hLr
    simp [execOp,s.eval e1,s.eval e2,eqGuard,binOp,ptr_nil (hB.t.und.mem _ (lk_mem hX))]
   ·cases h;refine ⟨rfl,fun ρ F Fx o Lr hLr=>⟨_,by rw [SV.den],fun d T pos af g a w s=>?_⟩⟩
    obtain ⟨ad,e1,e2⟩:=key ρ F o Lr hLr
    simp [execOp,s.eval e1,s.eval e2,eqGuard,binOp,ptr_nil (hB.t.und.mem _ (lk_mem hX))]
   cases h
  ·rename_i e hx hy hX
   have key:∀(ρ:Env) (F:List Blocks),Ok c ρ F ⟨L,H,n⟩→∀Lr:Slots,(∀t v,look (realL ρ L) t=some v→look Lr t=some v)→ev Lr x=some (.pointer none)∧ev Lr y=some (.pointer none):=fun ρ F o Lr hLr=>by
    obtain ⟨vx,x1,x2⟩:=evS_ok o.dens hx
    obtain ⟨vy,y1,y2⟩:=evS_ok o.dens hy
    rw [SV.den] at y1;cases y1
    rw [SV.den] at x1;cases x1
    exact ⟨ev_ext hLr x2,ev_ext hLr y2⟩
   split at h
   ·cases h;refine ⟨rfl,fun ρ F Fx o Lr hLr=>⟨_,by rw [SV.den],fun d T pos af g a w s=>?_⟩⟩
    obtain ⟨e1,e2⟩:=key ρ F o Lr hLr
    simp [execOp,s.eval e1,s.eval e2,eqGuard,binOp,nil_nil (hB.t.und.mem _ (lk_mem hX))]
   ·cases h;refine ⟨rfl,fun ρ F Fx o Lr hLr=>⟨_,by rw [SV.den],fun d T pos af g a w s=>?_⟩⟩
    obtain ⟨e1,e2⟩:=key ρ F o Lr hLr
    simp [execOp,s.eval e1,s.eval e2,eqGuard,binOp,nil_nil (hB.t.und.mem _ (lk_mem hX))]
   cases h
  cases h
 cases h
def Ev.pn {c:C4}:Ev c:=.ot (liftV pnF) (liftV_ok pnF_ok)
structure Od (α:Type) where
 β:Type
 ib:Inhabited β
 N:Et β
 e:TypeId
 g:α→List β
 put:α→List β→α
 E:En (α×Sl)
 its:α→SV→List SV
 hits:∀(ρ:Env) (x:α) (u:Nat) (s:Sl),ρ u=some ⟨s.1,s.2.2,s.2.1⟩→SV.dens ρ (its x (.sl u))=some (E.enc (x,s))
 gput:∀x r,g (put x r)=r
 eput:∀x r s,E.enc (put x r,s)=E.enc (x,s)
 self:∀x,put x (g x)=x
attribute [instance] Od.ib
def OwnO {α:Type} (D:Od α) (A:TypeId) (sp:Option Addr) (cap:Nat) (xs:List α) (Hs:Blocks):Prop :=
 ∃(sls:List Sl) (H0:Blocks) (rs:List Blocks),sls.length=xs.length∧OwnL D.E A sp cap (xs.zip sls) H0∧InAll D.N.toEn D.e sls (xs.map D.g) rs∧Hs=H0++rs.flatten
def pO {α:Type} (D:Od α) (A:TypeId) (xs:List α):Loc→List Value→Blocks→Prop:=fun l vs f=>l.len=xs.length∧OwnO D A l.sp l.cap xs f
def pH {α:Type} (D:Od α) (A:TypeId) (xs:List α) (i:Int) (x:α):Loc→List Value→Blocks→Prop:=fun l vs f =>
 ∃(sls:List Sl) (H0:Blocks) (rs1 rs2:List Blocks) (s:Sl),l.len=xs.length∧inb i xs.length=true∧sls.length=xs.length∧vs=[.slice s.1 s.2.1 s.2.2]∧OwnL D.E A l.sp l.cap ((xs.zip sls).set i.toNat (x,s)) H0 ∧
  (∀(s':Sl) (r:List D.β) (q:Blocks),OwnL D.N.toEn D.e s'.1 s'.2.2 r q→r.length=s'.2.1→InAll D.N.toEn D.e (sls.set i.toNat s') ((xs.map D.g).set i.toNat r) (rs1++q::rs2))∧f=H0++(rs1++rs2).flatten
theorem InAll.openW {α:Type} {N:En α} {e:TypeId}:∀{hl:List Sl} {xss:List (List α)} {rs:List Blocks} {k:Nat} {xs:List α} {s:Sl},InAll N e hl xss rs→xss[k]?=some xs→hl[k]?=some s →
  ∃rs1 q rs2,rs=rs1++q::rs2∧OwnL N e s.1 s.2.2 xs q∧xs.length=s.2.1∧∀(s':Sl) (r:List α) (q':Blocks),OwnL N e s'.1 s'.2.2 r q'→r.length=s'.2.1→InAll N e (hl.set k s') (xss.set k r) (rs1++q'::rs2)
 | h::hs,ys::xss,r::rs,0,xs,s,hh,hk,hs0=>by
  simp at hk hs0;subst hk;subst hs0
  exact ⟨[],r,rs,rfl,hh.1.1,hh.1.2,fun s' r' q' h1 h2=>⟨⟨h1,h2⟩,hh.2⟩⟩
 | h::hs,ys::xss,r::rs,k+1,xs,s,hh,hk,hs0=>by
  obtain ⟨rs1,q,rs2,rfl,h3,h4,h5⟩:=InAll.openW (k:=k) hh.2 (by simpa using hk) (by simpa using hs0)
  exact ⟨r::rs1,q,rs2,rfl,h3,h4,fun s' r' q' h1 h2=>⟨hh.1,h5 s' r' q' h1 h2⟩⟩
 | [],[],[],_,_,_,_,hk,_=>by simp at hk
 | [],_::_,_,_,_,_,h,_,_=>by simp [InAll] at h
 | [],[],_::_,_,_,_,h,_,_=>by simp [InAll] at h
 | _::_,[],_,_,_,_,h,_,_=>by simp [InAll] at h
 | _::_,_::_,[],_,_,_,h,_,_=>by simp [InAll] at h
theorem OwnL.cells {α:Type} {N:En α} {e:TypeId} {sp:Option Addr} {cap:Nat} {xs ys:List α} {Hs:Blocks} (h:OwnL N e sp cap xs Hs) (hl:ys.length=xs.length) (he:ys.flatMap N.enc=xs.flatMap N.enc):OwnL N e sp cap ys Hs:=by
 rcases h with ⟨rfl,rfl,rfl,rfl⟩ | ⟨g,cur,rfl,⟨fz,hfz,rfl⟩,h1,h2,h3,h4⟩
 ·exact .inl ⟨rfl,rfl,List.eq_nil_of_length_eq_zero hl,rfl⟩
 exact .inr ⟨g,cur,rfl,⟨fz,hfz,rfl⟩,by omega,h2,h3,by rw [hl,he];exact h4⟩
theorem flatMap_set {α β:Type} (f:α→List β):∀(l:List α) (k:Nat) (a b:α),f a=f b→(l.set k a).flatMap f=(l.set k b).flatMap f
 | [],_,_,_,_=>rfl
 | x::l,0,a,b,h=>by simp [h]
 | x::l,k+1,a,b,h=>by simp [flatMap_set f l k a b h]
theorem zip_set {α β:Type}:∀(xs:List α) (ys:List β) (k:Nat) (a:α) (b:β),(xs.set k a).zip (ys.set k b)=(xs.zip ys).set k (a,b)
 | [],_,_,_,_=>by simp
 | _::_,[],_,_,_=>by simp
 | x::xs,y::ys,0,a,b=>rfl
 | x::xs,y::ys,k+1,a,b=>by simp [zip_set xs ys k a b]
theorem set_self_of {α:Type} {l:List α} {k:Nat} {x:α} (h:l[k]?=some x):l.set k x=l:=by
 apply List.ext_getElem?
 intro j
 rw [List.getElem?_set]
 by_cases e:k=j
 ·subst e;rw [if_pos rfl,h]
  have:k < l.length:=(List.getElem?_eq_some_iff.1 h).1
  rw [if_pos this]
 rw [if_neg e]
theorem perm_mid (X Y Z W f:Blocks):(X++(Y++(f++(Z++W)))).Perm (f++(X++(Y++(Z++W)))) :=
 (List.Perm.append_left X (List.perm_append_comm_assoc Y f _)).trans (List.perm_append_comm_assoc X f _)
section
variable {c:C4} {α:Type} [Inhabited α] {D:Od α} {A:TypeId}
theorem Imp.openO (t:Nat) (i:Int) {xs:List α} {L:SL} {H:SH} {n:Nat} (hi:inb i xs.length=true) (hl:lookH H t=some (.ex (pO D A xs) [])) :
  Imp c ⟨L,H,n⟩ ⟨L,(n,@Blk.row _ D.ib D.N D.e (D.g (gt xs i)) (D.g (gt xs i)).length .unk)::repH H t t (.ex (pH D A xs i (gt xs i)) [.sl n]),n+1⟩:=by
 intro ρ F a w hs
 obtain ⟨FA,f,FB,rfl,⟨l,vs,q1,q2,q3,sls,H0,rs,h1,h2,h3,rfl⟩,hrep,_⟩:=hs.ok.reps.look hl
 have hx:=gt_some (α:=α) hi
 have hk:=inb_iff.1 hi
 have hkl:i.toNat < sls.length:=by omega
 have hs0:sls[i.toNat]?=some sls[i.toNat]:=List.getElem?_eq_getElem hkl
 generalize hsd:sls[i.toNat]=s at hs0
 obtain ⟨rs1,q,rs2,rfl,g1,g2,g3⟩:=InAll.openW h3 (by rw [List.getElem?_map,hx];rfl) hs0
 have hg:=Env.set_grow (ρ:=ρ) (n:=n) (l:=⟨s.1,s.2.2,s.2.1⟩) hs.ok.fr
 have hle:=hg.toLe hs.ok.fr
 have hself:ρ.set n ⟨s.1,s.2.2,s.2.1⟩ n=some ⟨s.1,s.2.2,s.2.1⟩:=Env.set_self
 have hz:(xs.zip sls)[i.toNat]?=some (gt xs i,s):=by rw [List.getElem?_zip_eq_some];exact ⟨hx,hs0⟩
 have hR:=hrep _ t (.ex (pH D A xs i (gt xs i)) [.sl n]) (H0++(rs1++rs2).flatten) hle ⟨l,[.slice s.1 s.2.1 s.2.2],hle _ _ q1,denAll_dens (l:=[.sl n]) ⟨by rw [SV.den,hself];rfl,trivial⟩,sls,H0,rs1,rs2,s,q3,hi,h1,rfl,
  by rw [set_self_of hz];exact h2,g3,rfl⟩
 refine ⟨_,q::(FA++(H0++(rs1++rs2).flatten)::FB),⟨⟨hs.ok.dens.mono hle,⟨q,_,rfl,⟨s.1,s.2.2,by rw [hself,g2],rfl,g1,trivial⟩,hR⟩,hg.fr,fun t ht=>?_,Nat.le_succ_of_le hs.ok.mle⟩,?_⟩⟩
 ·have:=hs.ok.mle
  rw [hg.old t (by simp only at this;omega)];exact hs.ok.pin t ht
 have s1:=hs.sat
 have e:realL (ρ.set n ⟨s.1,s.2.2,s.2.1⟩) L=realL ρ L:=realL_mono hle hs.ok.dens
 simp only [e]
 refine s1.perm ?_
 simp only [Hp.all,List.nil_append,List.flatten_append,List.flatten_cons,List.append_assoc]
 have:=perm_mid (FA.flatten++H0) rs1.flatten rs2.flatten FB.flatten q
 simpa [List.append_assoc] using this.symm
theorem Imp.closeO (t u:Nat) {xs:List α} {i:Int} {x:α} {r:List D.β} {m:Nat} {kk:NK} {L:SL} {H:SH} {n:Nat} (hl:lookH H t=some (.ex (pH D A xs i x) [.sl u])) (hu:lookH H u=some (@Blk.row _ D.ib D.N D.e r m kk))
  (hl2:lookH (delH H u) t=some (.ex (pH D A xs i x) [.sl u])):Imp c ⟨L,H,n⟩ ⟨L,repH (delH H u) t t (.ex (pO D A (xs.set i.toNat (D.put x r))) []),n⟩:=by
 intro ρ F a w hs
 obtain ⟨FA,f,FB,rfl,⟨sp,cap,r1,r2,r3,r4⟩,_,hdel⟩:=hs.ok.reps.look hu
 obtain ⟨FA2,f2,FB2,e2,⟨l,vs,q1,q2,sls,H0,rs1,rs2,s,q3,q4,q5,rfl,q7,q8,rfl⟩,hr2,_⟩:=hdel.look hl2
 have hv:SV.dens ρ [.sl u]=some [.slice sp m cap]:=denAll_dens (l:=[.sl u]) ⟨by rw [SV.den,r1];rfl,trivial⟩
 rw [hv] at q2
 simp only [Option.some.injEq,List.cons.injEq,Value.slice.injEq,and_true] at q2
 obtain ⟨j1,j2,j3⟩:=q2
 have hin:=q8 s r f (by rw [← j1,← j3];exact r3) (by rw [r2,j2])
 have hown:OwnL D.E A l.sp l.cap ((xs.set i.toNat (D.put x r)).zip (sls.set i.toNat s)) H0:=by
  rw [zip_set]
  exact q7.cells (by simp) (flatMap_set _ _ _ _ _ (D.eput x r s))
 have hmap:(xs.set i.toNat (D.put x r)).map D.g=(xs.map D.g).set i.toNat r:=by rw [List.map_set,D.gput]
 refine ⟨ρ,FA2++(H0++(rs1++f::rs2).flatten)::FB2,⟨⟨hs.ok.dens,hr2 ρ t (.ex (pO D A (xs.set i.toNat (D.put x r))) []) _ (Env.le_refl _) ⟨l,[],q1,dens_nil,by rw [q3];simp,sls.set i.toNat s,H0,rs1++f::rs2,by simp [q5],hown,by rw [hmap];exact hin,rfl⟩,hs.ok.fr,hs.ok.pin,hs.ok.mle⟩,?_⟩⟩
 refine hs.sat.perm ?_
 simp only [Hp.all,List.nil_append,List.flatten_append,List.flatten_cons]
 have p1:(FA.flatten++(f++FB.flatten)).Perm (f++(FA++FB).flatten):=by
  rw [List.flatten_append,← List.append_assoc,← List.append_assoc]
  exact List.Perm.append_right _ List.perm_append_comm
 refine List.Perm.trans ?_ p1.symm
 rw [e2]
 simp only [List.flatten_append,List.flatten_cons,List.append_assoc]
 have:=perm_mid (FA2.flatten++H0) rs1.flatten rs2.flatten FB2.flatten f
 simpa [List.append_assoc] using this
def IsO {α:Type} (D:Od α) (A:TypeId) (xs:List α) (H:SH) (t:Nat):Prop:=lookH H t=some (.ex (pO D A xs) [])∨∃i x u,lookH H t=some (.ex (pH D A xs i x) [.sl u])
def OB {α:Type} (D:Od α) (A:TypeId) (xs:List α):Option (Int×α×Nat)→Blk
 | none=>.ex (pO D A xs) []
 | some (i,x,u)=>.ex (pH D A xs i x) [.sl u]
theorem IsO.of {xs:List α} {H:SH} {t:Nat}:∀{q:Option (Int×α×Nat)},lookH H t=some (OB D A xs q)→IsO D A xs H t
 | none,h=>.inl h
 | some (i,x,u),h=>.inr ⟨i,x,u,h⟩
theorem IsO.get {xs:List α} {L:SL} {H:SH} {n t:Nat} {ρ:Env} {F:List Blocks} (o:Ok c ρ F ⟨L,H,n⟩) (h:IsO D A xs H t) :
  ∃sp cap,∃zs:List (α×Sl),ρ t=some ⟨sp,cap,xs.length⟩∧zs.length=xs.length∧∀L' Fx a w,Sat c.toCx L' ⟨[],F++Fx⟩ a w→RdS D.E w sp zs:=by
 rcases h with h | ⟨i,x,u,h⟩
 ·obtain ⟨FA,f,FB,rfl,⟨l,vs,q1,q2,q3,sls,H0,rs,h1,h2,h3,rfl⟩,_,_⟩:=o.reps.look h
  refine ⟨l.sp,l.cap,xs.zip sls,by rw [q1,← q3],by simp [h1],fun L' Fx a w s=>h2.rdm s fun p hp=>?_⟩
  simp only [Hp.all,List.nil_append,List.flatten_append,List.flatten_cons,List.mem_append]
  exact .inl (.inr (.inl (.inl hp)))
 obtain ⟨FA,f,FB,rfl,⟨l,vs,q1,q2,sls,H0,rs1,rs2,s,q3,q4,q5,rfl,q7,q8,rfl⟩,_,_⟩:=o.reps.look h
 refine ⟨l.sp,l.cap,(xs.zip sls).set i.toNat (x,s),by rw [q1,← q3],by simp [q5],fun L' Fx a w s=>q7.rdm s fun p hp=>?_⟩
 simp only [Hp.all,List.nil_append,List.flatten_append,List.flatten_cons,List.mem_append]
 exact .inl (.inr (.inl (.inl hp)))
end
section
variable {α:Type} [Inhabited α]
def ixOF (D:Od α) (A:TypeId) (xs:List α) (q:Option (Int×α×Nat)):EvF:=fun b L H n op=>match op with
 | .indexAddr X x ix=>match evS L x,evS L ix,lk b.t.und X with
  | some (.sl t),some (.v (.int _ i)),some (.slice A')=>match lk b.t.siz A' with
   | some sz=>bif Nat.beq sz D.E.sz then some ([lookH H t=some (OB D A xs q),inb i xs.length=true],some (.e t i sz 0),H,n) else none
   | none=>none
  | _,_,_=>none
 | _=>none
theorem ixOF_ok {c:C4} {D:Od α} {A:TypeId} {xs:List α} {q:Option (Int×α×Nat)}:EvOk c (ixOF D A xs q):=by
 intro b L H n op cs r H' n' hB h hc dst T pos af g hdr hd
 unfold ixOF at h
 split at h
 ·rename_i X x ix;split at h
  ·rename_i t k i A' hx hi hX;split at h
   ·rename_i sz hs
    cases hb:Nat.beq sz D.E.sz with
    | false=>rw [hb] at h;cases h
    | true =>
     rw [hb,cond_true] at h;cases h
     have e1:=Nat.eq_of_beq_eq_true hb;subst e1
     obtain ⟨c1,c2⟩:=allP_cons hc
     have c1:=IsO.of c1
     have c2:inb i xs.length=true:=c2
     cases dst with
     | none=>simp at hdr
     | some d =>
      refine ⟨rfl,OT.ofTX hd fun ρ F Fx o Lr hLr Q hk=>?_⟩
      obtain ⟨vx,x1,x2⟩:=evS_ok o.dens hx
      obtain ⟨vi,i1,i2⟩:=evS_ok o.dens hi
      obtain ⟨sp,cap,zs,r1,r2,r3⟩:=c1.get o
      rw [SV.den,r1] at x1;cases x1
      rw [SV.den] at i1;cases i1
      exact TX.indexR (N:=D.E) (xs:=zs) (hB.t.und.mem _ (lk_mem hX)) (hB.t.siz.mem _ (lk_mem hs)) (ev_ext hLr x2) r2 (ev_ext hLr i2) (fun a w s=>r3 _ Fx a w s) (by rw [r2];exact c2) hd
       (hk ρ F _ o.grow0 (by rw [Option.getD_some,SV.den,r1];simp only [Option.bind_some];rw [c2];rfl) o.reps)
   cases h
  cases h
 cases h
def Ev.io {c:C4} (D:Od α) (A:TypeId) (xs:List α) (q:Option (Int×α×Nat)):Ev c:=.ot (ixOF D A xs q) ixOF_ok
def lnOF (D:Od α) (A:TypeId) (xs:List α) (q:Option (Int×α×Nat)):EvF:=fun b L H n op=>match op with
 | .call ⟨.builtin .len,args,ts⟩=>match args.toList,ts.toList with
  | [x],[X]=>match evS L x,lk b.t.und X with
   | some (.sl t),some (.slice _)=>some ([lookH H t=some (OB D A xs q)],some (.v (.int .i64 (xs.length:Int))),H,n)
   | _,_=>none
  | _,_=>none
 | _=>none
theorem lnOF_ok {c:C4} {D:Od α} {A:TypeId} {xs:List α} {q:Option (Int×α×Nat)}:EvOk c (lnOF D A xs q):=by
 intro b L H n op cs r H' n' hB h hc dst T pos af g hdr hd
 unfold lnOF at h
 split at h
 ·rename_i args tys;split at h
  ·rename_i x X hargs htys;split at h
   ·rename_i t A' hx hX;cases h
    have c0:lookH H t=some (OB D A xs q):=hc
    have c1:=IsO.of c0
    cases dst with
    | none=>simp at hdr
    | some d =>
     refine ⟨rfl,OT.ofTX hd fun ρ F Fx o Lr hLr Q hk=>?_⟩
     obtain ⟨vx,x1,x2⟩:=evS_ok o.dens hx
     obtain ⟨sp,cap,zs,r1,r2,r3⟩:=c1.get o
     rw [SV.den,r1] at x1;cases x1
     have ea:args=#[x]:=by cases args;simpa using hargs
     have et:tys=#[X]:=by cases tys;simpa using htys
     subst ea;subst et
     exact TX.lenS (xs:=xs) (hB.t.und.mem _ (lk_mem hX)) (ev_ext hLr x2) rfl hd (hk ρ F _ o.grow0 (by rw [Option.getD_some,SV.den]) o.reps)
   cases h
  cases h
 cases h
def Ev.no {c:C4} (D:Od α) (A:TypeId) (xs:List α) (q:Option (Int×α×Nat)):Ev c:=.ot (lnOF D A xs q) lnOF_ok
end
theorem getL_of {vs:List Value} {o:Nat} {v:Value} (h:vs[o]?=some v):getL vs o=some v:=by
 induction vs generalizing o with
 | nil=>simp at h
 | cons x l ih =>
  cases o with
  | zero=>simpa [getL] using h
  | succ o=>simp only [getL];exact ih (by simpa using h)
section
variable {α:Type} [Inhabited α]
theorem its_cell {D:Od α} {x:α} {s:Sl} {off:Nat} {v:Value} (h:getI (D.its x (.sl 0)) off=some (.v v)):getL (D.E.enc (x,s)) off=some v:=by
 obtain ⟨u,e1,e2⟩:=getI_spec (ρ:=fun _=>some ⟨s.1,s.2.2,s.2.1⟩) h (D.hits _ x 0 s rfl)
 rw [SV.den] at e1;cases e1
 exact getL_of e2
def lpOF (D:Od α) (A:TypeId) (xs:List α):EvF:=fun b L H n op=>match op with
 | .load A0 x=>match evS L x,lk b.t.agg A0 with
  | some (.e t i sz off),some false=>match getI (D.its (gt xs i) (.sl 0)) off with
   | some (.v v)=>bif Nat.beq sz D.E.sz then some ([lookH H t=some (.ex (pO D A xs) []),inb i xs.length=true],some (.v v),H,n) else none
   | _=>none
  | _,_=>none
 | _=>none
theorem lpOF_ok {c:C4} {D:Od α} {A:TypeId} {xs:List α}:EvOk c (lpOF D A xs):=by
 intro b L H n op cs r H' n' hB h hc dst T pos af g hdr hd
 unfold lpOF at h
 split at h
 ·rename_i A0 x;split at h
  ·rename_i t i sz off hx hag;split at h
   ·rename_i v hv
    cases hb:Nat.beq sz D.E.sz with
    | false=>rw [hb] at h;cases h
    | true =>
     rw [hb,cond_true] at h;cases h
     have e1:=Nat.eq_of_beq_eq_true hb;subst e1
     obtain ⟨c1,c2⟩:=allP_cons hc
     have c2:inb i xs.length=true:=c2
     cases dst with
     | none=>simp at hdr
     | some d =>
      refine ⟨rfl,OT.ofTX hd fun ρ F Fx o Lr hLr Q hk=>?_⟩
      obtain ⟨vx,x1,x2⟩:=evS_ok o.dens hx
      obtain ⟨FA,f,FB,rfl,⟨l,vs,q1,q2,q3,sls,H0,rs,h1,h2,h3,rfl⟩,_,_⟩:=o.reps.look c1
      rw [SV.den,q1] at x1
      simp only [Option.bind_some] at x1
      rw [show inb i l.len=true from by rw [q3];exact c2,cond_true] at x1;cases x1
      have hzl:(xs.zip sls).length=xs.length:=by simp [h1]
      have hkz:inb i (xs.zip sls).length=true:=by rw [hzl];exact c2
      have hz:gt (xs.zip sls) i=(gt xs i,gt sls i):=by
       have a1:=gt_some hkz
       have a2:=gt_some c2
       have a3:=gt_some (xs:=sls) (i:=i) (by rw [h1];exact c2)
       rw [(List.getElem?_zip_eq_some (z:=(gt xs i,gt sls i))).2 ⟨a2,a3⟩] at a1
       exact (Option.some.inj a1).symm
      refine TX.loadR1 (N:=D.E) (xs:=xs.zip sls) (hB.t.agg.mem _ (lk_mem hag)) (ev_ext hLr x2) (fun a w s=>h2.rdm s fun p hp=>?_) hkz (by rw [hz];exact its_cell hv) hd (hk ρ _ _ o.grow0 (by rw [Option.getD_some,SV.den]) o.reps)
      simp only [Hp.all,List.nil_append,List.flatten_append,List.flatten_cons,List.mem_append]
      exact .inl (.inr (.inl (.inl hp)))
   cases h
  cases h
 cases h
def Ev.lp {c:C4} (D:Od α) (A:TypeId) (xs:List α):Ev c:=.ot (lpOF D A xs) lpOF_ok
def lhOF (D:Od α) (A:TypeId) (xs:List α) (i0:Int) (x0:α):EvF:=fun b L H n op=>match op with
 | .load A0 x=>match evS L x,lk b.t.agg A0 with
  | some (.e t i sz off),some false=>match lookH H t with
   | some (.ex _ [.sl u])=>match getI (D.its x0 (.sl u)) off with
    | some r=>bif Nat.beq sz D.E.sz then some ([lookH H t=some (.ex (pH D A xs i0 x0) [.sl u]),i=i0],some r,H,n) else none
    | none=>none
   | _=>none
  | _,_=>none
 | _=>none
theorem lhOF_ok {c:C4} {D:Od α} {A:TypeId} {xs:List α} {i0:Int} {x0:α}:EvOk c (lhOF D A xs i0 x0):=by
 intro b L H n op cs r H' n' hB h hc dst T pos af g hdr hd
 unfold lhOF at h
 split at h
 ·rename_i A0 x;split at h
  ·rename_i t i sz off hx hag;split at h
   ·rename_i p0 u hlk;split at h
    ·rename_i r0 hv
     cases hb:Nat.beq sz D.E.sz with
     | false=>rw [hb] at h;cases h
     | true =>
      rw [hb,cond_true] at h;cases h
      have e1:=Nat.eq_of_beq_eq_true hb;subst e1
      obtain ⟨c1,c2⟩:=allP_cons hc
      have c2:i=i0:=c2
      subst c2
      cases dst with
      | none=>simp at hdr
      | some d =>
       refine ⟨rfl,OT.ofTX hd fun ρ F Fx o Lr hLr Q hk=>?_⟩
       obtain ⟨vx,x1,x2⟩:=evS_ok o.dens hx
       obtain ⟨FA,f,FB,rfl,⟨l,vs,q1,q2,sls,H0,rs1,rs2,s,q3,q4,q5,rfl,q7,q8,rfl⟩,_,_⟩:=o.reps.look c1
       rw [SV.den,q1] at x1
       simp only [Option.bind_some] at x1
       rw [show inb i l.len=true from by rw [q3];exact q4,cond_true] at x1;cases x1
       obtain ⟨lu,u1,u2⟩:∃lu,ρ u=some lu∧lu=⟨s.1,s.2.2,s.2.1⟩:=by
        rw [dens_cons_some] at q2
        obtain ⟨v1,r1,d1,d2,d3⟩:=q2
        rw [dens_nil] at d2;cases d2
        rw [deni_na rfl,SV.den] at d1
        cases hu:ρ u with
        | none=>rw [hu] at d1;cases d1
        | some lu =>
         rw [hu] at d1;cases d1
         simp only [List.append_nil,List.cons.injEq,Value.slice.injEq,and_true] at d3
         obtain ⟨a,b,e⟩:=d3
         refine ⟨lu,rfl,?_⟩
         cases lu;simp_all
       subst u2
       obtain ⟨v,e1,e2⟩:=getI_spec hv (D.hits ρ x0 u s u1)
       have hzl:((xs.zip sls).set i.toNat (x0,s)).length=xs.length:=by simp [q5]
       have hkz:inb i ((xs.zip sls).set i.toNat (x0,s)).length=true:=by rw [hzl];exact q4
       have hz:gt ((xs.zip sls).set i.toNat (x0,s)) i=(x0,s):=by
        have a1:=gt_some hkz
        have:=(inb_iff.1 q4)
        rw [List.getElem?_set_self (by simp [q5];omega)] at a1
        exact (Option.some.inj a1).symm
       refine TX.loadR1 (N:=D.E) (xs:=(xs.zip sls).set i.toNat (x0,s)) (hB.t.agg.mem _ (lk_mem hag)) (ev_ext hLr x2) (fun a w s=>q7.rdm s fun p hp=>?_) hkz (by rw [hz];exact getL_of e2) hd (hk ρ _ _ o.grow0 (by rw [Option.getD_some];exact e1) o.reps)
       simp only [Hp.all,List.nil_append,List.flatten_append,List.flatten_cons,List.mem_append]
       exact .inl (.inr (.inl (.inl hp)))
    cases h
   cases h
  cases h
 cases h
def Ev.lh {c:C4} (D:Od α) (A:TypeId) (xs:List α) (i0:Int) (x0:α):Ev c:=.ot (lhOF D A xs i0 x0) lhOF_ok
def shOF (D:Od α) (A:TypeId) (xs:List α) (i0:Int) (x0 x1:α) (u1:Nat) (r:List D.β) (m:Nat) (kk:NK):EvF:=fun b L H n op=>match op with
 | .store A0 x y=>match evS L x,evS L y,lk b.t.siz A0 with
  | some (.e t i sz off),some v,some k=>match lookH H t with
   | some (.ex _ [.sl u])=>bif Nat.beq sz D.E.sz&&oneI (itemsS v)&&Nat.beq (sizeI (itemsS v)) k then
     some ([lookH H t=some (.ex (pH D A xs i0 x0) [.sl u]),i=i0,pasteI (D.its x0 (.sl u)) off k (itemsS v)=some (D.its x1 (.sl u1)),lookH H u1=some (@Blk.row _ D.ib D.N D.e r m kk)],none,repH H t t (.ex (pH D A xs i0 x1) [.sl u1]),n) else none
   | _=>none
  | _,_,_=>none
 | _=>none
theorem shOF_ok {c:C4} {D:Od α} {A:TypeId} {xs:List α} {i0:Int} {x0 x1:α} {u1:Nat} {r:List D.β} {m:Nat} {kk:NK}:EvOk c (shOF D A xs i0 x0 x1 u1 r m kk):=by
 intro b L H n op cs r H' n' hB h hc dst T pos af g hdr hd
 unfold shOF at h
 split at h
 ·rename_i A0 x y;split at h
  ·rename_i t i sz off v k hx hy hs;split at h
   ·rename_i p0 u hlk
    cases hb:Nat.beq sz D.E.sz&&oneI (itemsS v)&&Nat.beq (sizeI (itemsS v)) k with
    | false=>rw [hb] at h;cases h
    | true =>
     rw [hb,cond_true] at h;cases h
     simp only [Bool.and_eq_true] at hb
     obtain ⟨⟨b1,b2⟩,b3⟩:=hb
     have e1:=Nat.eq_of_beq_eq_true b1;subst e1
     obtain ⟨c1,c2⟩:=allP_cons hc
     obtain ⟨c2,c3⟩:=allP_cons c2
     obtain ⟨c3,c4⟩:=allP_cons c3
     subst c2
     have c4:∃(r:List D.β) (m:Nat) (kk:NK),lookH H u1=some (@Blk.row _ D.ib D.N D.e r m kk):=⟨r,m,kk,c4⟩
     have hdn:dst=none:=by cases dst <;> simp_all
     subst hdn
     refine ⟨rfl,OT.ofTX hd fun ρ F Fx o Lr hLr Q hk=>?_⟩
     obtain ⟨vx,x1',x2⟩:=evS_ok o.dens hx
     obtain ⟨vy,y1,y2⟩:=evS_ok o.dens hy
     obtain ⟨us,e5,e6⟩:=itemsS_ok y1 b2
     obtain ⟨ru,mu,ku,hbu⟩:=c4
     obtain ⟨lu1,hlu1⟩:∃lu1,ρ u1=some lu1:=by
      obtain ⟨FA,f,FB,_,⟨sp,cap,hr,_⟩,_,_⟩:=o.reps.look hbu
      exact ⟨_,hr⟩
     obtain ⟨FA,f,FB,rfl,⟨l,vs,q1,q2,sls,H0,rs1,rs2,s,q3,q4,q5,rfl,q7,q8,rfl⟩,hrep,_⟩:=o.reps.look c1
     rw [SV.den,q1] at x1'
     simp only [Option.bind_some] at x1'
     rw [show inb i l.len=true from by rw [q3];exact q4,cond_true] at x1';cases x1'
     obtain ⟨lu,u2,u3⟩:∃lu,ρ u=some lu∧lu=⟨s.1,s.2.2,s.2.1⟩:=by
      rw [dens_cons_some] at q2
      obtain ⟨v1,r1,d1,d2,d3⟩:=q2
      rw [dens_nil] at d2;cases d2
      rw [deni_na rfl,SV.den] at d1
      cases hu:ρ u with
      | none=>rw [hu] at d1;cases d1
      | some lu =>
       rw [hu] at d1;cases d1
       simp only [List.append_nil,List.cons.injEq,Value.slice.injEq,and_true] at d3
       obtain ⟨a,b,e⟩:=d3
       refine ⟨lu,rfl,?_⟩
       cases lu;simp_all
     subst u3
     have hsz:us.length=k:=by rw [dens_size e5];exact Nat.eq_of_beq_eq_true b3
     have hits0:=D.hits ρ x0 u s u2
     have hits1:=D.hits ρ x1 u1 (lu1.sp,lu1.len,lu1.cap) (by rw [hlu1])
     obtain ⟨p1,p2⟩:=pasteI_spec c3 hits0 e5
     rw [hits1] at p1
     have hzl:((xs.zip sls).set i.toNat (x0,s)).length=xs.length:=by simp [q5]
     have hkz:inb i ((xs.zip sls).set i.toNat (x0,s)).length=true:=by rw [hzl];exact q4
     have hki:=inb_iff.1 q4
     have hz:gt ((xs.zip sls).set i.toNat (x0,s)) i=(x0,s):=by
      have a1:=gt_some hkz
      rw [List.getElem?_set_self (by simp [q5];omega)] at a1
      exact (Option.some.inj a1).symm
     have hp:(⟨[],FA++H0::((rs1++rs2).flatten::(FB++Fx))⟩:Hp).all.Perm (⟨[],FA++(H0++(rs1++rs2).flatten)::FB++Fx⟩:Hp).all:=by
      simp only [Hp.all,List.nil_append,List.flatten_append,List.flatten_cons,List.append_assoc,List.cons_append];exact List.Perm.refl _
     refine TX.permL hp.symm (TX.storeS (N:=D.E) (si:=FA.length) (xs:=(xs.zip sls).set i.toNat (x0,s)) (u:=(x1,(lu1.sp,lu1.len,lu1.cap))) (E:=[]) (hB.t.siz.mem _ (lk_mem hs)) (ev_ext hLr x2) (ev_ext hLr y2) e6 hsz (oneI_ok b2 e5) getS_app q7 hkz ?_ (fun Hs' S' hS ho=>?_))
     ·rw [hz,pasteL_some (by omega),hsz];exact p1.symm
     rw [setS_app] at hS;cases hS
     rw [List.set_set] at ho
     have hR:=hrep ρ t (.ex (pH D A xs i x1) [.sl u1]) (Hs'++(rs1++rs2).flatten) (Env.le_refl _) ⟨l,[.slice lu1.sp lu1.len lu1.cap],q1,denAll_dens (l:=[.sl u1]) ⟨by rw [SV.den,hlu1];rfl,trivial⟩,sls,Hs',rs1,rs2,(lu1.sp,lu1.len,lu1.cap),q3,q4,q5,rfl,ho,q8,rfl⟩
     have:=hk ρ (FA++(Hs'++(rs1++rs2).flatten)::FB) undef o.grow0 (by rw [Option.getD_none,SV.den]) hR
     refine TO.perm ?_ (by simpa [putS] using this)
     simp only [Hp.all,List.nil_append,List.flatten_append,List.flatten_cons,List.append_assoc,List.cons_append];exact List.Perm.refl _
   cases h
  cases h
 cases h
def Ev.sh {c:C4} (D:Od α) (A:TypeId) (xs:List α) (i0:Int) (x0 x1:α) (u1:Nat) (r:List D.β) (m:Nat) (kk:NK):Ev c:=.ot (shOF D A xs i0 x0 x1 u1 r m kk) shOF_ok
end
theorem Reps.out {c:Cx} {ρ:Env} {H:SH} {F:List Blocks} {t:Nat} {b:Blk} (h:Reps c ρ H F) (hl:lookH H t=some b):∃f G,Rep c ρ t b f∧Reps c ρ (delH H t) G∧F.flatten.Perm (f++G.flatten):=by
 obtain ⟨FA,f,FB,rfl,h1,_,h2⟩:=h.look hl
 refine ⟨f,FA++FB,h1,h2,?_⟩
 have:=(List.perm_middle (l₁:=FA) (a:=f) (l₂:=FB)).flatten
 simpa using this
section
variable {α:Type} [Inhabited α]
theorem zip_snoc {α β:Type}:∀{xs:List α} {ys:List β} (a:α) (b:β),ys.length=xs.length→(xs++[a]).zip (ys++[b])=xs.zip ys++[(a,b)]
 | [],[],_,_,_=>rfl
 | [],_::_,_,_,h=>by simp at h
 | _::_,[],_,_,h=>by simp at h
 | x::xs,y::ys,a,b,h=>by simp [zip_snoc (xs:=xs) (ys:=ys) a b (by simpa using h)]
def aOF (D:Od α) (A:TypeId) (xs:List α) (x1:α) (r:List D.β) (m:Nat) (kk:NK) (w u:Nat) (T0:TypeId):EvF:=fun b L H n op=>match op with
 | .call ⟨.builtin .append,args,ts⟩=>match args.toList,ts.toList with
  | [x,y],[X,X']=>match evS L x,evS L y,lk b.t.und X with
   | some (.sl t),some (.sl v),some (.slice A')=>match lk b.i.inf A' with
    | some (sz,by',_)=>bif Nat.beq X X'&&Nat.beq A A'&&Nat.beq sz D.E.sz then
      some ([lookH H v=some (.ex pS1 [.p w 0]),lookH (delH H v) w=some (.cells T0 (D.its x1 (.sl u))),lookH (delH (delH H v) w) u=some (@Blk.row _ D.ib D.N D.e r m kk),lookH (delH (delH (delH H v) w) u) t=some (.ex (pO D A xs) []),appHyp by' xs.length 1=true],
       some (.sl n),(n,.ex (pO D A (xs++[D.put x1 r])) [])::delH (delH (delH (delH H v) w) u) t,n+1) else none
    | _=>none
   | _,_,_=>none
  | _,_=>none
 | _=>none
theorem aOF_ok {c:C4} {D:Od α} {A:TypeId} {xs:List α} {x1:α} {r:List D.β} {m:Nat} {kk:NK} {w u:Nat} {T0:TypeId}:EvOk c (aOF D A xs x1 r m kk w u T0):=by
 intro b L H n op cs r0 H' n' hB h hc dst T pos af g hdr hd
 unfold aOF at h
 split at h
 ·rename_i args tys;split at h
  ·rename_i x y X X' hargs htys;split at h
   ·rename_i t v A' hx hy hX;split at h
    ·rename_i sz by' zi hinf
     cases hb:Nat.beq X X'&&Nat.beq A A'&&Nat.beq sz D.E.sz with
     | false=>rw [hb] at h;cases h
     | true =>
      rw [hb,cond_true] at h;cases h
      simp only [Bool.and_eq_true] at hb
      obtain ⟨⟨b1,b2⟩,b3⟩:=hb
      have e1:=Nat.eq_of_beq_eq_true b1;subst e1
      have e2:=Nat.eq_of_beq_eq_true b2;subst e2
      have e3:=Nat.eq_of_beq_eq_true b3;subst e3
      obtain ⟨c1,c2⟩:=allP_cons hc
      obtain ⟨c2,c3⟩:=allP_cons c2
      obtain ⟨T',c2⟩:∃T',lookH (delH H v) w=some (.cells T' (D.its x1 (.sl u))):=⟨T0,c2⟩
      obtain ⟨c3,c4⟩:=allP_cons c3
      obtain ⟨c4,c5⟩:=allP_cons c4
      have c5:appHyp by' xs.length 1=true:=c5
      cases dst with
      | none=>simp at hdr
      | some d =>
       refine ⟨rfl,OT.ofTX hd fun ρ F Fx o Lr hLr Q hk=>?_⟩
       obtain ⟨info,zv,vs0,i1,i2,i3,i4,i5,i6,i7⟩:=hB.i.inf.mem _ (lk_mem hinf)
       obtain ⟨vx,x1',x2⟩:=evS_ok o.dens hx
       obtain ⟨vy,y1,y2⟩:=evS_ok o.dens hy
       obtain ⟨f1,G1,⟨lv,vs1,p1,p2,gg,p3,p4,rfl⟩,d1,m1⟩:=o.reps.out c1
       obtain ⟨f2,G2,⟨bw,vs2,w1,w2,rfl⟩,d2,m2⟩:=d1.out c2
       obtain ⟨f3,G3,⟨sp1,cap1,u1,u2,u3,_⟩,d3,m3⟩:=d2.out c3
       obtain ⟨f4,G4,⟨l,vs4,q1,q2,q3,sls,H0,rs,h1,h2,h3,rfl⟩,d4,m4⟩:=d3.out c4
       have hgw:bw=gg:=by
        rw [p3] at p2
        rw [dens_cons_some] at p2
        obtain ⟨v1,r1,e1,e2,e3⟩:=p2
        rw [dens_nil] at e2;cases e2
        rw [deni_na rfl,SV.den,w1] at e1;cases e1
        simp at e3;exact e3.symm
       subst hgw
       rw [SV.den,q1] at x1';cases x1'
       rw [SV.den,p1,p4] at y1;cases y1
       have hits:=D.hits ρ x1 u (sp1,m,cap1) (by rw [u1])
       rw [hits] at w2;cases w2
       have ea:args=#[x,y]:=by cases args;simpa using hargs
       have et:tys=#[X,X]:=by cases tys;simpa using htys
       subst ea;subst et
       have hzl:(xs.zip sls).length=xs.length:=by simp [h1]
       have hp:(⟨[],H0::(rs.flatten::f3::[(bw,Obj.cells (D.E.enc (x1,(sp1,m,cap1))).toArray T' (0,0))]::(G4++Fx))⟩:Hp).all.Perm (⟨[],F++Fx⟩:Hp).all:=by
        simp only [Hp.all,List.nil_append,List.flatten_append,List.flatten_cons]
        rw [← List.append_assoc,← List.append_assoc,← List.append_assoc,← List.append_assoc]
        refine List.Perm.append_right _ ?_
        refine List.Perm.trans ?_ m1.symm
        refine List.Perm.trans ?_ (List.Perm.append_left [] m2.symm)
        simp only [List.nil_append]
        refine List.Perm.trans ?_ (List.Perm.append_left _ m3.symm)
        refine List.Perm.trans ?_ (List.Perm.append_left _ (List.Perm.append_left _ m4.symm))
        simp only [List.append_assoc]
        have:=perm_mid (H0++rs.flatten) f3 [] G4.flatten [(bw,Obj.cells (D.E.enc (x1,(sp1,m,cap1))).toArray T' (0,0))]
        refine List.Perm.trans ?_ (List.Perm.append_left _ (perm_mid H0 rs.flatten G4.flatten [] f3 |> fun h=>by simpa [List.append_assoc] using h))
        simpa [List.append_assoc] using this
       refine TX.permL hp.symm (TX.appendS (N:=D.E) (si:=0) (xs:=xs.zip sls) (ys:=[(x1,(sp1,m,cap1))]) (E:=[]) (S:=H0::(rs.flatten::f3::[(bw,Obj.cells (D.E.enc (x1,(sp1,m,cap1))).toArray T' (0,0))]::(G4++Fx))) (hB.t.und.mem _ (lk_mem hX)) i1 i2 (by rw [i5,List.size_toArray];exact i7) i3 i4 (ev_ext hLr x2) (by rw [hzl,q3]) (ev_ext hLr y2) rfl rfl h2 (fun a w sa=>?_) (by rw [hzl];exact c5) hd (fun sp' cap' Hs' S' hS ho=>?_))
       ·have hb:w.heap[bw]?=some (.cells (D.E.enc (x1,(sp1,m,cap1))).toArray T' (0,0)):=sa.heap (bw,_) (by simp [Hp.all])
        refine ⟨(by decide:1≤maxLen),.inr ⟨⟨bw,0,none⟩,rfl,rfl,fun k x hk j v hj=>?_⟩⟩
        cases k with
        | zero =>
         simp at hk;subst hk
         simp only [World.cell?,hb]
         simpa using hj
        | succ k=>simp at hk
       cases hS
       have e1:(xs.zip sls++[(x1,(sp1,m,cap1))]).length=(xs++[D.put x1 r]).length:=by simp [h1]
       rw [e1]
       have hg:=Env.set_grow (ρ:=ρ) (n:=n) (l:=⟨sp',cap',(xs++[D.put x1 r]).length⟩) o.fr
       have hle:=hg.toLe o.fr
       have hown:OwnL D.E A sp' cap' ((xs++[D.put x1 r]).zip (sls++[(sp1,m,cap1)])) Hs':=by
        rw [zip_snoc _ _ h1]
        exact ho.cells (by simp) (by simp [D.eput])
       have hall:InAll D.N.toEn D.e (sls++[(sp1,m,cap1)]) ((xs++[D.put x1 r]).map D.g) (rs++[f3]):=by
        rw [List.map_append,List.map_singleton,D.gput];exact h3.snoc u3 u2
       have:=hk (ρ.set n ⟨sp',cap',(xs++[D.put x1 r]).length⟩) ((Hs'++(rs++[f3]).flatten)::G4) (.slice sp' (xs++[D.put x1 r]).length cap') hg (by rw [Option.getD_some,SV.den,Env.set_self];rfl)
        ⟨_,_,rfl,⟨⟨sp',cap',(xs++[D.put x1 r]).length⟩,[],Env.set_self,dens_nil,rfl,sls++[(sp1,m,cap1)],Hs',rs++[f3],by simp [h1],hown,hall,rfl⟩,d4.mono hle⟩
       refine fun a w sa=>this a w (sa.weak (fun _ _ h=>by simpa [putS] using h) ?_)
       simp only [Hp.all,List.nil_append,List.flatten_append,List.flatten_cons,List.cons_append,List.flatten_nil,List.append_nil,List.append_assoc]
       refine List.Sublist.append_left (l:=Hs') (List.Sublist.append_left (l:=rs.flatten) (List.Sublist.append_left (l:=f3) ?_))
       exact List.Sublist.cons _ (List.Sublist.refl _)
    cases h
   cases h
  cases h
 cases h
def Ev.ao {c:C4} (D:Od α) (A:TypeId) (xs:List α) (x1:α) (r:List D.β) (m:Nat) (kk:NK) (w u:Nat) (T0:TypeId):Ev c:=.ot (aOF D A xs x1 r m kk w u T0) aOF_ok
end
def upB (l:List Oper):Nat→(Nat→Bool)→Bool
 | 0,_=>true
 | i+1,A=>A i&&(match l[i]? with | some o=>upB l i (fun t=>A t||bindsOn o t) | none=>false)
theorem upB_ok {l:List Oper} {S:Nat→Bool} (hS:∀(j:Nat) (o:Oper) (i:Nat),S j=true→l[j]?=some o→bindsOn o i=true→S i=true):∀{i:Nat} {A:Nat→Bool},upB l i A=true→(∀t,A t=true→S t=true)→∀t,t < i→S t=true
 | 0,A,_,_,t,ht=>by omega
 | i+1,A,h,hA,t,ht=>by
  simp only [upB,Bool.and_eq_true] at h
  obtain ⟨h1,h2⟩:=h
  have hi:=hA i h1
  split at h2
  ·rename_i o ho
   rcases Nat.lt_or_ge t i with h3 | h3
   ·refine upB_ok hS h2 (fun u hu=>?_) t h3
    simp only [Bool.or_eq_true] at hu
    rcases hu with hu | hu
    ·exact hA u hu
    exact hS i o u hi ho hu
   have:t=i:=by omega
   rw [this];exact hi
  cases h2
def dnB (j:Nat) (o:Oper):Bool:=o.after.toList.any fun e=>Region.binds .any e&&Nat.ble j e.on
def gdB (o:Oper) (j:Nat):Bool:=match o.guard with | some (i,_)=>Nat.blt i j | none=>true
section
variable {c:C4} {Q:Exit→Act→World→Prop}
theorem DRX {b:TB} (hB:TBOk c.P b) (hmx:c.P.follows .mixedOrders=true) {id:Nat} {ops:Array Oper} {K:List Fr} {L:SL} {H:SH} {n:Nat} {s':St} (kp:List Nat) (ts:List (List Nat×List Nat)) (es:List (Ev c)) {cs:List Prop} (hc:allP cs)
  {l1 l2:List Oper} {o:Oper} (hl:ops.toList=l1++o::l2) (hup:upB l1 l1.length (fun t=>bindsOn o t)=true) (hdn:l2.all (dnB l1.length)=true) (hgd:l1.all (fun x=>gdB x l1.length)=true) (hback:backB (l1++o::l2) 0=true)
  (h:drawR b kp c.n l1 L H n ts es=some (cs,s')) (hog:o.guard=none) (hon:notDefer o.op=true) {ch:List PanicEntry} {H2:SH} {n2:Nat} (hox:OX c o s' (.panic ch) H2 n2)
  (g:G4 c Q (.exit (.panic ch) []) ⟨s'.L,H2,n2⟩):G4 c Q (.code (.region id ops true) K) ⟨L,H,n⟩:=by
 intro ρ F a w hs
 obtain ⟨l0⟩:=ops
 simp only at hl
 subst hl
 unfold drawR at h
 obtain ⟨Ld,Lc,hk,hmem0⟩:=partL_ok h
 have hmem:∀p,p∈Ld∨p∈Lc→lookV L p.1=some p.2:=fun p hp=>(hmem0 p hp).2
 cases hb1:backB l1 0&&ltL n L&&ltH n H&&ndK (tagsH H) with
 | false=>rw [hb1] at hk;cases hk
 | true =>
  rw [hb1,cond_true] at hk
  simp only [Bool.and_eq_true] at hb1
  obtain ⟨⟨⟨h1,h2⟩,h3⟩,h4⟩:=hb1
  split at hk
  ·rename_i cs1 X H' n' hpl
   cases hb2:chainN X n n'&&entsOk c.n Lc X (clsX X) l1 X 0&&ltH n' H'&&ndK (tagsH H') with
   | false=>rw [hb2] at hk;cases hk
   | true =>
    rw [hb2,cond_true,fLs_eq] at hk;cases hk
    simp only [Bool.and_eq_true] at hb2
    obtain ⟨⟨⟨h5,h6⟩,h7⟩,h8⟩:=hb2
    rw [tagsH_eq] at h4 h8
    have hnd:=ndK_ok h4
    have hnd':=ndK_ok h8
    obtain ⟨A,hver⟩:=DAll.of hB hmem h1 h2 h3 hs.ok.mle hpl hc h5 h6
    obtain ⟨c1,c2,c3⟩:=chainN_ok h5
    have hlen:X.length=l1.length:=by simpa using A.len
    -- at the start
    obtain ⟨φ,f1,f2⟩:=Reps.foot hs.ok.reps hnd
    have hk0:∀t∈H.map (·.1),t < n':=fun t ht=>by
     obtain ⟨p,hp,rfl⟩:=List.mem_map.1 ht
     have:=(ltH_mem h3 p hp).1;omega
    have I0:DInv c ⟨l1,X.map (·.e),H,Lc,Ld,n,n'⟩ (fun _=>false) a { w with drawn:=w.drawn+1 } ρ (fun t=>if memN (H.map (·.1)) t then φ t else []):=by
     have hslot:∀p,p∈Ld∨p∈Lc→p.2.den ρ=some (a.tmps.getD p.1 undef):=fun p hp=>by
      obtain ⟨v,e1,e2⟩:=hs.ok.dens.look (hmem p hp)
      rw [e1,hs.sat.slots p.1 v e2]
     refine ⟨fun p hp=>hslot p (.inr hp),fun p hp=>⟨⟨_,hslot p (.inl hp)⟩,fun _=>hslot p (.inl hp)⟩,fun j e d _ hj=>(by cases hj),fun t ht=>hs.ok.fr t (by simp only at ht ⊢;omega),fun j e he _ t ht1 ht2=>?_,hs.ok.pin,fun t=>?_,?_⟩
     ·obtain ⟨x,hx,rfl⟩:=getE' he
      have:=(c1 j x hx).1
      exact hs.ok.fr t (by simp only at ht1 ⊢;omega)
     ·rw [verL_none]
      show HB c ρ t _ (lookH H t)
      cases hm:memN (H.map (·.1)) t with
      | true =>
       obtain ⟨b',hb'⟩:=lookH_some (memN_iff.1 hm)
       rw [hb'];exact f2 t b' hb'
      | false =>
       rw [lookH_none (fun h=>by rw [memN_iff.2 h] at hm;cases hm)]
       rfl
     have s1:Sat c [] ⟨[],F⟩ a { w with drawn:=w.drawn+1 }:=⟨hs.sat.size,hs.sat.defers,fun t v h=>by simp [look] at h,⟨hs.sat.ext.os,hs.sat.ext.tape,hs.sat.ext.output,hs.sat.ext.size,hs.sat.ext.same⟩,hs.sat.nodup,hs.sat.heap,hs.sat.own⟩
     refine s1.perm ?_
     simp only [Hp.all,List.nil_append]
     refine (foot_split hnd hk0).trans ?_
     have e1:((H.map (·.1)).map fun t=>if memN (H.map (·.1)) t=true then φ t else [])=F:=by
      rw [f1];apply List.map_congr_left;intro t ht;rw [memN_iff.2 ht];rfl
     have e2:(fun t=>if memN (H.map (·.1)) t=true then [] else (if memN (H.map (·.1)) t=true then φ t else []))=fun _:Nat=>([]:Blocks):=by
      funext t;cases memN (H.map (·.1)) t <;> rfl
     rw [e1,e2]
     have e3:∀l:List Nat,(l.map fun _:Nat=>([]:Blocks)).flatten=[]:=fun l=>by induction l with
      | nil=>rfl
      | cons x l ih=>simp [ih]
     rw [e3];simp
    refine wpIn_region_any hmx ?_
    have hb0:backB (l1++o::l2) 0=true:=hback
    refine draw_gen (c:=c.toCx) (fun S a w=>(∃ρ Φ,DInv c ⟨l1,X.map (·.e),H,Lc,Ld,n,n'⟩ S a w ρ Φ)∧∀k,l1.length≤k→S k=false) hb0 ?_ ?_ ?_ _ _ a { w with drawn:=w.drawn+1 } (by simp) ⟨⟨ρ,(fun t=>if memN (H.map (·.1)) t then φ t else []),?_⟩,?_⟩ ?_ ?_
    ·rintro S k o' a w ho hk hcl hp ⟨hI,hJ⟩ K' hK'
     rcases Nat.lt_trichotomy k l1.length with hlt | heq | hgt
     ·have ho1:l1[k]?=some o':=by rw [List.getElem?_append_left hlt] at ho;exact ho
      have hkl:k < X.length:=by rw [hlen];exact hlt
      have hcl1:Closed (c:=c) ⟨l1,X.map (·.e),H,Lc,Ld,n,n'⟩ S:=fun j o2 i hj ho2 hbd=>hcl j o2 i hj (by rw [List.getElem?_append_left (List.getElem?_eq_some_iff.1 ho2).1];exact ho2) hbd
      have st:=DInv.step (D:=⟨l1,X.map (·.e),H,Lc,Ld,n,n'⟩) A hcl1 ho1 (getE (List.getElem?_eq_getElem hkl)) hk hp hI (Q:=QK c.ro c.P Q K) (K:=K') (fun a' w' h'=>hK' a' w' ⟨h',fun k' hk'=>by
       unfold addB
       rw [if_neg (by omega)];exact hJ k' hk'⟩)
      have hw:Region.wanted o' (yielded (l1++o::l2).toArray a.tmps)=Region.wanted o' (yielded l1.toArray a.tmps):=by
       have hg1:=List.all_eq_true.1 hgd o' (List.mem_of_getElem? ho1)
       unfold gdB at hg1
       unfold Region.wanted
       split
       ·rfl
       rename_i j want hgu
       rw [hgu] at hg1
       have hj:j < l1.length:=by simpa [Nat.blt_eq] using hg1
       unfold yielded
       simp [List.getElem?_append_left hj]
      rw [hw];exact st
     ·subst heq
      have hoo:o'=o:=by simpa using ho.symm
      subst hoo
      have hwt:Region.wanted o' (yielded (l1++o'::l2).toArray a.tmps)=true:=by simp [Region.wanted,hog]
      refine ⟨fun _=>?_,fun h0=>by rw [hwt] at h0;cases h0⟩
      have hS:∀k,k < l1.length→S k=true:=upB_ok (l:=l1) (S:=S) (fun j o2 i hj ho2 hbd=>hcl j o2 i hj (by rw [List.getElem?_append_left (List.getElem?_eq_some_iff.1 ho2).1];exact ho2) hbd) hup hp
      obtain ⟨ρ',Φ,I⟩:=hI
      have hvr:∀t,verL S t (X.map (·.e)) 0 (lookH H t)=lookH H' t:=fun t=>by
       rw [← hver t]
       refine verL_congr fun j e' he' _=>?_
       obtain ⟨x,hx,rfl⟩:=getE' he'
       have hj:j < l1.length:=by rw [← hlen];exact (List.getElem?_eq_some_iff.1 hx).1
       rw [Nat.zero_add,hS j hj];simp [hj]
      have hfs:∀p∈finL kp X Lc,p.2.den ρ'=some (a.tmps.getD p.1 undef):=by
       intro p hp
       rcases finL_mem hp with h | ⟨j,x,q1,q2,q3,q4⟩
       ·exact I.sc p h
       have hj:j < l1.length:=by rw [← hlen];exact (List.getElem?_eq_some_iff.1 q1).1
       have:=(I.se j x.e p.1 (getE q1) (hS j hj) q2).1 (by rw [q3];exact fun y hy=>by cases hy)
       rw [q4] at this;exact this
      have hk1:∀t∈H'.map (·.1),t < n':=fun t ht=>by
       obtain ⟨p,hp,rfl⟩:=List.mem_map.1 ht
       exact (ltH_mem h7 p hp).1
      have hs4:Sat4 c ρ' ((H'.map (·.1)).map Φ) ⟨finL kp X Lc,H',n'⟩ a w:=by
       refine ⟨⟨DensL.ofAll fun p hp=>⟨_,hfs p hp⟩,Reps.ofFoot hnd' fun t b' hb'=>?_,I.efr,I.epin,Nat.le_trans hs.ok.mle c3⟩,?_⟩
       ·have:=I.hb t
        rw [hvr t,hb'] at this;exact this
       have s1:Sat c [] ⟨[],(H'.map (·.1)).map Φ⟩ a w:=by
        refine I.sat.perm ?_
        simp only [Hp.all,List.nil_append]
        refine List.Perm.trans ?_ (foot_split (Φ:=Φ) hnd' hk1).symm
        have e2:(fun t=>if memN (H'.map (·.1)) t=true then [] else Φ t)=fun _:Nat=>([]:Blocks):=by
         funext t
         cases hm:memN (H'.map (·.1)) t with
         | true=>rfl
         | false =>
          have h1:=I.hb t
          rw [hvr t,lookH_none (fun h=>by rw [memN_iff.2 h] at hm;cases hm)] at h1
          exact h1
        rw [e2]
        have e3:∀l:List Nat,(l.map fun _:Nat=>([]:Blocks)).flatten=[]:=fun l=>by induction l with
         | nil=>rfl
         | cons x l ih=>simp [ih]
        rw [e3];simp
       exact ⟨s1.size,s1.defers,realL_all hfs,s1.ext,s1.nodup,s1.heap,s1.own⟩
      refine wpIn_of hon (hox ρ' _ [] a w hs4.ok (by simpa using hs4.sat) _ _ ?_)
      intro ρ2 F2 w2 hg hR hSat
      refine QK_panic K a w2 (g ρ2 F2 a w2 ⟨⟨hs4.ok.dens.mono (hg.toLe hs4.ok.fr),hR,hg.fr,fun t ht=>?_,Nat.le_trans hs4.ok.mle hg.le⟩,?_⟩)
      ·rw [hg.old t (Nat.lt_of_lt_of_le ht hs4.ok.mle)];exact hs4.ok.pin t ht
      have hS':Sat c.toCx (realL ρ' (finL kp X Lc)) ⟨[],F2⟩ a w2:=by simpa using hSat
      show Sat c.toCx (realL ρ2 (finL kp X Lc)) ⟨[],F2⟩ a w2
      rw [realL_mono (hg.toLe hs4.ok.fr) hs4.ok.dens];exact hS'
     exfalso
     have ho2:l2[k - (l1.length+1)]?=some o':=by
      rw [List.getElem?_append_right (by omega)] at ho
      rw [show k - l1.length=(k - (l1.length+1))+1 from by omega] at ho
      simpa using ho
     have:=List.all_eq_true.1 hdn o' (List.mem_of_getElem? ho2)
     unfold dnB at this
     obtain ⟨e,he,hb⟩:=List.any_eq_true.1 this
     simp only [Bool.and_eq_true] at hb
     have hSe:=hp e.on (bindsOn_iff.2 ⟨e,by simpa using he,hb.1,rfl⟩)
     rw [hJ e.on (Nat.le_of_ble_eq_true hb.2)] at hSe;cases hSe
    ·intro S S' a w hSS hI
     rw [show S'=S from (funext hSS).symm];exact hI
    ·rintro S a w hS ⟨_,hJ⟩
     have:=hS l1.length (by simp)
     rw [hJ _ (Nat.le_refl _)] at this;cases this
    ·rw [show (fun k=>(Array.replicate (l1++o::l2).toArray.size false).getD k false)=fun _=>false from by funext k;simp [Array.getD]]
     exact I0
    ·intro k hk;simp [Array.getD]
    ·intro k o i hl;simp [Array.getD] at hl
    exact Nat.le_trans (List.length_filter_le _ _) (by simp)
  cases hk
end
inductive Um where
 | ret
 | pan (v:Value)
def Um.mode:Um→FrameMode
 | .ret=>.returning
 | .pan v=>.panicking [{ v:=v,recovered:=false }]
def Um.mode':Um→FrameMode
 | .ret=>.returning
 | .pan v=>.panicking [{ v:=v,recovered:=true }]
def Um.val:Um→Value
 | .ret=>.nilIface
 | .pan v=>v
theorem Um.settled (u:Um):settle u.mode'=.returning:=by cases u <;> rfl
theorem Um.notRun (u:Um):u.mode≠.run:=by cases u <;> simp [Um.mode]
def EndD (w:World) (F:List Blocks) (ρ:Env) (m:Nat) (um:Um) (H':SH) (n':Nat):Ending→FrameMode→World→Prop:=fun e u w' =>
 ∃R',(∃v,e=.returned v)∧u=um.mode'∧Eff w ⟨[],F⟩ w' R'∧postP ρ m H' n' R'
def ConD (P:Program) (k:FuncId) (args:List SV) (H:SH) (n:Nat) (um:Um) (H':SH) (n':Nat):Prop :=
 ∀(w:World) (ρ:Env) (F:List Blocks) (vs:List Value),SV.dens ρ args=some vs→Reps (cB P w F) ρ H F→(∀t,n≤t→ρ t=none)→(∀p∈F.flatten,w.heap[p.1]?=some p.2)→(F.flatten.map (·.1)).Nodup→GlF w (F.flatten.map (·.1)) →
  CallsDIn (FW none) 0 P k vs.toArray um.mode w (EndD w F ρ n um H' n')
def FinD (P:Program) (fn:Func) (w:World) (F:List Blocks) (ρ:Env) (m:Nat) (H':SH) (n':Nat):Exit→Act→World→Prop
 | .normal,a,w' | .ret,a,w'=>a.defers=[]∧∃v,(results fn a.tmps).run P w'=.ok v w'∧∃R',Eff w ⟨[],F⟩ w' R'∧postP ρ m H' n' R'
 | _,_,_=>False
theorem ConD.of_body {P:Program} {k:FuncId} {fn:Func} {rest:Code} {N:Nat} {args:List SV} {H H':SH} {n n':Nat} {um:Um} {id:Nat} {d1 d2:Nat} {T1 T2:TypeId} {p1 p2:String} {a1 a2:Array Edge}
  (hf:P.funcs[k]?=some fn) (hN:fn.ntmps=N)
  (h:∀w F ρ gl,G4 (c0 P w F N ρ n gl) (FinD P fn w F ρ n H' n') (.code rest []) ⟨(d2,.v um.val)::(d1,.v um.val)::argL 0 args,H,n⟩)
  (hb:fn.body=some (.seq (.region id #[⟨some d1,.call ⟨.builtin .recover,#[],#[]⟩,T1,p1,a1,none⟩,⟨some d2,.assign (.tmp d1),T2,p2,a2,none⟩] false) rest):=by rfl)
  (ha:(Nat.ble args.length N&&noAr args)=true:=by rfl) (hd1:Nat.blt d1 N=true:=by rfl) (hd2:Nat.blt d2 N=true:=by rfl):ConD P k args H n um H' n':=by
 intro w ρ F vs hd hR hl hh hn gl
 simp only [Bool.and_eq_true] at ha
 obtain ⟨e1,e2,e3⟩:=argL_dens (k:=0) (noAr_spec ha.2) hd
 have ha':vs.length≤N:=by rw [e3];exact Nat.le_of_ble_eq_true ha.1
 refine callsDIn_of_wpSIn (F:=FW none) hf hb trivial fun c₀ cs hu=>?_
 rw [hN]
 have s:Sat ⟨P,none,w,F.flatten.map (·.1),N,[]⟩ (argS 0 vs) ⟨[],F⟩ { tmps:=vs.toArray++Array.replicate (N - vs.toArray.size) undef,defers:=[] } w:=by
  refine ⟨by simp;omega,rfl,?_,Ext.refl _ _,by simpa [Hp.all] using hn,by simpa [Hp.all] using hh,fun p hp=>.inl (List.mem_map.2 ⟨p,by simpa [Hp.all] using hp,rfl⟩)⟩
  intro t v hl
  obtain ⟨_,h2⟩:=look_argS vs 0 t v hl
  simp only [Nat.sub_zero] at h2
  have ht:t < vs.length:=(List.getElem?_eq_some_iff.1 h2).1
  have hv:vs[t]=v:=(List.getElem?_eq_some_iff.1 h2).2
  simp [Array.getD,show t < vs.length+(N - vs.length) from by omega,ht,hv]
 refine wpSIn_seq (wpSIn_region ?_)
 have key:∀(cs':List Frame),cs'={ c₀ with mode:=um.mode' }::cs→∀a,a=((({ tmps:=vs.toArray++Array.replicate (N - vs.toArray.size) undef,defers:=[] }:Act).put (some d1) um.val).put (some d2) um.val) →
   rest.wpSIn (FW none) 0 P (bodyPostS P fn c₀ cs (EndD w F ρ n um H' n')) a cs' w:=by
  rintro cs' rfl a rfl
  refine wpSIn_of_wpIn rfl ?_
  have s2:=(s.put (dst:=some d1) hd1 um.val).put (dst:=some d2) hd2 um.val
  have g:=h w F ρ gl ρ F _ w ⟨⟨⟨⟨um.val,by rw [SV.den]⟩,⟨⟨um.val,by rw [SV.den]⟩,e1⟩⟩,Reps.cx (c:=cB P w F) (c':=(c0 P w F N ρ n gl).toCx) rfl rfl hR,hl,fun _ _=>rfl,Nat.le_refl _⟩,by
   show Sat _ (realL ρ ((d2,.v um.val)::(d1,.v um.val)::argL 0 args)) ⟨[],F⟩ _ w
   simp only [realL,SV.den,Option.getD_some,e2]
   exact s2⟩
  refine fun b k cs0 q1 q2 q3=>wpIn_mono g ?_ b k cs0 q1 q2 (room_wide _)
  intro e a' w' hq
  cases e with
  | normal =>
   obtain ⟨q1,v,q2,R',q3,q4⟩:=hq
   exact ⟨q1,_,rfl,v,q2,R',⟨v,rfl⟩,rfl,q3,q4⟩
  | ret =>
   obtain ⟨q1,v,q2,R',q3,q4⟩:=hq
   exact ⟨q1,_,rfl,v,q2,R',⟨v,rfl⟩,rfl,q3,q4⟩
  | exit i=>exact hq.elim
  | goto l=>exact hq.elim
  | panic ch=>exact hq.elim
  | outgrown=>exact hq.elim
 have hrec:∀(a:Act),(execOp a.eval ⟨some d1,.call ⟨.builtin .recover,#[],#[]⟩,T1,p1,a1,none⟩).run P w=.ok .recover w:=fun a=>by
  simp [execOp,resolve,invoke,builtin]
 have hasg:∀(a:Act) (v:Value),a.tmps.getD d1 undef=v→(execOp a.eval ⟨some d2,.assign (.tmp d1),T2,p2,a2,none⟩).run P w=.ok (.value v) w:=fun a v hv=>by
  simp [execOp,Act.eval,hv]
 have hget:∀v,((({ tmps:=vs.toArray++Array.replicate (N - vs.toArray.size) undef,defers:=[] }:Act).put (some d1) v)).tmps.getD d1 undef=v:=fun v =>
  (s.put (dst:=some d1) hd1 v).slots d1 v (by simp [putS,look])
 have step2:∀(cs':List Frame) (v:Value),v=um.val→cs'={ c₀ with mode:=um.mode' }::cs→wpOpsSIn (FW none) 0 P #[⟨some d1,.call ⟨.builtin .recover,#[],#[]⟩,T1,p1,a1,none⟩,⟨some d2,.assign (.tmp d1),T2,p2,a2,none⟩]
   (Exit.thenS (rest.wpSIn (FW none) 0 P (bodyPostS P fn c₀ cs (EndD w F ρ n um H' n'))) (bodyPostS P fn c₀ cs (EndD w F ρ n um H' n'))) [1] ((({ tmps:=vs.toArray++Array.replicate (N - vs.toArray.size) undef,defers:=[] }:Act).put (some d1) v)) cs' w:=by
  rintro cs' v rfl hcs
  unfold wpOpsSIn
  refine ⟨fun _ _=>trivial,?_⟩
  simp only [List.getElem_toArray,List.getElem_cons_succ,List.getElem_cons_zero]
  rw [if_pos (by simp [Region.wanted]),hasg _ _ (hget _)]
  exact key cs' hcs _ rfl
 show wpOpsSIn (FW none) 0 P _ _ [0,1] _ _ w
 unfold wpOpsSIn
 refine ⟨fun _ _=>trivial,?_⟩
 simp only [List.getElem_toArray,List.getElem_cons_succ,List.getElem_cons_zero]
 rw [if_pos (by simp [Region.wanted]),hrec]
 cases um with
 | ret =>
  have:recoverD (c₀::cs)=none:=by simp [recoverD,hu,Um.mode]
  simp only [this]
  exact step2 _ _ rfl (by simp only [Um.mode'];rw [← show c₀.mode=FrameMode.returning from hu])
 | pan v =>
  have:recoverD (c₀::cs)=some (v,{ c₀ with mode:=.panicking [{ v:=v,recovered:=true }] }::cs):=by simp [recoverD,hu,Um.mode]
  simp only [this]
  exact step2 _ _ rfl rfl
section
variable {P:Program} {w0:World} {F0:List Blocks} {gl:GlF w0 (F0.flatten.map (·.1))} {ρ0:Env} {N m n':Nat} {fn:Func} {r:SV} {H':SH} {L:SL} {H:SH} {n:Nat} {rs:List ResultVar} {ys:List SV} {o:Out}
theorem TQ0 {ρ:Env} {F:List Blocks} {a:Act} {w:World} (hrs:fn.results=#[]) (σ:List Nat) (h2:takesH σ H H'=some (renBs σ H')) (h3:idB 0 m σ=true) (h4:σ.length=n') (s:Sat4 (c0 P w0 F0 N ρ0 m gl) ρ F ⟨L,H,n⟩ a w) :
  a.defers=[]∧∃v,(results fn a.tmps).run P w=.ok v w∧∃R',Eff w0 ⟨[],F0⟩ w R'∧postP ρ0 m H' n' R':=by
 obtain ⟨F',G,j1,j2⟩:=takesH_ren s.ok.reps h2
 have hp:(⟨[],F'++G⟩:Hp).all.Perm (⟨[],F⟩:Hp).all:=by simp only [Hp.all,List.nil_append];exact j2.flatten
 have hg:Env.grow m n' ρ0 (ρ.sel σ):=⟨fun t ht=>by simp only [Env.sel,idB_spec h3 t ht,Nat.zero_add];exact s.ok.pin t ht,fun t ht=>by simp [Env.sel,tgO_none (σ:=σ) (t:=t) (by rw [h4];exact ht)],by rw [← h4];exact idB_len h3⟩
 have s2:=s.sat.perm hp
 have hsub:(⟨[],F'⟩:Hp).all.Sublist (⟨[],F'++G⟩:Hp).all:=by simp only [Hp.all,List.nil_append];rw [List.flatten_append];exact List.sublist_append_left _ _
 refine ⟨s.sat.defers,.tuple #[],by simp [results,hrs],⟨[],F'⟩,⟨s2.ext,(hsub.map _).nodup s2.nodup,fun p hp=>s2.heap p (hsub.subset hp),fun p hp=>s2.own p (hsub.subset hp)⟩,_,ρ.sel σ,F',rfl,hg,j1⟩
theorem TQN_ (hrs:fn.results=#[]) (σ:List Nat) (h2:takesH σ H H'=some (renBs σ H'):=by rfl) (h3:idB 0 m σ=true:=by rfl) (h4:σ.length=n':=by rfl) :
  G4 (c0 P w0 F0 N ρ0 m gl) (FinD P fn w0 F0 ρ0 m H' n') (.exit .normal []) ⟨L,H,n⟩:=fun ρ F a w s=>TQ0 hrs σ h2 h3 h4 s
end
def pD (vs:List Value):Loc→List Value→Blocks→Prop:=fun l us f=>us=vs∧f=[]
def C4.df (c:C4) (k:FuncId) (vs:List Value):C4:=⟨⟨c.P,c.ro,c.w0,c.R0,c.n,⟨.fn (.func k) vs.toArray,#[]⟩::c.ds⟩,c.π,c.m,c.gl⟩
section
variable {c:C4} {Q:Exit→Act→World→Prop}
theorem DF_ {f:Operand} {k:FuncId} {ca:List SV} {ats:Array TypeId} {d:Option Nat} {T:TypeId} {pos:String} {af:Array Edge} {ops:Array Oper} {l:List Oper} {K:List Fr} {L:SL} {H:SH} {n:Nat}
  (h:∀vs,G4 (c.df k vs) Q (.ops ops l K []) ⟨L,(n,.ex (pD vs) ca)::H,n+1⟩) (hf:evS L f=some (.fn (.func k) [] ca):=by rfl) (hd:d=none:=by rfl) (hro:c.ro=none:=by rfl) :
  G4 c Q (.ops ops (⟨d,.defer ⟨.value f,#[],ats⟩,T,pos,af,none⟩::l) K []) ⟨L,H,n⟩:=by
 subst hd
 intro ρ F a w hs _
 obtain ⟨vf,e1,e2⟩:=evS_ok hs.ok.dens hf
 rw [SV.den] at e1
 obtain ⟨xf,e5,e6⟩:=Option.bind_eq_some_iff.1 e1
 obtain ⟨vs,e7,rfl⟩:=Option.map_eq_some_iff.1 e6
 rw [dens_nil] at e5;cases e5
 have hg:=Env.set_grow (ρ:=ρ) (n:=n) (l:=⟨none,0,0⟩) hs.ok.fr
 have hle:=hg.toLe hs.ok.fr
 have hself:ρ.set n ⟨none,0,0⟩ n=some ⟨none,0,0⟩:=Env.set_self
 unfold wpListIn
 rw [if_pos (by simp [Region.wanted])]
 refine ⟨fun _ _=>trivial,?_⟩
 have hsem:(⟨none,.defer ⟨.value f,#[],ats⟩,T,pos,af,none⟩:Oper).semAt (FW c.ro).round a.eval=execOp a.eval ⟨none,.defer ⟨.value f,#[],ats⟩,T,pos,af,none⟩:=by
  simp [Oper.semAt,FW,hro]
 rw [hsem]
 have hrun:(execOp a.eval ⟨none,.defer ⟨.value f,#[],ats⟩,T,pos,af,none⟩).run c.P w=.ok (.defer ⟨.fn (.func k) vs.toArray,#[]⟩) w:=by
  simp [execOp,resolve,Deferred.ofValue,hs.sat.eval e2]
 rw [hrun]
 have hs1:=hs.sat
 refine h vs (ρ.set n ⟨none,0,0⟩) ([]::F) _ w ⟨⟨hs.ok.dens.mono hle,⟨[],F,rfl,⟨_,vs,hself,dens_mono hle e7,rfl,rfl⟩,Reps.cx (c:=c.toCx) (c':=(c.df k vs).toCx) rfl rfl (hs.ok.reps.mono hle)⟩,hg.fr,fun t ht=>?_,Nat.le_succ_of_le hs.ok.mle⟩,?_⟩ trivial
 ·have:=hs.ok.mle
  rw [hg.old t (by simp only [C4.df] at ht this ⊢;omega)];exact hs.ok.pin t ht
 have e:realL (ρ.set n ⟨none,0,0⟩) L=realL ρ L:=realL_mono hle hs.ok.dens
 show Sat (c.df k vs).toCx (realL (ρ.set n ⟨none,0,0⟩) L) ⟨[],[]::F⟩ ({ a with defers:=⟨.fn (.func k) vs.toArray,#[]⟩::a.defers }) w
 rw [e]
 exact ⟨hs1.size,by show _::a.defers=_::c.ds;rw [hs1.defers],hs1.slots,hs1.ext,by simpa [Hp.all] using hs1.nodup,by simpa [Hp.all] using hs1.heap,by simpa [Hp.all,C4.df] using hs1.own⟩
end
section
variable {P:Program} {w0:World} {F0:List Blocks} {gl:GlF w0 (F0.flatten.map (·.1))} {ρ0:Env} {N m n':Nat} {fn:Func} {r:SV} {H':SH} {L:SL} {H:SH} {n:Nat} {rs:List ResultVar} {ys:List SV} {o:Out}
theorem CallsDIn.mono {Fc:Fence} {n:Nat} {f:FuncId} {args:Array Value} {u:FrameMode} {w:World} {R R':Ending→FrameMode→World→Prop} (h:CallsDIn Fc n P f args u w R) (hi:∀e u w,R e u w→R' e u w):CallsDIn Fc n P f args u w R' :=
 ⟨h.1,fun c cs hu hr=>let ⟨e,u',w',fr,q,x⟩:=h.2 c cs hu hr;⟨e,u',w',fr,hi _ _ _ q,x⟩⟩
theorem TD0 {b:TB} (hB:TBOk P b) (hrs:fn.results=rs.toArray) {k:FuncId} {vs:List Value} {ca:List SV} (td:Nat) (hpd:lookH H td=some (.ex (pD vs) ca)) {um:Um} (σc:List Nat) {cargs:List SV} {cH cH':SH} {mc mc':Nat} {H1:SH}
  (con:ConD P k cargs cH mc um cH' mc') (hk:hasN b.e.cal k=true) (hargs:ca=SV.rens σc cargs) (hO:takeW σc H cH=some (ownBs σc cH,H1)) (hR:rdsOf σc H1 cH=some (rdsW cH)) (hb:(ltAll n σc&&Nat.beq σc.length mc&&Nat.ble mc mc'&&allOwn cH')=true)
  (σ:List Nat) (hy:resS b.t L (nH (appN σc (seqN n (mc' - mc))) H1 cH') rs=some ys) (hr:retS ys=r.ren σ) (h2:takesH σ (nH (appN σc (seqN n (mc' - mc))) H1 cH') H'=some (renBs σ H')) (h3:idB 0 m σ=true) (h4:σ.length=n')
  {ρ:Env} {F:List Blocks} {a:Act} {w:World} (s:Sat4 ((c0 P w0 F0 N ρ0 m gl).df k vs) ρ F ⟨L,H,n⟩ a w):LeavesInM (FW none) 1 P fn a.tmps (EndO w0 F0 ρ0 m (.ret r H' n')) a.defers um.mode w:=by
 have ok:=s.ok
 simp only [Bool.and_eq_true] at hb
 obtain ⟨⟨⟨hb1,hb2⟩,hb3⟩,hb4⟩:=hb
 have hm:σc.length=mc:=Nat.eq_of_beq_eq_true hb2
 have hσ:=ltAll_spec hb1
 obtain ⟨FA,f,FB,_,⟨lp,us,_,d2,rfl,_⟩,_,_⟩:=ok.reps.look hpd
 obtain ⟨Fc,F1,t1,t2,t3⟩:=takeW_spec ok.reps hO
 have hcargs:SV.dens (ρ.sel σc) cargs=some us:=dens_ren (by rw [← hargs];exact d2)
 have hp:((⟨[],Fc⟩:Hp).add ⟨[],F1++[]⟩).all.Perm (⟨[],F⟩:Hp).all:=by
  simp only [Hp.all,Hp.add,List.nil_append,List.flatten_append,List.append_nil];exact t3
 have s':=s.sat.perm hp
 rw [show a.defers=[⟨.fn (.func k) us.toArray,#[]⟩] from s.sat.defers]
 refine ⟨um.notRun,.inr ⟨fun h=>by simp [FW] at h,.func k,us.toArray,k,us.toArray,rfl,?_,fun _ _=>trivial,?_⟩⟩
 ·simp [invoke,hB.e.cal.mem _ (hasN_mem hk)]
 have hok:=s'.hpOk
 have hret:=con w (ρ.sel σc) Fc _ hcargs (callee_reps (c:=(c0 P w0 F0 N ρ0 m gl).df k us) t2 s' t1 hR) (fun t ht=>by simp [Env.sel,tgO_none (σ:=σc) (t:=t) (by rw [hm];exact ht)]) (by simpa [Hp.all] using hok.1) (by simpa [Hp.all] using hok.2) (GlF.tr (v:=w0) (V:=F0.flatten.map (·.1)) gl (show ExtB w0 (F0.flatten.map (·.1)) w (Fc.flatten.map (·.1)) by have:=s'.extB;simpa [Hp.all,C4.df,c0] using this))
 refine CallsDIn.mono hret ?_
 rintro e u2 w' ⟨R',⟨v,rfl⟩,rfl,he,c',ρ',F',rfl,p0,p2⟩
 show LeavesInM (FW none) 1 P fn a.tmps _ [] (settle um.mode') w'
 rw [um.settled]
 have hle:=backE_sel (n:=n) hm hσ p0
 have hg:Env.grow n (n+(mc' - mc)) ρ (backE ρ ρ' n mc mc'):=backE_grow
 have h6:=s'.eff he
 have e6:((⟨[],F'⟩:Hp).add ⟨[],F1++[]⟩)=⟨[],F'++F1⟩:=by simp [Hp.add]
 rw [e6] at h6
 have hN:=nH_reps (t2.mono (hg.toLe ok.fr)) hb4 (p2.mono hle)
 have s2:Sat4 (c0 P w0 F0 N ρ0 m gl) (backE ρ ρ' n mc mc') (F'++F1) ⟨L,nH (appN σc (seqN n (mc' - mc))) H1 cH',n+(mc' - mc)⟩ { a with defers:=[] } w':=by
  refine ⟨⟨ok.dens.mono (hg.toLe ok.fr),Reps.cx (c:=((c0 P w0 F0 N ρ0 m gl).df k us).toCx) (c':=(c0 P w0 F0 N ρ0 m gl).toCx) rfl rfl hN,hg.fr,fun t ht=>?_,Nat.le_trans ok.mle hg.le⟩,?_⟩
  ·rw [hg.old t (Nat.lt_of_lt_of_le ht ok.mle)];exact ok.pin t ht
  show Sat _ (realL (backE ρ ρ' n mc mc') L) ⟨[],F'++F1⟩ _ w'
  rw [realL_mono (hg.toLe ok.fr) ok.dens]
  exact ⟨h6.size,rfl,h6.slots,h6.ext,h6.nodup,h6.heap,h6.own⟩
 have:=TL4 (a:={ a with defers:=[] }) hB.t hrs σ hy hr h2 h3 h4 s2
 exact this
variable {b:TB} {k:FuncId} {vs:List Value} {ca:List SV} {cargs:List SV} {cH cH':SH} {mc mc':Nat} {H1:SH}
theorem TD_ (hB:TBOk P b) (hrs:fn.results=rs.toArray) (td:Nat) (σc:List Nat) (con:ConD P k cargs cH mc .ret cH' mc') (σ:List Nat) (ho:o=.ret r H' n':=by rfl) (hpd:lookH H td=some (.ex (pD vs) ca):=by rfl) (hk:hasN b.e.cal k=true:=by rfl) (hargs:ca=SV.rens σc cargs:=by rfl)
  (hO:takeW σc H cH=some (ownBs σc cH,H1):=by rfl) (hR:rdsOf σc H1 cH=some (rdsW cH):=by rfl) (hb:(ltAll n σc&&Nat.beq σc.length mc&&Nat.ble mc mc'&&allOwn cH')=true:=by rfl)
  (hy:resS b.t L (nH (appN σc (seqN n (mc' - mc))) H1 cH') rs=some ys:=by rfl) (hr:retS ys=r.ren σ:=by rfl) (h2:takesH σ (nH (appN σc (seqN n (mc' - mc))) H1 cH') H'=some (renBs σ H'):=by rfl) (h3:idB 0 m σ=true:=by rfl) (h4:σ.length=n':=by rfl) :
  G4 ((c0 P w0 F0 N ρ0 m gl).df k vs) (FinO P fn w0 F0 ρ0 m o) (.exit .ret []) ⟨L,H,n⟩:=by
 subst ho
 exact fun ρ F a w s=>TD0 (um:=.ret) hB hrs td hpd σc con hk hargs hO hR hb σ hy hr h2 h3 h4 s
theorem TDP_ {v:Value} (hB:TBOk P b) (hrs:fn.results=rs.toArray) (td:Nat) (σc:List Nat) (con:ConD P k cargs cH mc (.pan v) cH' mc') (σ:List Nat) (ho:o=.ret r H' n':=by rfl) (hpd:lookH H td=some (.ex (pD vs) ca):=by rfl) (hk:hasN b.e.cal k=true:=by rfl) (hargs:ca=SV.rens σc cargs:=by rfl)
  (hO:takeW σc H cH=some (ownBs σc cH,H1):=by rfl) (hR:rdsOf σc H1 cH=some (rdsW cH):=by rfl) (hb:(ltAll n σc&&Nat.beq σc.length mc&&Nat.ble mc mc'&&allOwn cH')=true:=by rfl)
  (hy:resS b.t L (nH (appN σc (seqN n (mc' - mc))) H1 cH') rs=some ys:=by rfl) (hr:retS ys=r.ren σ:=by rfl) (h2:takesH σ (nH (appN σc (seqN n (mc' - mc))) H1 cH') H'=some (renBs σ H'):=by rfl) (h3:idB 0 m σ=true:=by rfl) (h4:σ.length=n':=by rfl) :
  G4 ((c0 P w0 F0 N ρ0 m gl).df k vs) (FinO P fn w0 F0 ρ0 m o) (.exit (.panic [{ v:=v,recovered:=false }]) []) ⟨L,H,n⟩:=by
 subst ho
 exact fun ρ F a w s=>TD0 (um:=.pan v) hB hrs td hpd σc con hk hargs hO hR hb σ hy hr h2 h3 h4 s
end
end Go.HW
namespace Go.HW
open Go Go.RowKit
set_option maxRecDepth 4000
theorem ifc_nil {P:Program} {X:TypeId} {ms:Array (String×TypeId)} (hu:∀w,(underlying X).run P w=.ok (.interface ms) w) (T:TypeId) (v:Value) (w:World):(Op.equal X (.iface T v) .nilIface).run P w=.ok false w:=by
 unfold Op.equal
 rw [show Op.maxDepth=9999+1 from rfl,Op.equalIn]
 simp only [Sem.run_bind,hu,Result.andThen_ok]
 simp
theorem nif_nil {P:Program} {X:TypeId} {ms:Array (String×TypeId)} (hu:∀w,(underlying X).run P w=.ok (.interface ms) w) (w:World):(Op.equal X .nilIface .nilIface).run P w=.ok true w:=by
 unfold Op.equal
 rw [show Op.maxDepth=9999+1 from rfl,Op.equalIn]
 simp only [Sem.run_bind,hu,Result.andThen_ok]
 simp
theorem map_nil {P:Program} {X k e:TypeId} (hu:∀w,(underlying X).run P w=.ok (.map k e) w) (b:Nat) (w:World):(Op.equal X (.map (some b)) (.map none)).run P w=.ok false w:=by
 unfold Op.equal
 rw [show Op.maxDepth=9999+1 from rfl,Op.equalIn]
 simp only [Sem.run_bind,hu,Result.andThen_ok]
 simp
theorem nmap_nil {P:Program} {X k e:TypeId} (hu:∀w,(underlying X).run P w=.ok (.map k e) w) (w:World):(Op.equal X (.map none) (.map none)).run P w=.ok true w:=by
 unfold Op.equal
 rw [show Op.maxDepth=9999+1 from rfl,Op.equalIn]
 simp only [Sem.run_bind,hu,Result.andThen_ok]
 simp
theorem QV.bin {c:Cx} {o:BinOp} {X:TypeId} {x y:Operand} {Y:TypeId} {d:Nat} {T:TypeId} {pos:String} {af:Array Edge} {g:Option (Nat×Bool)} {Lr:Slots} {Fs:Hp} {u v r:Value} (hx:ev Lr x=some u) (hy:ev Lr y=some v)
  (h0:∀w,(eqGuard o X x y u v).run c.P w=.ok () w) (h:∀w,(binOp o X u v).run c.P w=.ok r w):QV c ⟨some d,.binOp o X x y Y,T,pos,af,g⟩ Lr Fs r:=fun a w s=>by
 simp [execOp,s.eval hx,s.eval hy,h,h0]
def niF:EvV:=fun b L H op=>match op with
 | .binOp o X x y _=>match evS L x,evS L y,lk b.t.und X with
  | some (.v (.iface _ _)),some (.v .nilIface),some (.interface _)=>match o with
   | .eql=>some ([],.v (.bool false)) | .neq=>some ([],.v (.bool true)) | _=>none
  | some (.v .nilIface),some (.v .nilIface),some (.interface _)=>match o,y with
   | .eql,.const _=>some ([],.v (.bool true)) | .neq,.const _=>some ([],.v (.bool false)) | _,_=>none
  | some (.mp _),some (.v (.map none)),some (.map _ _)=>match o with
   | .eql=>some ([],.v (.bool false)) | .neq=>some ([],.v (.bool true)) | _=>none
  | some (.v (.map none)),some (.v (.map none)),some (.map _ _)=>match o with
   | .eql=>some ([],.v (.bool true)) | .neq=>some ([],.v (.bool false)) | _=>none
  | _,_,_=>none
 | _=>none
theorem niF_ok {c:C4}:EvVOk c niF:=by
 intro b L H n op cs r hB h hc
 unfold niF at h
 split at h
 ·rename_i o X x y Y;split at h
  ·rename_i T0 v0 ms hx hy hX
   have key:∀(ρ:Env) (F:List Blocks),Ok c ρ F ⟨L,H,n⟩→∀Lr:Slots,(∀t v,look (realL ρ L) t=some v→look Lr t=some v)→ev Lr x=some (.iface T0 v0)∧ev Lr y=some .nilIface:=fun ρ F o Lr hLr=>by
    obtain ⟨vx,x1,x2⟩:=evS_ok o.dens hx
    obtain ⟨vy,y1,y2⟩:=evS_ok o.dens hy
    rw [SV.den] at y1;cases y1
    rw [SV.den] at x1;cases x1
    exact ⟨ev_ext hLr x2,ev_ext hLr y2⟩
   split at h
   ·cases h;exact ⟨rfl,fun ρ F Fx o Lr hLr=>⟨_,by rw [SV.den],fun d T pos af g=>QV.bin (key ρ F o Lr hLr).1 (key ρ F o Lr hLr).2 (fun w=>by simp [eqGuard]) fun w=>by simp [binOp,ifc_nil (hB.t.und.mem _ (lk_mem hX))]⟩⟩
   ·cases h;exact ⟨rfl,fun ρ F Fx o Lr hLr=>⟨_,by rw [SV.den],fun d T pos af g=>QV.bin (key ρ F o Lr hLr).1 (key ρ F o Lr hLr).2 (fun w=>by simp [eqGuard]) fun w=>by simp [binOp,ifc_nil (hB.t.und.mem _ (lk_mem hX))]⟩⟩
   cases h
  ·rename_i ms hx hy hX
   have key:∀(ρ:Env) (F:List Blocks),Ok c ρ F ⟨L,H,n⟩→∀Lr:Slots,(∀t v,look (realL ρ L) t=some v→look Lr t=some v)→ev Lr x=some .nilIface∧ev Lr y=some .nilIface:=fun ρ F o Lr hLr=>by
    obtain ⟨vx,x1,x2⟩:=evS_ok o.dens hx
    obtain ⟨vy,y1,y2⟩:=evS_ok o.dens hy
    rw [SV.den] at y1;cases y1
    rw [SV.den] at x1;cases x1
    exact ⟨ev_ext hLr x2,ev_ext hLr y2⟩
   split at h
   ·cases h;exact ⟨rfl,fun ρ F Fx o Lr hLr=>⟨_,by rw [SV.den],fun d T pos af g=>QV.bin (key ρ F o Lr hLr).1 (key ρ F o Lr hLr).2 (fun w=>by simp [eqGuard]) fun w=>by simp [binOp,nif_nil (hB.t.und.mem _ (lk_mem hX))]⟩⟩
   ·cases h;exact ⟨rfl,fun ρ F Fx o Lr hLr=>⟨_,by rw [SV.den],fun d T pos af g=>QV.bin (key ρ F o Lr hLr).1 (key ρ F o Lr hLr).2 (fun w=>by simp [eqGuard]) fun w=>by simp [binOp,nif_nil (hB.t.und.mem _ (lk_mem hX))]⟩⟩
   cases h
  ·rename_i t k e hx hy hX
   have key:∀(ρ:Env) (F:List Blocks),Ok c ρ F ⟨L,H,n⟩→∀Lr:Slots,(∀t v,look (realL ρ L) t=some v→look Lr t=some v)→∃q,ev Lr x=some (.map (some q))∧ev Lr y=some (.map none):=fun ρ F o Lr hLr=>by
    obtain ⟨vx,x1,x2⟩:=evS_ok o.dens hx
    obtain ⟨vy,y1,y2⟩:=evS_ok o.dens hy
    rw [SV.den] at y1;cases y1
    rw [SV.den] at x1
    obtain ⟨q,_,rfl⟩:=Option.map_eq_some_iff.1 x1
    exact ⟨q,ev_ext hLr x2,ev_ext hLr y2⟩
   split at h
   ·cases h;refine ⟨rfl,fun ρ F Fx o Lr hLr=>⟨_,by rw [SV.den],fun d T pos af g=>?_⟩⟩
    obtain ⟨q,e1,e2⟩:=key ρ F o Lr hLr
    exact QV.bin e1 e2 (fun w=>by simp [eqGuard]) fun w=>by simp [binOp,map_nil (hB.t.und.mem _ (lk_mem hX))]
   ·cases h;refine ⟨rfl,fun ρ F Fx o Lr hLr=>⟨_,by rw [SV.den],fun d T pos af g=>?_⟩⟩
    obtain ⟨q,e1,e2⟩:=key ρ F o Lr hLr
    exact QV.bin e1 e2 (fun w=>by simp [eqGuard]) fun w=>by simp [binOp,map_nil (hB.t.und.mem _ (lk_mem hX))]
   cases h
  ·rename_i k e hx hy hX
   have key:∀(ρ:Env) (F:List Blocks),Ok c ρ F ⟨L,H,n⟩→∀Lr:Slots,(∀t v,look (realL ρ L) t=some v→look Lr t=some v)→ev Lr x=some (.map none)∧ev Lr y=some (.map none):=fun ρ F o Lr hLr=>by
    obtain ⟨vx,x1,x2⟩:=evS_ok o.dens hx
    obtain ⟨vy,y1,y2⟩:=evS_ok o.dens hy
    rw [SV.den] at y1;cases y1
    rw [SV.den] at x1;cases x1
    exact ⟨ev_ext hLr x2,ev_ext hLr y2⟩
   split at h
   ·cases h;exact ⟨rfl,fun ρ F Fx o Lr hLr=>⟨_,by rw [SV.den],fun d T pos af g=>QV.bin (key ρ F o Lr hLr).1 (key ρ F o Lr hLr).2 (fun w=>by simp [eqGuard]) fun w=>by simp [binOp,nmap_nil (hB.t.und.mem _ (lk_mem hX))]⟩⟩
   ·cases h;exact ⟨rfl,fun ρ F Fx o Lr hLr=>⟨_,by rw [SV.den],fun d T pos af g=>QV.bin (key ρ F o Lr hLr).1 (key ρ F o Lr hLr).2 (fun w=>by simp [eqGuard]) fun w=>by simp [binOp,nmap_nil (hB.t.und.mem _ (lk_mem hX))]⟩⟩
   cases h
  cases h
 cases h
def Ev.ni {c:C4}:Ev c:=.ot (liftV niF) (liftV_ok niF_ok)
def taF:EvV:=fun b L H op=>match op with
 | .typeAssert x _ A true=>match evS L x,lk b.t.und A with
  | some (.v (.iface U v)),some (.int _)=>bif Nat.beq U A then some ([],.tu [.v v,.v (.bool true)]) else none
  | _,_=>none
 | _=>none
theorem taF_ok {c:C4}:EvVOk c taF:=by
 intro b L H n op cs r hB h hc
 unfold taF at h
 split at h
 ·rename_i x X A;split at h
  ·rename_i U v k hx hA
   cases hb:Nat.beq U A with
   | false=>rw [hb] at h;cases h
   | true =>
    rw [hb,cond_true] at h;cases h
    have:=Nat.eq_of_beq_eq_true hb;subst this
    refine ⟨rfl,fun ρ F Fx o Lr hLr=>⟨.tuple #[v,.bool true],by simp [SV.den,SV.dens,SV.deni],fun d T pos af g a w s=>?_⟩⟩
    obtain ⟨vx,x1,x2⟩:=evS_ok o.dens hx
    rw [SV.den] at x1;cases x1
    simp [execOp,s.eval (ev_ext hLr x2),Instr.typeAssert,hB.t.und.mem _ (lk_mem hA)]
  cases h
 cases h
def Ev.ta {c:C4}:Ev c:=.ot (liftV taF) (liftV_ok taF_ok)
theorem b2s_run {P:Program} {w:World} {X Y e:TypeId} (hX:∀w,(underlying X).run P w=.ok (.slice e) w) (hE:∀w,(underlying e).run P w=.ok (.int .u8) w) (hY:∀w,(underlying Y).run P w=.ok .string w)
  {sq:Option Addr} {m cq:Nat} {ys:List Int} (hm:ys.length=m) (h:RdS (En.int .u8) w sq ys):(convert X Y (.slice sq m cq)).run P w=.ok (.string (strOfNums ys)) w:=by
 rcases sq with _ | ad
 ·have:ys=[]:=by
   rcases h.2 with h | ⟨ad,h,_⟩
   ·exact h
   cases h
  subst this
  rw [run_convert_bytes_nil w X e (und_of hX) (und_of hE) m cq Y (und_of hY)];rfl
 rcases h.2 with h0 | ⟨ad',h1,h2,h3⟩
 ·subst h0;cases hm
  rw [run_convert_bytes_string w X Y e (some ad) _ cq (und_of hX) (und_of hE) (und_of hY)]
  simp [Conv.bytesToString,loadCells];rfl
 cases h1
 obtain ⟨b,off,sp⟩:=ad
 have h2:sp=none:=h2
 subst h2
 refine run_convert_bytes_arg w X e (und_of hX) (und_of hE) b off m cq ys hm (fun i hi=>?_) Y (und_of hY)
 have:=h3 i ys[i] (by simp [hm,hi]) 0 (.int .u8 ys[i]) rfl
 simpa [En.int,List.getD,hm,hi] using this
def b2sF (ys:List Int):EvV:=fun b L H op=>match op with
 | .convert X Y x=>match evS L x,lk b.t.und X,lk b.t.und Y with
  | some yv,some (.slice e),some .string=>match lk b.t.und e,rowS H yv with
   | some (.int .u8),some (@RowOf.mk _ _ _ _ m)=>some ([rowS H yv=some (@RowOf.mk Int _ (Et.int .u8) ys m)],.v (.string (strOfNums ys)))
   | _,_=>none
  | _,_,_=>none
 | _=>none
theorem b2sF_ok {c:C4} {ys:List Int}:EvVOk c (b2sF ys):=by
 intro b L H n op cs r hB h hc
 unfold b2sF at h
 split at h
 ·rename_i X Y x;split at h
  ·rename_i yv e hx hX hY;split at h
   ·rename_i α i N zs m hE hr;cases h
    have hc:rowS H yv=some (@RowOf.mk Int _ (Et.int .u8) ys m):=hc
    refine ⟨rfl,fun ρ F Fx o Lr hLr=>⟨_,by rw [SV.den],fun d T pos af g a w s=>?_⟩⟩
    obtain ⟨vx,x1,x2⟩:=evS_ok o.dens hx
    obtain ⟨sq,cq,rfl,k1,k2⟩:=rowS_ok o hc x1
    simp [execOp,s.eval (ev_ext hLr x2),b2s_run (hB.t.und.mem _ (lk_mem hX)) (hB.t.und.mem _ (lk_mem hE)) (hB.t.und.mem _ (lk_mem hY)) k1 (k2 Lr Fx a w s)]
   cases h
  cases h
 cases h
def Ev.b2 {c:C4} (ys:List Int):Ev c:=.ot (liftV (b2sF ys)) (liftV_ok b2sF_ok)
def numsOf (s:ByteArray):List Int:=s.data.toList.map fun b=>(b.toNat:Int)
theorem numsOf_length (s:ByteArray):(numsOf s).length=s.size:=by unfold numsOf;rw [List.length_map,Array.length_toList];rfl
section
variable {c:Cx} {ops:Array Oper} {Q:Exit→Act→World→Prop} {rest:List Oper} {L:Slots} {H:Hp}
variable {d:Nat} {T:TypeId} {pos:String} {af:Array Edge} {g:Option (Nat×Bool)}
theorem TX.s2b {X Y e:TypeId} {x:Operand} {s:ByteArray} {E:Blocks} {S:List Blocks} (hX:∀w,(underlying X).run c.P w=.ok .string w) (hY:∀w,(underlying Y).run c.P w=.ok (.slice e) w) (hE:∀w,(underlying e).run c.P w=.ok (.int .u8) w)
  (hx:ev L x=some (.string s)) (hs:s.size≤maxLen) (hd:Nat.blt d c.n=true)
  (h:∀q cap Hs,OwnL (En.int .u8) e (some q) cap (numsOf s) Hs→TO c ops Q rest ((d,.slice (some q) (numsOf s).length cap)::L) ⟨E,Hs::S⟩):TX c ops Q ⟨some d,.convert X Y x,T,pos,af,g⟩ rest L ⟨E,S⟩:=by
 intro a w st
 have hrun:=run_bytes_of_string (P:=c.P) w X Y e s (und_of hX) (und_of hY) (und_of hE)
 have hg:=grownCap_ge w s.size 0 e
 have hm:=grownCap_le_maxLen w s.size 0 e hs
 have hsz:(bytesRow s (grownCap w s.size 0 e)).size=grownCap w s.size 0 e:=by
  have:s.data.size=s.size:=rfl
  simp [bytesRow];omega
 have hex:(execOp a.eval ⟨some d,.convert X Y x,T,pos,af,g⟩).run c.P w=.ok (.value (.slice (some ⟨w.heap.size,0,none⟩) (numsOf s).length (grownCap w s.size 0 e))) (w.drew.alloc (.cells (bytesRow s (grownCap w s.size 0 e)) e ((bytesRow s (grownCap w s.size 0 e)).size,(bytesRow s (grownCap w s.size 0 e)).size+1))):=by
  simp [execOp,st.eval hx,hrun,numsOf_length]
 rw [hex]
 have own:OwnL (En.int .u8) e (some ⟨w.heap.size,0,none⟩) (grownCap w s.size 0 e) (numsOf s) [(w.heap.size,.cells (bytesRow s (grownCap w s.size 0 e)) e ((bytesRow s (grownCap w s.size 0 e)).size,(bytesRow s (grownCap w s.size 0 e)).size+1))]:=by
  refine .inr ⟨_,_,rfl,⟨_,.inr (Nat.le_refl _),rfl⟩,by rw [numsOf_length];exact hg,hm,by rw [hsz];simp [En.int],?_⟩
  have e1:(numsOf s).flatMap (En.int .u8).enc=s.data.toList.map fun b=>Value.int .u8 (b.toNat:Int):=by
   simp only [numsOf,En.int,List.flatMap_map]
   induction s.data.toList with
   | nil=>rfl
   | cons b l ih=>simp [ih]
  have e2:(numsOf s).length * (En.int .u8).sz=(s.data.toList.map fun b=>Value.int .u8 (b.toNat:Int)).length:=by simp [numsOf,En.int]
  rw [e1,e2]
  simp only [bytesRow,Array.toList_append,Array.toList_map]
  exact List.take_left
 refine h _ _ _ own _ _ (Sat.put (dst:=some d) (st.addSeg (w':=w.drew.alloc _) ⟨rfl,rfl,rfl,by show w.heap.size≤(w.heap.push _).size;rw [Array.size_push];exact Nat.le_succ _,fun k hk _=>by first | exact heap_alloc_old w.drew _ hk | exact heap_alloc_old w.drew _ k hk⟩ (by simp) ?_ (by simp)) hd _)
 intro p hp
 simp at hp;subst hp
 exact heap_alloc_new w.drew _
end
def s2bF:EvF:=fun b L H n op=>match op with
 | .convert X Y x=>match evS L x,lk b.t.und X,lk b.t.und Y with
  | some (.v (.string s)),some .string,some (.slice e)=>match lk b.t.und e with
   | some (.int .u8)=>some ([decide (s.size≤9223372036854775807)=true],some (.sl n),(n,.row (Et.int .u8) e (numsOf s) (numsOf s).length .no)::H,n+1)
   | _=>none
  | _,_,_=>none
 | _=>none
theorem s2bF_ok {c:C4}:EvOk c s2bF:=by
 intro b L H n op cs r H' n' hB h hc dst T pos af g hdr hd
 unfold s2bF at h
 split at h
 ·rename_i X Y x;split at h
  ·rename_i s e hx hX hY;split at h
   ·rename_i hE;cases h
    have hc:decide (s.size≤9223372036854775807)=true:=hc
    have hs:s.size≤maxLen:=by have:=of_decide_eq_true hc;unfold maxLen;omega
    cases dst with
    | none=>simp at hdr
    | some d =>
     refine ⟨rfl,OT.ofTX hd fun ρ F Fx o Lr hLr Q hk=>?_⟩
     obtain ⟨vx,e1,e2⟩:=evS_ok o.dens hx
     rw [SV.den] at e1;cases e1
     refine TX.s2b (hB.t.und.mem _ (lk_mem hX)) (hB.t.und.mem _ (lk_mem hY)) (hB.t.und.mem _ (lk_mem hE)) (ev_ext hLr e2) hs hd fun q cap Hs ho=>?_
     exact hk (ρ.set n ⟨some q,cap,(numsOf s).length⟩) (Hs::F) (.slice (some q) (numsOf s).length cap) (Env.set_grow o.fr) (by rw [Option.getD_some,SV.den,Env.set_self];rfl) (Env.set_row o.reps o.fr ⟨some q,cap,by rw [Env.set_self],rfl,ho,by simp [NKok]⟩)
   cases h
  cases h
 cases h
def Ev.s2 {c:C4}:Ev c:=.ot s2bF s2bF_ok
theorem run_mark {P:Program} {w:World} {g:Nat} {cur:Array Value} {A:TypeId} {fz:Nat×Nat} (hg:w.heap[g]?=some (.cells cur A fz)) (hz:NoFz fz cur.size) :
  ∃fz',NoFz fz' cur.size∧(markStringish ⟨g,0,none⟩).run P w=.ok () (World.withBlock w g (.cells cur A fz')):=by
 obtain ⟨lo,hi⟩:=fz
 refine ⟨if lo == hi then (cur.size,cur.size+1) else (min lo cur.size,max hi (cur.size+1)),?_,?_⟩
 ·by_cases h:lo=hi
  ·subst h;simp [NoFz]
  have h2:cur.size≤lo:=by
   rcases hz with hz | hz
   ·exact absurd hz h
   exact hz
  rw [if_neg (by simpa using h)]
  right
  show cur.size≤min lo cur.size
  omega
 have hsh:w.shape? g=some (A,cur.size):=by simp [World.shape?,hg]
 have hlt:g < w.heap.size:=(Array.getElem?_eq_some_iff.1 hg).1
 have he:w.heap[g]=.cells cur A (lo,hi):=(Array.getElem?_eq_some_iff.1 hg).2
 have hf:w.freeze ⟨g,cur.size,none⟩ 1=World.withBlock w g (.cells cur A (if lo == hi then (cur.size,cur.size+1) else (min lo cur.size,max hi (cur.size+1)))):=by
  unfold World.freeze
  rw [if_neg (by decide)]
  unfold World.withBlock
  congr 1
  apply Array.ext
  ·simp
  intro i h1 h2
  have hi2:i < w.heap.size:=by simpa using h1
  simp only [Array.getElem_modify]
  by_cases h:g=i
  ·subst h;simp [he]
  rw [if_neg h,Array.getElem_setIfInBounds_ne hi2 h]
 simp [markStringish,hsh,hf]
section
variable {c:Cx} {ops:Array Oper} {Q:Exit→Act→World→Prop} {rest:List Oper} {L:Slots} {H:Hp}
variable {d:Nat} {T:TypeId} {pos:String} {af:Array Edge} {g:Option (Nat×Bool)}
theorem TX.cvt {α:Type} {N:En α} {X A e:TypeId} {x:Operand} {sp:Option Addr} {m cap si:Nat} {xs:List α} {E:Blocks} {S:List Blocks} {Hs:Blocks} (hX:∀w,(underlying X).run c.P w=.ok (.slice e) w) (hE:∀w,(underlying e).run c.P w=.ok (.int .u8) w)
  (hx:ev L x=some (.slice sp m cap)) (hS:getS S si=some Hs) (ho:OwnL N A sp cap xs Hs) (hne:sp.isNone=false) (hd:Nat.blt d c.n=true)
  (h:∀Hs' S',setS S si Hs'=some S'→OwnL N A sp cap xs Hs'→TO c ops Q rest ((d,.slice sp m cap)::L) ⟨E,S'⟩):TX c ops Q ⟨some d,.convert X X x,T,pos,af,g⟩ rest L ⟨E,S⟩:=by
 rcases ho with ⟨rfl,_⟩ | ⟨b,cur,rfl,⟨fz,hfz,rfl⟩,h1,h2,h3,h4⟩
 ·simp at hne
 intro a w s
 have hb:w.heap[b]?=some (.cells cur A fz):=s.heap (b,Obj.cells cur A fz) (List.mem_append.2 (.inr (getS_sub hS _ (List.mem_singleton.2 rfl))))
 obtain ⟨fz',hz',hrun⟩:=run_mark (P:=c.P) hb hfz
 have hex:(execOp a.eval ⟨some d,.convert X X x,T,pos,af,g⟩).run c.P w=.ok (.value (.slice (some ⟨b,0,none⟩) m cap)) (World.withBlock w b (.cells cur A fz')):=by
  simp [execOp,s.eval hx,convert,hX,hE,hrun]
 rw [hex]
 obtain ⟨S',hS'⟩:=setS_some [(b,.cells cur A fz')] hS
 refine h _ _ hS' (.inr ⟨b,cur,rfl,⟨fz',hz',rfl⟩,h1,h2,h3,h4⟩) _ _ (Sat.put (dst:=some d) ?_ hd _)
 obtain ⟨A1,B1,p,e1,e2,e3⟩:=setS_spec hS'
 rw [hS] at e3;cases e3
 refine s.setBlockG (A:=E++A1.flatten) (B:=B1.flatten) (o:=.cells cur A fz) ?_ ?_
 ·simp [Hp.all,e1]
 simp [Hp.all,e2]
end
theorem repH_self {b:Blk}:∀{H:SH} {t:Nat},lookH H t=some b→repH H t t b=H
 | [],t,h=>rfl
 | (k,x)::L,t,h=>by
  simp only [lookH] at h
  simp only [repH]
  cases hk:Nat.beq k t with
  | true=>rw [hk,cond_true] at h;cases h;have:=Nat.eq_of_beq_eq_true hk;subst this;rfl
  | false=>rw [hk,cond_false] at h;rw [cond_false,repH_self h]
def cvF:EvF:=fun b L H n op=>match op with
 | .convert X Y x=>match evS L x,lk b.t.und X with
  | some (.sl t),some (.slice e)=>match lk b.t.und e,lookH H t with
   | some (.int .u8),some (@Blk.row _ _ _ _ _ _ .no)=>bif Nat.beq X Y then some ([],some (.sl t),H,n) else none
   | _,_=>none
  | _,_=>none
 | _=>none
theorem cvF_ok {c:C4}:EvOk c cvF:=by
 intro b L H n op cs r H' n' hB h hc dst T pos af g hdr hd
 unfold cvF at h
 split at h
 ·rename_i X Y x;split at h
  ·rename_i t e hx hX;split at h
   ·rename_i α i N A xs m hE hl
    cases hb:Nat.beq X Y with
    | false=>rw [hb] at h;cases h
    | true =>
     rw [hb,cond_true] at h;cases h
     have:=Nat.eq_of_beq_eq_true hb;subst this
     cases dst with
     | none=>simp at hdr
     | some d =>
      refine ⟨rfl,OT.ofTX hd fun ρ F Fx o Lr hLr Q hk=>?_⟩
      obtain ⟨vx,e1,e2⟩:=evS_ok o.dens hx
      obtain ⟨FA,f,FB,rfl,⟨sp,cap,r1,r2,r3,r4⟩,hrep,hself⟩:=o.reps.look hl
      rw [SV.den,r1] at e1;cases e1
      have hFe:FA++f::FB++Fx=FA++f::(FB++Fx):=by simp
      rw [hFe]
      refine TX.cvt (si:=FA.length) (hB.t.und.mem _ (lk_mem hX)) (hB.t.und.mem _ (lk_mem hE)) (ev_ext hLr e2) getS_app r3 r4 hd fun Hs' S' hS ho=>?_
      rw [setS_app] at hS;cases hS
      have h9:=hrep ρ t (.row N A xs m .no) Hs' (Env.le_refl _) ⟨sp,cap,r1,r2,ho,r4⟩
      rw [repH_self hl] at h9
      have:=hk ρ (FA++Hs'::FB) (.slice sp m cap) o.grow0 (by rw [Option.getD_some,SV.den,r1];rfl) h9
      simpa [putS] using this
   cases h
  cases h
 cases h
def Ev.cv {c:C4}:Ev c:=.ot cvF cvF_ok
end Go.HW
namespace Go.HW
open Go Go.RowKit
section
variable {α:Type} [Inhabited α]
def kdF (N:Et α) (K:α→List Kid) (xs:List α) (j:Nat) (kd:Kid):EvF:=fun b L H n op=>match op with
 | .load A x=>match evS L x,lk b.t.agg A with
  | some (.e t i sz off),some false=>bif Nat.beq sz N.sz then
    some ([lookH H t=some (.rds N K xs),inb i xs.length=true,(K (gt xs i))[j]?=some kd,getI (N.it (gt xs i)) off=some (.v (.slice kd.sl.1 kd.sl.2.1 kd.sl.2.2))],some (.sl n),(n,@Blk.rd _ kd.ib kd.N kd.xs)::H,n+1) else none
  | _,_=>none
 | _=>none
theorem kdF_ok {c:C4} {N:Et α} {K:α→List Kid} {xs:List α} {j:Nat} {kd:Kid}:EvOk c (kdF N K xs j kd):=by
 intro b L H n op cs r H' n' hB h hc dst T pos af g hdr hd
 unfold kdF at h
 split at h
 ·rename_i A x;split at h
  ·rename_i t i sz off hx hag
   cases hb:Nat.beq sz N.sz with
   | false=>rw [hb] at h;cases h
   | true =>
    rw [hb,cond_true] at h;cases h
    have e1:=Nat.eq_of_beq_eq_true hb;subst e1
    obtain ⟨c1,c2⟩:=allP_cons hc
    obtain ⟨c2,c3⟩:=allP_cons c2
    obtain ⟨c3,c4⟩:=allP_cons c3
    have c4:getI (N.it (gt xs i)) off=some (.v (.slice kd.sl.1 kd.sl.2.1 kd.sl.2.2)):=c4
    cases dst with
    | none=>simp at hdr
    | some d =>
     refine ⟨rfl,OT.ofTX hd fun ρ F Fx o Lr hLr Q hk=>?_⟩
     obtain ⟨vx,x1,x2⟩:=evS_ok o.dens hx
     obtain ⟨FA,f,FB,e0,⟨sp,cap,q1,q2,q3,q4,q5⟩,_,_⟩:=o.reps.look c1
     rw [SV.den,q1] at x1
     simp only [Option.bind_some] at x1
     rw [c2,cond_true] at x1;cases x1
     have hkm:kd∈K (gt xs i):=List.mem_of_getElem? c3
     have hxm:gt xs i∈xs:=List.mem_of_getElem? (gt_some c2)
     obtain ⟨k1,k2,k3⟩:=q5 _ hxm _ hkm
     have hg:=Env.set_grow (ρ:=ρ) (n:=n) (l:=⟨kd.sl.1,kd.sl.2.2,kd.sl.2.1⟩) o.fr
     have hle:=hg.toLe o.fr
     have hself:ρ.set n ⟨kd.sl.1,kd.sl.2.2,kd.sl.2.1⟩ n=some ⟨kd.sl.1,kd.sl.2.2,kd.sl.2.1⟩:=Env.set_self
     obtain ⟨v,v1,v2⟩:=getL_dens c4 (N.hit ρ (gt xs i))
     rw [SV.den] at v1;cases v1
     refine TX.permL (H':=⟨[],[]::F++Fx⟩) (by simp [Hp.all]) ?_
     refine TX.loadR1 (N:=N.toEn) (xs:=xs) (hB.t.agg.mem _ (lk_mem hag)) (ev_ext hLr x2) (fun a w s=>q4 w s.ext) c2 v2 hd (hk _ ([]::F) _ hg (by rw [Option.getD_some,SV.den,hself];rfl) ⟨[],F,rfl,⟨kd.sl.1,kd.sl.2.2,by rw [hself,k2],rfl,k3,k1⟩,o.reps.mono hle⟩)
  cases h
 cases h
def Ev.kd {c:C4} (N:Et α) (K:α→List Kid) (xs:List α) (j:Nat) (kd:Kid):Ev c:=.ot (kdF N K xs j kd) kdF_ok
def ldOF (D:Od α) (A:TypeId) (xs:List α):EvF:=fun b L H n op=>match op with
 | .load A0 x=>match evS L x,lk b.t.agg A0 with
  | some (.e t i sz off),some false=>match getI (D.its (gt xs i) (.sl n)) off with
   | some (.sl m)=>bif Nat.beq sz D.E.sz&&Nat.beq m n then
     some ([lookH H t=some (.ex (pO D A xs) []),inb i xs.length=true],some (.sl n),(n,@Blk.row _ D.ib D.N D.e (D.g (gt xs i)) (D.g (gt xs i)).length .unk)::repH H t t (.ex (pH D A xs i (gt xs i)) [.sl n]),n+1) else none
   | _=>none
  | _,_=>none
 | _=>none
theorem ldOF_ok {c:C4} {D:Od α} {A:TypeId} {xs:List α}:EvOk c (ldOF D A xs):=by
 intro b L H n op cs r H' n' hB h hc dst T pos af g hdr hd
 unfold ldOF at h
 split at h
 ·rename_i A0 x;split at h
  ·rename_i t i sz off hx hag;split at h
   ·rename_i m hv
    cases hb:Nat.beq sz D.E.sz&&Nat.beq m n with
    | false=>rw [hb] at h;cases h
    | true =>
     rw [hb,cond_true] at h;cases h
     simp only [Bool.and_eq_true] at hb
     have e1:=Nat.eq_of_beq_eq_true hb.1;subst e1
     have e2:=Nat.eq_of_beq_eq_true hb.2;subst e2
     obtain ⟨c1,c2⟩:=allP_cons hc
     have c2:inb i xs.length=true:=c2
     cases dst with
     | none=>simp at hdr
     | some d =>
      refine ⟨rfl,OT.ofTX hd fun ρ F Fx o Lr hLr Q hk=>?_⟩
      obtain ⟨vx,x1,x2⟩:=evS_ok o.dens hx
      obtain ⟨FA,f,FB,rfl,⟨l,vs,q1,q2,q3,sls,H0,rs,h1,h2,h3,rfl⟩,hrep,_⟩:=o.reps.look c1
      rw [SV.den,q1] at x1
      simp only [Option.bind_some] at x1
      rw [show inb i l.len=true from by rw [q3];exact c2,cond_true] at x1;cases x1
      have hx0:=gt_some (α:=α) c2
      have hk0:=inb_iff.1 c2
      have hkl:i.toNat < sls.length:=by omega
      have hs0:sls[i.toNat]?=some sls[i.toNat]:=List.getElem?_eq_getElem hkl
      generalize hsd:sls[i.toNat]=s at hs0
      obtain ⟨rs1,q,rs2,rfl,g1,g2,g3⟩:=InAll.openW h3 (by rw [List.getElem?_map,hx0];rfl) hs0
      have hg:=Env.set_grow (ρ:=ρ) (n:=m) (l:=⟨s.1,s.2.2,s.2.1⟩) o.fr
      have hle:=hg.toLe o.fr
      have hself:ρ.set m ⟨s.1,s.2.2,s.2.1⟩ m=some ⟨s.1,s.2.2,s.2.1⟩:=Env.set_self
      have hz0:(xs.zip sls)[i.toNat]?=some (gt xs i,s):=by rw [List.getElem?_zip_eq_some];exact ⟨hx0,hs0⟩
      have hzl:(xs.zip sls).length=xs.length:=by simp [h1]
      have hkz:inb i (xs.zip sls).length=true:=by rw [hzl];exact c2
      have hz:gt (xs.zip sls) i=(gt xs i,s):=by
       have a1:=gt_some hkz
       rw [hz0] at a1
       exact (Option.some.inj a1).symm
      obtain ⟨v,v1,v2⟩:=getI_spec hv (D.hits (ρ.set m ⟨s.1,s.2.2,s.2.1⟩) (gt xs i) m s hself)
      have hR:=hrep _ t (.ex (pH D A xs i (gt xs i)) [.sl m]) (H0++(rs1++rs2).flatten) hle ⟨l,[.slice s.1 s.2.1 s.2.2],hle _ _ q1,denAll_dens (l:=[.sl m]) ⟨by rw [SV.den,hself];rfl,trivial⟩,sls,H0,rs1,rs2,s,q3,c2,h1,rfl,
       by rw [set_self_of hz0];exact h2,g3,rfl⟩
      have hkk:=hk _ (q::(FA++(H0++(rs1++rs2).flatten)::FB)) v hg (by rw [Option.getD_some];exact v1) ⟨q,_,rfl,⟨s.1,s.2.2,by rw [hself,g2],rfl,g1,trivial⟩,hR⟩
      have hp:(⟨[],q::(FA++(H0++(rs1++rs2).flatten)::FB)++Fx⟩:Hp).all.Perm (⟨[],FA++(H0++(rs1++q::rs2).flatten)::FB++Fx⟩:Hp).all:=by
       simp only [Hp.all,List.nil_append,List.flatten_append,List.flatten_cons,List.append_assoc,List.cons_append]
       have:=perm_mid (FA.flatten++H0) rs1.flatten rs2.flatten (FB.flatten++Fx.flatten) q
       simpa [List.append_assoc] using this.symm
      refine TX.permL hp.symm ?_
      refine TX.loadR1 (N:=D.E) (xs:=xs.zip sls) (hB.t.agg.mem _ (lk_mem hag)) (ev_ext hLr x2) (fun a w s=>h2.rdm s fun p hp=>?_) hkz (by rw [hz];exact getL_of v2) hd hkk
      simp only [Hp.all,List.nil_append,List.flatten_append,List.flatten_cons,List.mem_append,List.cons_append]
      exact .inr (.inl (.inr (.inl (.inl hp))))
   cases h
  cases h
 cases h
def Ev.lO {c:C4} (D:Od α) (A:TypeId) (xs:List α):Ev c:=.ot (ldOF D A xs) ldOF_ok
end
theorem Imp.nilOC {c:C4} {α:Type} [Inhabited α] (D:Od α) (A:TypeId) (t off:Nat) {T:TypeId} {is is':List SV} {L:SL} {H:SH} {n:Nat} (hl:lookH H t=some (.cells T is)) (hg:getI is off=some (.v (.slice none 0 0))) (hp:pasteI is off 1 [.sl n]=some is') :
  Imp c ⟨L,H,n⟩ ⟨L,(n,.ex (pO D A []) [])::repH H t t (.cells T is'),n+1⟩:=by
 intro ρ F a w hs
 have hgr:=Env.set_grow (ρ:=ρ) (n:=n) (l:=⟨none,0,0⟩) hs.ok.fr
 have hle:=hgr.toLe hs.ok.fr
 have hρ:ρ.set n ⟨none,0,0⟩ n=some ⟨none,0,0⟩:=by simp [Env.set]
 have hd:(SV.sl n).den (ρ.set n ⟨none,0,0⟩)=some (.slice none 0 0):=by rw [SV.den,hρ];rfl
 obtain ⟨FA,f,FB,rfl,⟨b,vs,h7,h8,h9⟩,hr,_⟩:=hs.ok.reps.look hl
 obtain ⟨z,z1,z2⟩:=getI_spec hg h8
 rw [SV.den] at z1;cases z1
 have h8':=dens_mono hle h8
 obtain ⟨p1,p2⟩:=pasteI_spec hp h8' (us:=[.slice none 0 0]) (dens_cons_some.2 ⟨[_],[],deni_of hd,dens_nil,rfl⟩)
 have hvs:vs.take off++([.slice none 0 0]++vs.drop (off+1))=vs:=by
  obtain ⟨hlt,hz⟩:=List.getElem?_eq_some_iff.1 z2
  rw [← hz]
  have:=List.take_append_drop off vs
  rw [List.drop_eq_getElem_cons hlt] at this
  simpa using this
 rw [hvs] at p1
 have hR:=hr _ t (.cells T is') f hle ⟨b,vs,blkOf_mono hle h7,p1,h9⟩
 refine ⟨ρ.set n ⟨none,0,0⟩,[]::(FA++f::FB),⟨⟨hs.ok.dens.mono hle,⟨[],_,rfl,⟨_,[],hρ,dens_nil,rfl,[],[],[],rfl,OwnL.nil _ _,trivial,rfl⟩,hR⟩,hgr.fr,fun u hu=>?_,Nat.le_succ_of_le hs.ok.mle⟩,?_⟩⟩
 ·have:=hs.ok.mle
  rw [hgr.old u (by simp only at this;omega)];exact hs.ok.pin u hu
 have s1:=hs.sat
 refine ⟨s1.size,s1.defers,fun u v hl=>?_,s1.ext,by simpa [Hp.all] using s1.nodup,by simpa [Hp.all] using s1.heap,by simpa [Hp.all] using s1.own⟩
 rw [realL_mono hle hs.ok.dens] at hl
 exact s1.slots u v hl
def frk1 {α γ:Type} (x:Option α) (f:α→Option γ):Option γ:=match x with
 | some a=>f a
 | none=>none
def frk2 {α β γ:Type} (x:Option (α⊕β)) (f:α→Option γ) (g:β→Option γ):Option γ:=match x with
 | some (.inl a)=>f a
 | some (.inr b)=>g b
 | none=>none
theorem fk1 {α γ:Type} {x:Option α} {f:α→Option γ} {r:γ} {G:Prop} (h:frk1 x f=some r) (h1:∀v,x=some v→f v=some r→G):G:=by
 unfold frk1 at h
 split at h
 ·exact h1 _ rfl h
 cases h
theorem fk2 {α β γ:Type} {x:Option (α⊕β)} {f:α→Option γ} {g:β→Option γ} {r:γ} {G:Prop} (h:frk2 x f g=some r) (h1:∀v,x=some (.inl v)→f v=some r→G) (h2:∀v,x=some (.inr v)→g v=some r→G):G:=by
 unfold frk2 at h
 split at h
 ·exact h1 _ rfl h
 ·exact h2 _ rfl h
 cases h
def cutO:List Oper→Nat→Option (List Oper×Oper×List Oper)
 | [],_=>none
 | o::l,0=>some ([],o,l)
 | x::l,j+1=>match cutO l j with
  | some (a,o,b)=>some (x::a,o,b)
  | none=>none
theorem cutO_spec:∀{l:List Oper} {j:Nat} {a b:List Oper} {o:Oper},cutO l j=some (a,o,b)→l=a++o::b
 | [],_,a,b,o,h=>by simp only [cutO] at h;cases h
 | x::l,0,a,b,o,h=>by
  simp only [cutO,Option.some.injEq,Prod.mk.injEq] at h
  obtain ⟨rfl,rfl,rfl⟩:=h;rfl
 | x::l,j+1,a,b,o,h=>by
  simp only [cutO] at h
  cases h':cutO l j with
  | none=>rw [h'] at h;cases h
  | some q =>
   obtain ⟨a',o',b'⟩:=q
   rw [h'] at h
   simp only [Option.some.injEq,Prod.mk.injEq] at h
   obtain ⟨rfl,rfl,rfl⟩:=h
   rw [cutO_spec h'];rfl
section
variable {c:C4} {Q:Exit→Act→World→Prop}
theorem OXC {b:TB} (hB:TBOk c.P b) (σ:List Nat) {k:FuncId} {cargs:List SV} {cH cH':SH} {m m':Nat} {v:Value} (con:ConX c.P k cargs cH m v cH' m') {cs:List Prop} (hc:allP cs)
  {d:Option Nat} {op:Op} {T:TypeId} {pos:String} {af:Array Edge} {g:Option (Nat×Bool)} {L:SL} {H H2:SH} {n n2:Nat}
  (h:cxO b L H n op σ k cargs cH m cH' m'=some (cs,H2,n2)):OX c ⟨d,op,T,pos,af,g⟩ ⟨L,H,n⟩ (.panic [{ v:=v,recovered:=false }]) H2 n2:=by
 unfold cxO at h
 split at h
 ·rename_i f args ats;split at h
  ·rename_i k' fi ca vs bs H1 hf ha hO
   cases hb:Nat.beq k' k&&hasN b.e.cal k&&(ltAll n σ&&Nat.beq σ.length m&&Nat.ble m m'&&allOwn cH') with
   | false=>rw [hb] at h;cases h
   | true =>
    rw [hb,cond_true] at h;cases h
    simp only [Bool.and_eq_true] at hb
    obtain ⟨⟨b1,b2⟩,b3⟩:=hb
    have:=Nat.eq_of_beq_eq_true b1;subst this
    obtain ⟨c1,c2⟩:=allP_cons hc
    obtain ⟨c2,c3⟩:=allP_cons c2
    have c3:rdsOf σ H1 cH=some (rdsW cH):=c3
    exact OX.call σ con (hB.e.cal.mem _ (hasN_mem b2)) hf ha c1 (by rw [hO,c2]) c3 (by simp only [Bool.and_eq_true];exact b3)
  cases h
 cases h
theorem DC_ {b:TB} (hB:TBOk c.P b) (hmx:c.P.follows .mixedOrders=true) (j:Nat) (ts:List (List Nat×List Nat)) (es:List (Ev c)) {cs:List Prop} (hc:allP cs) (σ:List Nat) {k:FuncId} {cargs:List SV} {cH cH':SH} {m m':Nat} {v:Value}
  (con:ConX c.P k cargs cH m v cH' m') {cs2:List Prop} (hc2:allP cs2) (kp:List Nat) {id:Nat} {ops:Array Oper} {K:List Fr} {L:SL} {H H2:SH} {n n2:Nat} {s':St}
  {l1 l2:List Oper} {d:Option Nat} {op:Op} {T:TypeId} {pos:String} {af:Array Edge} (g:G4 c Q (.exit (.panic [{ v:=v,recovered:=false }]) []) ⟨s'.L,H2,n2⟩)
  (hl:cutO ops.toList j=some (l1,⟨d,op,T,pos,af,none⟩,l2):=by rfl)
  (hup:upB l1 l1.length (fun t=>bindsOn ⟨d,op,T,pos,af,none⟩ t)=true:=by rfl) (hdn:l2.all (dnB l1.length)=true:=by rfl) (hgd:l1.all (fun x=>gdB x l1.length)=true:=by rfl) (hback:backB (l1++⟨d,op,T,pos,af,none⟩::l2) 0=true:=by rfl)
  (h:drawR b kp c.n l1 L H n ts es=some (cs,s'):=by rfl) (hon:notDefer op=true:=by rfl) (hx:cxO b s'.L s'.H s'.n op σ k cargs cH m cH' m'=some (cs2,H2,n2):=by rfl):G4 c Q (.code (.region id ops true) K) ⟨L,H,n⟩ :=
 DRX hB hmx kp ts es hc (cutO_spec hl) hup hdn hgd hback h rfl hon (OXC hB σ con hc2 hx) g
end
section
variable {c:C4} {α:Type} [Inhabited α] {D:Od α} {A:TypeId}
theorem Imp.closeS (t u:Nat) {xs:List α} {i:Int} {r:List D.β} {m:Nat} {kk:NK} {L:SL} {H:SH} {n:Nat} (hl:lookH H t=some (.ex (pH D A xs i (gt xs i)) [.sl u])) (hu:lookH H u=some (@Blk.row _ D.ib D.N D.e r m kk))
  (hl2:lookH (delH H u) t=some (.ex (pH D A xs i (gt xs i)) [.sl u])) (hr:r=D.g (gt xs i)):Imp c ⟨L,H,n⟩ ⟨L,repH (delH H u) t t (.ex (pO D A xs) []),n⟩:=by
 intro ρ F a w hs
 have hi:inb i xs.length=true:=by
  obtain ⟨FA,f,FB,_,⟨l,vs,q1,q2,sls,H0,rs1,rs2,s,q3,q4,_⟩,_,_⟩:=hs.ok.reps.look hl
  exact q4
 have h:=Imp.closeO (c:=c) (n:=n) (L:=L) t u hl hu hl2
 subst hr
 have e:xs.set i.toNat (D.put (gt xs i) (D.g (gt xs i)))=xs:=by rw [D.self];exact set_self_of (gt_some hi)
 rw [e] at h
 exact h ρ F a w hs
end
section
variable {c:C4}
theorem Imp.rowL (t:Nat) {α:Type} [i:Inhabited α] {N:Et α} {e A:TypeId} {xs:List (List α)} {m:Nat} {L:SL} {H:SH} {n:Nat} (hl:lookH H t=some (@Blk.rowL α i N e A xs m)):Imp c ⟨L,H,n⟩ ⟨L,repH H t t (@Blk.rowL α i N e A xs xs.length),n⟩:=by
 intro ρ F a w hs
 obtain ⟨FA,f,FB,rfl,⟨sp,cap,h1,h2,h3⟩,hr,_⟩:=hs.ok.reps.look hl
 subst h2
 exact ⟨ρ,FA++f::FB,⟨⟨hs.ok.dens,hr ρ t _ f (Env.le_refl _) ⟨sp,cap,h1,rfl,h3⟩,hs.ok.fr,hs.ok.pin,hs.ok.mle⟩,hs.sat⟩⟩
end
def IterOkP {σ α:Type} (c:Cx) (L:Slots) (k:FuncId) (fi ca:List Value) (Sc:List Blocks) (Φ:List Blocks→Prop) (I:σ→Hp→Prop) (enc:α→List Value) (step:σ×Nat→α→Option (σ×Nat)) (s0 s1:σ×Nat):Prop :=
 ∀(w:World) (yv:Value) (J:σ×Nat→Blocks→Prop) (Hs0:Blocks),JDec I J→ExtB c.w0 c.R0 w ((⟨[],Sc++[Hs0]⟩:Hp).all.map (·.1))→HpOk w ⟨[],Sc++[Hs0]⟩ →
  Yld c.P w ((⟨[],Sc++[Hs0]⟩:Hp).all.map (·.1)) yv J enc step goR→J s0 Hs0 →
  Ret c.P k (fi++([yv]++ca)) w ⟨[],Sc++[Hs0]⟩ fun v R'=>∃Hs1 Sc1,J s1 Hs1∧Φ Sc1∧R'=⟨[],Sc1++[Hs1]⟩
theorem range_coreP {σ α:Type} {c:Cx} {L:Slots} {Q:Exit→Act→World→Prop} {g:Operand} {k:FuncId} {fi ca:List Value} {ps:List Nat} {assign body:Code} {E1:Blocks} {S1 Sc:List Blocks} {Φ:List Blocks→Prop} {Ed:Nat→Blocks} {I:σ→Hp→Prop}
  {enc:α→List Value} {stepB:σ→α→Option (σ×Nat)} {s0 s1:σ} {m1:Nat} {mk:Nat→List Deferred} {a:Act} {w:World}
  (hk:∀(args:Array Value) (w:World),(callFunc k args).run c.P w=.ok (.enter k args) w)
  (hg:ev L g=some (.func (.func k) fi.toArray ca.toArray)) (hps:∀p∈ps,p < c.n) (henc:∀x,(enc x).length=ps.length)
  (hi:IterOkP c L k fi ca Sc Φ I enc (stepR stepB) (s0,0) (s1,m1)) (hI:I s0 ⟨E1,S1⟩) (hr:Rounds c L ps assign body Ed I enc stepB)
  (he:∀fn,∃l r w1 lr,(Instr.enterLoop fn a.tmps ps.toArray assign body c.ro).run c.P w=.ok (l,mk r) w1∧LoopAt lr a.tmps ps.toArray assign body 0 r ∧
   Sat c L ((⟨[],Sc⟩:Hp).add ⟨(l,.loop lr)::(Ed r++E1),S1⟩) a w1)
  (hq:∀l r lr a' w' H1 Sc1,I s1 H1→Φ Sc1→a'.tmps=a.tmps→a'.defers=mk r++a.defers→Sat c L ((⟨[],Sc1⟩:Hp).add ⟨(l,.loop lr)::(Ed r++H1.E),H1.S⟩) a w'→Q (exitOf m1) a' w') :
  (Code.rangeFunc g ps.toArray assign body).wpIn (FW c.ro) 1 c.P Q a w:=by
 refine wpIn_rangeFunc fun fn _=>?_
 obtain ⟨l,r,w1,lr,hent,hat,s⟩:=he fn
 have hgv:a.eval g=.func (.func k) fi.toArray ca.toArray:=s.eval hg
 refine ⟨l,mk r,w1,{ target:=.fn (.func k) ca.toArray,args:=fi.toArray++#[Value.func (.yield l) #[] #[]] },w1,k,(fi++([Value.func (.yield l) #[] #[]]++ca)).toArray,w1,hent,?_,fun _ _=>trivial,?_,by simp [FW],?_⟩
 ·simp only [resolve,hgv]
  simp [Deferred.ofValue,Act.eval]
 ·simp [invoke,hk]
 have hp:((⟨[],Sc++[(⟨(l,.loop lr)::(Ed r++E1),S1⟩:Hp).all]⟩:Hp).add Hp.nil).all.Perm ((⟨[],Sc⟩:Hp).add ⟨(l,.loop lr)::(Ed r++E1),S1⟩).all:=by
  refine (Hp.add_perm _ _).trans (List.Perm.trans ?_ (Hp.add_perm _ _).symm)
  simp [Hp.all]
 have sp:=s.perm hp
 have hall:∀X:Hp,(X.add Hp.nil).all=X.all:=fun X=>by simp [Hp.add,Hp.all]
 have hok:HpOk w1 ⟨[],Sc++[(⟨(l,.loop lr)::(Ed r++E1),S1⟩:Hp).all]⟩:=⟨fun p hp=>sp.heap p (by rw [hall];exact hp),by have:=sp.nodup;rwa [hall] at this⟩
 have hx:=sp.extB
 have hJ:JO a.tmps ps.toArray assign body l r (Ed r) I (s0,0) (⟨(l,.loop lr)::(Ed r++E1),S1⟩:Hp).all:=⟨⟨E1,S1⟩,lr,hI,hat,rfl⟩
 have hy:=yld_of (a:=a) (L:=L) (l:=l) (r:=r) (lr:=lr) (Ed:=Ed) (I:=I) s hx hps henc hr
 have hcall:=hi w1 (.func (.yield l) #[] #[]) (JO a.tmps ps.toArray assign body l r (Ed r) I) _ JO.dec hx hok hy hJ
 refine callsIn_FW (Calls.mono hcall ?_)
 rintro e w2 ⟨v,R',rfl,heff,Hs1,Sc1,⟨H1,lr1,hI1,hat1,rfl⟩,hΦ,rfl⟩
 have s2:=(sp.eff heff).perm (H':=(⟨[],Sc1⟩:Hp).add ⟨(l,.loop lr1)::(Ed r++H1.E),H1.S⟩) (by
  refine (Hp.add_perm _ _).trans (List.Perm.trans ?_ (Hp.add_perm _ _).symm)
  simp [Hp.all])
 have hb:w2.heap[l]?=some (.loop lr1):=s2.heap (l,.loop lr1) ((Hp.add_perm _ _).mem_iff.2 (by simp [Hp.all]))
 have hnb:lr1.state≠.busy:=by rw [hat1.state,stOf];split <;> simp
 have s3:Sat c L ((⟨[],Sc1⟩:Hp).add ⟨(l,.loop { lr1 with state:=.exhausted })::(Ed r++H1.E),H1.S⟩) a (World.withBlock w2 l (.loop { lr1 with state:=.exhausted })):=by
  refine s2.setBlockG (o:=.loop lr1) (A:=[]) (B:=(Ed r++H1.E)++(Sc1++H1.S).flatten) ?_ ?_ <;> simp [Hp.all,Hp.add]
 have hfin:=hq l r _ { a with defers:=mk r++a.defers } _ H1 Sc1 hI1 hΦ rfl rfl s3
 refine ⟨lr1.pending,_,endLoop_run hb hnb,?_⟩
 generalize World.withBlock w2 l (.loop { lr1 with state:=.exhausted })=w3 at hfin ⊢
 rw [hat1.pending]
 rcases m1 with _ | _ | m1
 ·exact hfin
 ·exact wpIn_ret hfin
 exact wpIn_exit hfin
theorem TC.rangeOP {σ α:Type} {P:Program} {w0:World} {R0:List Nat} {n:Nat} {ds:List Deferred} {L:Slots} {Q:Exit→Act→World→Prop} {g:Operand} {k:FuncId} {fi ca:List Value} (ps:List Nat) {assign body:Code} {Sc S1:List Blocks} {Φ:List Blocks→Prop}
  (I:σ→Hp→Prop) (enc:α→List Value) (stepB:σ→α→Option (σ×Nat)) (s0 s1:σ) (m1:Nat)
  (hk:∀(args:Array Value) (w:World),(callFunc k args).run P w=.ok (.enter k args) w)
  (hg:ev L g=some (.func (.func k) fi.toArray ca.toArray)) (hps:ps.all (fun p=>Nat.blt p n)=true) (henc:∀x,(enc x).length=ps.length)
  (hI:I s0 ⟨[],S1⟩)
  (hi:IterOkP ⟨P,none,w0,R0,n,ds⟩ L k fi ca Sc Φ I enc (stepR stepB) (s0,0) (s1,m1))
  (hr:Rounds ⟨P,none,w0,R0,n,ds⟩ L ps assign body (fun r=>[(r,.deferred (some []))]) I enc stepB)
  (hq:∀r H1 Sc1,I s1 H1→Φ Sc1→TE Q (exitOf m1) ⟨P,none,w0,R0,n,{ target:=.collected r,args:=#[] }::ds⟩ L ⟨(r,.deferred (some []))::H1.E,Sc1++H1.S⟩) :
  TC ⟨P,none,w0,R0,n,ds⟩ (.rangeFunc g ps.toArray assign body) Q L ⟨[],Sc++S1⟩:=by
 intro a w s
 refine range_coreP (Ed:=fun r=>[(r,.deferred (some []))]) (mk:=fun r=>[{ target:=.collected r,args:=#[] }]) hk hg (fun p hp=>by simpa [Nat.blt_eq] using List.all_eq_true.1 hps p hp) henc hi hI hr ?_ ?_
 ·intro fn
  have s1:=(s.alloc (.deferred (some []))).alloc (.loop { state:=.ready,pending:=none,fn,tmps:=a.tmps,params:=ps.toArray,assign,body,defers:=w.heap.size })
  have e:({ w with heap:=w.heap.push (.deferred (some [])) }:World).heap.size=w.heap.size+1:=by simp
  rw [e] at s1
  refine ⟨_,w.heap.size,_,{ state:=.ready,pending:=none,fn,tmps:=a.tmps,params:=ps.toArray,assign,body,defers:=w.heap.size },enterLoop_run0,⟨rfl,rfl,rfl,rfl,rfl,rfl,rfl⟩,?_⟩
  exact s1.perm (by simp [Hp.all,Hp.add])
 intro l r lr a' w' H1 Sc1 hI1 hΦ ht hd s'
 refine hq r H1 Sc1 hI1 hΦ a' w' (Sat.act ht (by rw [hd,s'.defers];rfl) (s'.weak (fun _ _ h=>h) ?_))
 simp only [Hp.all,Hp.add,List.nil_append,List.cons_append]
 exact List.sublist_cons_self _ _
section
variable {P:Program} {w0:World} {R0:List Nat} {N:Nat} {ds:List Deferred} {gl:GlF w0 R0} {ρ0:Env} {m:Nat}
theorem ltL_dens {ρ ρ':Env} {np:Nat} (h1:∀t,t < np→ρ' t=ρ t):∀{L:SL},ltL np L=true→DensL ρ L→DensL ρ' L∧realL ρ' L=realL ρ L
 | [],_,_=>⟨trivial,rfl⟩
 | (t,y)::L,hl,⟨⟨v,hv⟩,hd⟩=>by
  simp only [ltL,Bool.and_eq_true] at hl
  have hh:=SV.lt_den (fun u hu=>(h1 u hu).symm) hl.1
  obtain ⟨j1,j2⟩:=ltL_dens h1 hl.2 hd
  exact ⟨⟨⟨v,by rw [hh];exact hv⟩,j1⟩,by simp only [realL,hh,j2]⟩
theorem sel_old {ρ ρ':Env} {τ:List Nat} {np:Nat} (h1:∀t,t < np→ρ' t=ρ t) (hτ:ltAll np τ=true):ρ'.sel τ=ρ.sel τ:=by
 funext t
 simp only [Env.sel]
 cases ht:tgO τ t with
 | none=>rfl
 | some u=>exact h1 u (ltAll_spec hτ u (by rw [tgO_eq] at ht;exact List.mem_of_getElem? ht))
theorem RFO {σ α:Type} {k:FuncId} {g:Operand} (ps:List Nat) {assign body:Code} {K:List Fr} {Q:Exit→Act→World→Prop} {L:SL} {n:Nat}
  (Y:Yn α) (HI:SH) (TS:σ→SH) (RD:SH) (np mI:Nat) (τ:List Nat) (cca:List SV) (T0:TypeId) (l0:List SV) (cI:SH) (stepB:σ→α→Option (σ×Nat)) (s0 s1:σ) (m1:Nat) {ca:List SV}
  (hk:∀(args:Array Value) (w:World),(callFunc k args).run P w=.ok (.enter k args) w)
  (hg:evS L g=some (.fn (.func k) [] ca)) (hca:ca=SV.rens τ cca) (hT0:takesH τ HI ((0,.cells T0 l0)::cI)=some (renBs τ ((0,.cells T0 l0)::cI)))
  (hb:(Nat.ble m np&&Nat.ble np n&&ltAll np τ&&Nat.beq τ.length mI&&ltL np L&&ltH np RD&&allRd RD&&ps.all (fun p=>Nat.blt p N)&&allOwn ((0,.cells T0 l0)::cI)&&Nat.blt 0 mI&&ltH mI ((0,.cells T0 l0)::cI))=true)
  (hlen:∀l x,(Y.val l x).length=ps.length) (hYP:∀l,Y.P l) (hT:∀s,(ltH n (TS s)&&allOwn (TS s))=true)
  (hI:∀(yv:Value) (J:σ×Nat→Blocks→Prop),ConY P k (.v yv::cca) ((0,.cells T0 l0)::cI++[(mI,.bx (J (s0,0)))]) (mI+1) (.tu []) ((0,.cells T0 l0)::cI++[(mI,.bx (J (s1,m1)))]) (mI+1) (fun w R ρ=>YldY P w R ρ 0 yv J Y (stepR stepB) goR))
  (hr:RoundsY P w0 R0 N ps assign body Y TS RD L np n ((τ.head?).getD 0) stepB)
  (hq:∀r,G4 ⟨⟨P,none,w0,R0,N,{ target:=.collected r,args:=#[] }::ds⟩,ρ0,m,gl⟩ Q (.exit (exitOf m1) K) ⟨L,(n,.bx (fun f=>f=[(r,.deferred (some []))]))::nH τ (TS s1++RD) ((0,.cells T0 l0)::cI),n+1⟩) :
  G4 ⟨⟨P,none,w0,R0,N,ds⟩,ρ0,m,gl⟩ Q (.code (.rangeFunc g ps.toArray assign body) K) ⟨L,HI++(TS s0++RD),n⟩:=by
 simp only [Bool.and_eq_true] at hb
 obtain ⟨⟨⟨⟨⟨⟨⟨⟨⟨⟨b1,b2⟩,bτ⟩,bm⟩,b5⟩,b6⟩,b7⟩,b8⟩,b9⟩,b10⟩,b11⟩:=hb
 have b1:=Nat.le_of_ble_eq_true b1
 have b2:=Nat.le_of_ble_eq_true b2
 have bm:=Nat.eq_of_beq_eq_true bm
 have b10:0 < mI:=by simpa [Nat.blt_eq] using b10
 have hT1:=fun s=>(Bool.and_eq_true _ _▸hT s).1
 have hT2:=fun s=>(Bool.and_eq_true _ _▸hT s).2
 generalize hcI:((0,.cells T0 l0)::cI:SH)=cH at *
 intro ρ F a w hs
 obtain ⟨FI,F1,rfl,r0,hR1⟩:=Reps.append.1 hs.ok.reps
 obtain ⟨FT,FR,rfl,r1,r2⟩:=Reps.append.1 hR1
 have hFR:=Reps.rdNil b7 r2
 obtain ⟨Fc,G,k1,k2⟩:=takesH_ren r0 hT0
 obtain ⟨vg,g1,g2⟩:=evS_ok hs.ok.dens hg
 rw [SV.den,dens_nil] at g1
 simp only [Option.bind_some] at g1
 obtain ⟨cav,g3,g4⟩:=Option.map_eq_some_iff.1 g1
 subst g4
 have hcav:SV.dens (ρ.sel τ) cca=some cav:=dens_ren (by rw [← hca];exact g3)
 obtain ⟨ll0,hll0⟩:∃l,ρ.sel τ 0=some l:=by
  rw [← hcI] at k1
  obtain ⟨f,F',_,⟨b,vs,h1,_,_⟩,_⟩:=k1
  cases hx:ρ.sel τ 0 with
  | none=>rw [hx] at h1;cases h1
  | some l=>exact ⟨l,rfl⟩
 have htr:ρ ((τ.head?).getD 0)=some ll0:=by
  cases τ with
  | nil=>simp at bm;omega
  | cons u τ=>exact hll0
 have htrlt:(τ.head?).getD 0 < np:=by
  cases τ with
  | nil=>simp at bm;omega
  | cons u τ=>exact ltAll_spec bτ u (by simp)
 have s2:Sat ⟨P,none,w0,R0,N,ds⟩ (realL ρ L) ⟨[],Fc++FT⟩ a w:=by
  refine (hs.sat.perm (H':=⟨[],(Fc++G)++(FT++FR)⟩) ?_).weak (fun _ _ h=>h) ?_
  ·simp only [Hp.all,List.nil_append,List.flatten_append]
   have:=k2.flatten
   simp only [List.flatten_append] at this
   exact this.append_right _
  simp only [Hp.all,List.nil_append,List.flatten_append,hFR,List.append_nil]
  exact List.Sublist.append (List.sublist_append_left _ _) (List.Sublist.refl _)
 refine TC.rangeOP (fi:=[]) (ca:=cav) (Φ:=fun Sc=>Reps (cB P w0 []) (ρ.sel τ) cH Sc) ps
  (fun s H'=>∃ρ' F',(∀t,t < np→ρ' t=ρ t)∧(∀t,n≤t→ρ' t=none)∧Reps (⟨P,none,w0,R0,N,ds⟩:Cx) ρ' (TS s) F'∧H'=⟨[],F'⟩)
  (Y.val ll0) stepB s0 s1 m1 hk g2 b8 (hlen _) ⟨ρ,FT,fun _ _=>rfl,hs.ok.fr,r1,rfl⟩ ?_ ?_ ?_ a w s2
 ·-- the iterator
  intro w1 yv J Hs0 hdec hx hok hy hJ
  let ρc:Env:=fun t=>if t < mI then ρ.sel τ t else if t=mI then some ⟨none,0,0⟩ else none
  have c1:∀t,t < mI→ρc t=ρ.sel τ t:=fun t ht=>by simp only [ρc,ht,if_true]
  have c2:ρc mI=some ⟨none,0,0⟩:=by simp [ρc]
  have c3:Env.le (ρ.sel τ) ρc:=fun t l e=>by
   rcases Nat.lt_or_ge t mI with ht | ht
   ·rw [c1 t ht];exact e
   simp [Env.sel,tgO_none (σ:=τ) (t:=t) (by omega)] at e
  have hall:(⟨[],Fc++[Hs0]⟩:Hp).all=(Fc++[Hs0]).flatten:=by simp [Hp.all]
  have hret:=hI yv J w1 ρc (Fc++[Hs0]) (yv::cav) (dens_cons_some.2 ⟨[yv],cav,by simp [SV.deni,SV.den],dens_mono c3 hcav,rfl⟩)
   (Reps.append.2 ⟨Fc,[Hs0],rfl,Reps.ownTr (n:=mI) (c:=(⟨P,none,w0,R0,N,ds⟩:Cx)) c1 b9 b11 k1,Hs0,[],rfl,⟨⟨_,c2⟩,hJ⟩,rfl⟩)
   (fun t ht=>by simp only [ρc];rw [if_neg (by omega),if_neg (by omega)]) (by rw [← hall];exact hok.1) (by rw [← hall];exact hok.2) (gl.tr (by rw [← hall];exact hx)) (by rw [← hall];exact ⟨ll0,by rw [c1 0 b10];exact hll0,hYP _,hy⟩)
  refine Ret.mono hret ?_
  rintro v R' ⟨cc,ρ',F',rfl,hgr,_,hR'⟩
  obtain ⟨FA,FB,rfl,p1,f3,F3,rfl,⟨_,hJ1⟩,hnil⟩:=Reps.append.1 hR'
  have hnil:F3=[]:=hnil
  subst hnil
  exact ⟨f3,FA,hJ1,Reps.ownTr (n:=mI) (fun t ht=>by rw [hgr.old t (by omega),c1 t ht]) b9 b11 p1,rfl⟩
 ·-- the rounds
  rintro l r lr w' R s x s' mm _ Rr hrdy hst ⟨ρ',F',h1,h2,h3,rfl⟩ hx hcont a2 w2 sat2
  obtain ⟨hL1,hL2⟩:=ltL_dens h1 b5 hs.ok.dens
  have hle:Env.le ρ' (ρ'.set n ⟨none,0,0⟩):=(Env.set_grow h2).toLe h2
  obtain ⟨i1,i2⟩:=argPS_ok (ps:=ps) (L:=L) (Y.ok (ρ'.set n ⟨none,0,0⟩) ((τ.head?).getD 0) ll0 x (hle _ _ (by rw [h1 _ htrlt];exact htr)) (hYP _)) (hL1.mono hle)
  rw [realL_mono hle hL1,hL2] at i2
  have hx2:ExtB w0 R0 w' R:=hx
  refine hr l w' R (gl.tr hx2) ρ (fun f=>f=[(l,.loop lr),(r,.deferred (some []))]) (fun f=>f=[(l,.loop { lr with state:=.busy }),(r,.deferred (some []))]) (RndQ P l body Rr) (roundPost P l Rr) s x s' mm (fun f hf=>⟨_,_,hf⟩) hst ?_ ?_
   (ρ'.set n ⟨none,0,0⟩) ([(l,.loop lr),(r,.deferred (some []))]::(F'++FR)) a2 w2 ⟨⟨i1,⟨_,_,rfl,⟨⟨_,Env.set_self⟩,rfl⟩,Reps.append.2 ⟨F',FR,rfl,?_,?_⟩⟩,?_,?_,?_⟩,?_⟩
  ·intro L' H' n' hlk hbody ρ3 F3 a3 w3 s3
   obtain ⟨FA3,f,FB3,rfl,⟨hloc,rfl⟩,hrep,_⟩:=s3.ok.reps.look hlk
   have hhp:w3.heap[l]?=some (.loop lr):=s3.sat.heap (l,.loop lr) (by simp [Hp.all])
   refine ⟨_,beginRound_run hhp hrdy,hbody ρ3 (FA3++[(l,.loop { lr with state:=.busy }),(r,.deferred (some []))]::FB3) a3 _ ⟨⟨s3.ok.dens,hrep ρ3 n (.bx _) _ (Env.le_refl _) ⟨hloc,rfl⟩,s3.ok.fr,s3.ok.pin,s3.ok.mle⟩,?_⟩⟩
   exact s3.sat.setBlockG (o:=.loop lr) (A:=FA3.flatten) (B:=(r,.deferred (some []))::FB3.flatten) (by simp [Hp.all]) (by simp [Hp.all])
  ·intro st hi ρ3 F3 a3 w3 s3
   obtain ⟨ρ4,F4,s4⟩:=hi ρ3 F3 a3 w3 s3
   obtain ⟨fX,F5,rfl,⟨_,rfl⟩,hR5⟩:=s4.ok.reps
   refine hcont [] ⟨[],F5⟩ ⟨fun t=>if t < n then ρ4 t else none,F5,?_,?_,?_,rfl⟩ a3 w3 ?_
   ·intro t ht
    have:t < n:=by omega
    simp only [this,if_true];exact s4.ok.pin t ht
   ·intro t ht
    simp only [show ¬t < n from by omega,if_false]
   ·exact Reps.ownTr (n:=n) (fun t ht=>by simp [ht]) (hT2 s') (hT1 s') hR5
   refine ⟨s4.sat.size,s4.sat.defers,fun t v h=>by simp [look] at h,s4.sat.ext,?_,?_,?_⟩
   ·simpa [Hp.all] using s4.sat.nodup
   ·intro p hp;exact s4.sat.heap p (by simpa [Hp.all] using hp)
   intro p hp;exact s4.sat.own p (by simpa [Hp.all] using hp)
  ·exact Reps.ownTr (n:=n) (fun t ht=>by simp [Env.set,Nat.ne_of_lt ht]) (hT2 s) (hT1 s) h3
  ·exact Reps.rdTr (np:=np) hx2 (fun t ht=>by simp [Env.set,Nat.ne_of_lt (Nat.lt_of_lt_of_le ht b2),h1 t ht]) b7 b6 r2
  ·intro t ht;simp only at ht;simp only [Env.set,show t≠n from by omega,if_false];exact h2 t (by omega)
  ·intro t ht;simp only at ht;simp only [Env.set,show t≠n from by omega,if_false];exact h1 t ht
  ·show np≤n+1;omega
  have:Sat ⟨P,some l,w',R,N,[]⟩ (realL (ρ'.set n ⟨none,0,0⟩) (argPS ps (Y.sv ((τ.head?).getD 0) x) L)) ⟨[],[(l,.loop lr),(r,.deferred (some []))]::(F'++FR)⟩ a2 w2:=by
   rw [i2]
   refine sat2.perm ?_
   simp only [Hp.all,List.nil_append,List.flatten_cons,List.flatten_append,hFR,List.append_nil,List.cons_append]
   exact List.Perm.refl _
  exact this
 -- behind it
 rintro r _ Sc1 ⟨ρ',F',h1,h2,h3,rfl⟩ hΦ a2 w2 sat2
 obtain ⟨hL1,hL2⟩:=ltL_dens h1 b5 hs.ok.dens
 have hle:Env.le ρ' (ρ'.set n ⟨none,0,0⟩):=(Env.set_grow h2).toLe h2
 have hsel:(ρ'.set n ⟨none,0,0⟩).sel τ=ρ.sel τ:=sel_old (np:=np) (fun t ht=>by simp [Env.set,Nat.ne_of_lt (Nat.lt_of_lt_of_le ht b2),h1 t ht]) bτ
 refine hq r (ρ'.set n ⟨none,0,0⟩) ([(r,.deferred (some []))]::(Sc1++(F'++FR))) a2 w2 ⟨⟨hL1.mono hle,⟨_,_,rfl,⟨⟨_,Env.set_self⟩,rfl⟩,nH_reps (c':=cB P w0 []) (Reps.append.2 ⟨F',FR,rfl,Reps.cx (c:=⟨P,none,w0,R0,N,ds⟩) (c':=⟨P,none,w0,R0,N,{ target:=.collected r,args:=#[] }::ds⟩) rfl rfl (h3.mono hle),?_⟩) b9 (by rw [hsel];exact hΦ)⟩,?_,?_,?_⟩,?_⟩
 ·exact Reps.rdTr (c:=⟨P,none,w0,R0,N,ds⟩) (np:=np) (c':=⟨P,none,w0,R0,N,{ target:=.collected r,args:=#[] }::ds⟩) ⟨Ext.refl _ _,fun k hk=>.inl hk⟩ (fun t ht=>by simp [Env.set,Nat.ne_of_lt (Nat.lt_of_lt_of_le ht b2),h1 t ht]) b7 b6 r2
 ·intro t ht;simp only at ht;simp only [Env.set,show t≠n from by omega,if_false];exact h2 t (by omega)
 ·intro t ht;simp only at ht;simp only [Env.set,show t≠n from by omega,if_false];rw [h1 t (by omega)];exact hs.ok.pin t ht
 ·show m≤n+1;omega
 have:Sat ⟨P,none,w0,R0,N,{ target:=.collected r,args:=#[] }::ds⟩ (realL (ρ'.set n ⟨none,0,0⟩) L) ⟨[],[(r,.deferred (some []))]::(Sc1++(F'++FR))⟩ a2 w2:=by
  rw [realL_mono hle hL1,hL2]
  refine sat2.perm ?_
  simp only [Hp.all,List.nil_append,List.flatten_cons,List.flatten_append,hFR,List.append_nil,List.cons_append]
  exact List.Perm.refl _
 exact this
end
def TLU (u:FrameMode) (fn:Func) (Rr:Ending→World→Prop) (ds:List Deferred) (c:Cx) (L:Slots) (H:Hp):Prop :=
 ∀a w,Sat c L H a w→LeavesInM (FW none) 1 c.P fn a.tmps Rr ds u w
theorem TLU.mark {u:FrameMode} (hu:u≠.run) {fn:Func} {Rr:Ending→World→Prop} {c:Cx} {L:Slots} {ds:List Deferred} {r i:Nat} {aa:Array Value} {E E':Blocks} {S:List Blocks} (hi:getB E i=some (r,.deferred (some []))) (hs:setB E i (r,.deferred none)=some E')
  (h:TLU u fn Rr ds c L ⟨E',S⟩):TLU u fn Rr ({ target:=.collected r,args:=aa }::ds) c L ⟨E,S⟩:=fun a w s=>by
 have hb:=s.heap _ (getB_mem (H:=⟨E,S⟩) hi)
 have hlt:=s.lt (getB_mem (H:=⟨E,S⟩) hi)
 refine ⟨by simpa using hu,.inl ⟨r,World.withBlock w r (.deferred none),rfl,?_,h a _ (s.setBlock hi hs)⟩⟩
 simp [Instr.takeDeferred,getObj,setObj,Sem.run,hb,World.withBlock]
theorem TLU.marks {u:FrameMode} (hu:u≠.run) {fn:Func} {Rr:Ending→World→Prop} {c:Cx} {L:Slots} {S:List Blocks}:∀(ms:List (Nat×Nat)) (D:Blocks),TLU u fn Rr [] c L ⟨D++ms.map (fun p=>(p.2,Obj.deferred none)),S⟩ →
  TLU u fn Rr (colls ms) c L ⟨D++ms.map (fun p=>(p.2,Obj.deferred (some []))),S⟩
 | [],D,h=>h
 | p::ms,D,h=>by
  refine TLU.mark hu (i:=D.length) (E':=D++(p.2,.deferred none)::ms.map (fun p=>(p.2,Obj.deferred (some [])))) getB_app setB_app ?_
  have:=TLU.marks hu (fn:=fn) (Rr:=Rr) (c:=c) (L:=L) (S:=S) ms (D++[(p.2,.deferred none)]) (by simpa using h)
  simpa using this
section
variable {P:Program} {w0:World} {F0:List Blocks} {gl:GlF w0 (F0.flatten.map (·.1))} {ρ0:Env} {N m n':Nat} {fn:Func} {r:SV} {H':SH} {L:SL} {H:SH} {n:Nat} {rs:List ResultVar} {ys:List SV} {o:Out}
theorem TOM_ {t:Tab} (ht:TabOk P t) (ms:List (Nat×Nat)) {ds:List Deferred} (hrs:fn.results=rs.toArray) (σ:List Nat) (hms:marksIn ms H) (hds:ds=colls ms:=by rfl) (ho:o=.ret r H' n':=by rfl) (hy:resS t L (delHs ms H) rs=some ys:=by rfl) (hr:retS ys=r.ren σ:=by rfl) (h2:takesH σ (delHs ms H) H'=some (renBs σ H'):=by rfl) (h3:idB 0 m σ=true:=by rfl) (h4:σ.length=n':=by rfl) :
  G4 ⟨⟨P,none,w0,F0.flatten.map (·.1),N,ds⟩,ρ0,m,gl⟩ (FinO P fn w0 F0 ρ0 m o) (.exit .ret []) ⟨L,H,n⟩:=by subst ho;exact RTM ht ms hds hms hrs σ hy hr h2 h3 h4
theorem TPM_ {v:Value} (ms:List (Nat×Nat)) {ds:List Deferred} (σ:List Nat) (hms:marksIn ms H) (hds:ds=colls ms:=by rfl) (ho:o=.pan v H' n':=by rfl) (h2:takesH σ (delHs ms H) H'=some (renBs σ H'):=by rfl) (h3:idB 0 m σ=true:=by rfl) (h4:σ.length=n':=by rfl) :
  G4 ⟨⟨P,none,w0,F0.flatten.map (·.1),N,ds⟩,ρ0,m,gl⟩ (FinO P fn w0 F0 ρ0 m o) (.exit (.panic [{ v:=v,recovered:=false }]) []) ⟨L,H,n⟩:=by
 subst ho;subst hds
 intro ρ F a w s
 obtain ⟨F1,k1,k2⟩:=marks_split hms s.ok.reps
 obtain ⟨F',G,j1,j2⟩:=takesH_ren k1 h2
 have hg:Env.grow m n' ρ0 (ρ.sel σ):=⟨fun t ht=>by simp only [Env.sel,idB_spec h3 t ht,Nat.zero_add];exact s.ok.pin t ht,fun t ht=>by simp [Env.sel,tgO_none (σ:=σ) (t:=t) (by rw [h4];exact ht)],by rw [← h4];exact idB_len h3⟩
 show LeavesInM (FW none) 1 P fn a.tmps _ a.defers (.panicking _) w
 rw [s.sat.defers]
 have key:TLU (.panicking [{ v:=v,recovered:=false }]) fn (EndO w0 F0 ρ0 m (.pan v H' n')) [] ⟨P,none,w0,F0.flatten.map (·.1),N,colls ms⟩ (realL ρ L) ⟨[]++ms.map (fun p=>(p.2,Obj.deferred none)),F'++G⟩:=by
  intro a2 w2 s2
  refine ⟨⟨[],F'⟩,rfl,?_,_,ρ.sel σ,F',rfl,hg,j1⟩
  have hsub:(⟨[],F'⟩:Hp).all.Sublist (⟨[]++ms.map (fun p=>(p.2,Obj.deferred none)),F'++G⟩:Hp).all:=by
   simp only [Hp.all,List.nil_append,List.flatten_append];exact (List.sublist_append_left _ _).trans (List.sublist_append_right _ _)
  have hx:=s2.ext
  exact ⟨by simpa [Hp.all] using hx,(hsub.map _).nodup s2.nodup,fun p hp=>s2.heap p (hsub.subset hp),fun p hp=>by have:=s2.own p (hsub.subset hp);simpa [Hp.all] using this⟩
 refine TLU.marks (by simp) ms [] key a w (s.sat.perm ?_)
 simp only [Hp.all,List.nil_append]
 exact (List.Perm.append_left _ j2.flatten).trans k2.symm
end
def lmF {κ α:Type} [DecidableEq κ] [Inhabited α] (K:Kn κ) (V:Vn α) (xs:List (κ×α)) (m:TypeId):EvF:=fun _ L H n op=>match op with
 | .call ⟨.builtin .len,args,ts⟩=>match args.toList,ts.toList with
  | [x],[m']=>match evS L x with
   | some (.mp t)=>bif Nat.beq m' m then some ([lookH H t=some (.omap K V xs)],some (.v (.int .i64 (xs.length:Int))),H,n) else none
   | _=>none
  | _,_=>none
 | _=>none
section
variable {c:C4} {Q:Exit→Act→World→Prop} {x:Code} {K:List Fr}
def UR (c:C4) (Q:Exit→Act→World→Prop) (x:Code) (K:List Fr):Nat→St→Prop
 | 0,_=>False
 | n+1,s=>∀R:Act→World→Prop,(∀s' K',UR c Q x K n s'→G4 c Q (.exit .normal (.st R::K')) s')→G4 c Q (.code x (.st R::K)) s
theorem LPU (n:Nat) {s:St} (h:UR c Q x K n s):G4 c Q (.code (.loop x) K) s:=by
 intro ρ F a w hs
 refine wpIn_loop_rounds n ?_
 induction n generalizing s ρ F a w with
 | zero=>exact h.elim
 | succ n ih =>
  rw [roundsIn_succ]
  exact h _ (fun s' K' h' ρ' F' a' w' hs'=>ih h' ρ' F' a' w' hs') ρ F a w hs
end
def pSn (m:Nat):Loc→List Value→Blocks→Prop:=fun l vs f=>∃g,vs=[.pointer (some ⟨g,0,none⟩)]∧l=⟨some ⟨g,0,none⟩,m,m⟩∧f=[]
theorem raw1:∀{cs:List Value},allOne cs=true→∃ys:List { l:List Value // l.length=1∧allOne l=true },ys.flatMap (En.raw 1 Nat.one_pos).enc=cs∧ys.length=cs.length
 | [],_=>⟨[],rfl,rfl⟩
 | x::l,h=>by
  simp only [allOne,List.all_cons,Bool.and_eq_true] at h
  obtain ⟨ys,h1,h2⟩:=raw1 (cs:=l) h.2
  exact ⟨⟨[x],rfl,by simp [allOne,h.1]⟩::ys,by rw [List.flatMap_cons,h1];rfl,by simp [h2]⟩
def sxF:EvF:=fun b L H n op=>match op with
 | .buildSlice X m ps=>match evSp L ps.toList,lk b.t.und X with
  | some pv,some (.slice A)=>match lk b.t.siz A,lk b.z.z A with
   | some sz,some zi=>bif Nat.beq sz 1&&Nat.beq (sizeI zi) 1&&placesOk 1 0 pv&&Nat.beq pv.length m&&Nat.ble m 16777216&&Nat.blt 0 m&&oneI (itemsAll pv) then
     some ([],some (.sl (n+1)),(n+1,.ex (pSn m) [.p n 0])::(n,.cells A (itemsAll pv))::H,n+1+1) else none
   | _,_=>none
  | _,_=>none
 | _=>none
theorem sxF_ok {c:C4}:EvOk c sxF:=by
 intro b L H n op cs r H' n' hB h hc dst T pos af g hdr hd
 unfold sxF at h
 split at h
 ·rename_i X m ps;split at h
  ·rename_i pv A hp hX;split at h
   ·rename_i sz zi hs hz
    cases hb:Nat.beq sz 1&&Nat.beq (sizeI zi) 1&&placesOk 1 0 pv&&Nat.beq pv.length m&&Nat.ble m 16777216&&Nat.blt 0 m&&oneI (itemsAll pv) with
    | false=>rw [hb] at h;cases h
    | true =>
     rw [hb,cond_true] at h;cases h
     simp only [Bool.and_eq_true] at hb
     obtain ⟨⟨⟨⟨⟨⟨b1,b2⟩,b3⟩,b4⟩,b5⟩,b6⟩,b7⟩:=hb
     have b1:=Nat.eq_of_beq_eq_true b1;subst b1
     have b2:=Nat.eq_of_beq_eq_true b2
     have b4:=Nat.eq_of_beq_eq_true b4
     have b6:0 < m:=by simpa [Nat.blt_eq] using b6
     cases dst with
     | none=>simp at hdr
     | some d =>
      refine ⟨rfl,OT.ofTX hd fun ρ F Fx o Lr hLr Q hk=>?_⟩
      obtain ⟨zv,zvs,z1,z2,z3⟩:=hB.z.z.mem _ (lk_mem hz)
      have hzs:zv.cells.size=(En.raw 1 Nat.one_pos).sz:=by rw [z2,List.size_toArray,dens_size z3,b2];rfl
      obtain ⟨vs,q1,q2,q3,q4⟩:=placesOk_ok o.dens hp b3
      have hone:allOne (vs.flatMap fun v=>v.cells.toList)=true:=oneI_ok b7 q4
      obtain ⟨ys,y1,y2⟩:=raw1 hone
      have hfl:∀l:List Value,(l.all fun v=>Nat.beq v.cells.toList.length 1)=true→(l.flatMap fun v=>v.cells.toList).length=l.length:=by
       intro l
       induction l with
       | nil=>intro _;rfl
       | cons v l ih =>
        intro h
        simp only [List.all_cons,Bool.and_eq_true] at h
        have:=Nat.eq_of_beq_eq_true h.1
        rw [List.flatMap_cons,List.length_append,ih h.2,this,List.length_cons];omega
      have hvl:=hfl vs q3
      have hym:ys.length=m:=by omega
      have ep:ps=ps.toList.toArray:=by simp
      rw [ep]
      refine TX.buildS0 (N:=En.raw 1 Nat.one_pos) (ys:=ys) (hB.t.und.mem _ (lk_mem hX)) (hB.t.siz.mem _ (lk_mem hs)) z1 hzs (evp_ext hLr q1) hym (by show Nat.ble (m * 1) 16777216=true;rw [Nat.mul_one];exact b5) (fillS vs rfl (by omega) q3 y1.symm) hd (fun sp Hs ho=>?_)
      rcases ho with ⟨_,_,h0,_⟩ | ⟨gg,cur,rfl,rfl,g1,g2,g3,g4⟩
      ·rw [h0] at hym;simp at hym;omega
      have hcur:cur=(vs.flatMap fun v=>v.cells.toList).toArray:=by
       have h3:cur.size=m:=by simpa [En.raw] using g3
       have h4:cur.toList=vs.flatMap fun v=>v.cells.toList:=by
        rw [y1,hym] at g4
        have:cur.toList.take m=vs.flatMap fun v=>v.cells.toList:=by simpa [En.raw] using g4
        rw [List.take_of_length_le (by simp [h3])] at this;exact this
       cases cur;simp at h4;simp [h4]
      subst hcur
      have hgr:=Env.set_grow (ρ:=ρ) (n:=n) (l:=⟨some ⟨gg,0,none⟩,0,0⟩) o.fr
      have hle:=hgr.toLe o.fr
      have hR:=Env.set_row (b:=.cells A (itemsAll pv)) (l:=⟨some ⟨gg,0,none⟩,0,0⟩) o.reps o.fr ⟨gg,_,by rw [Env.set_self];rfl,dens_mono hle q4,rfl⟩
      have hgr2:=Env.set_grow (ρ:=ρ.set n ⟨some ⟨gg,0,none⟩,0,0⟩) (n:=n+1) (l:=⟨some ⟨gg,0,none⟩,m,m⟩) hgr.fr
      have hpd:SV.dens ((ρ.set n ⟨some ⟨gg,0,none⟩,0,0⟩).set (n+1) ⟨some ⟨gg,0,none⟩,m,m⟩) [.p n 0]=some [.pointer (some ⟨gg,0,none⟩)]:=by
       refine denAll_dens (l:=[.p n 0]) ⟨?_,trivial⟩
       rw [SV.den,hgr2.old n (Nat.lt_succ_self n),Env.set_self];rfl
      have hR2:=Env.set_row (b:=.ex (pSn m) [.p n 0]) (f:=[]) (l:=⟨some ⟨gg,0,none⟩,m,m⟩) hR hgr.fr ⟨_,_,Env.set_self,hpd,gg,rfl,rfl,rfl⟩
      have:=hk _ ([]::[(gg,.cells (vs.flatMap fun v=>v.cells.toList).toArray A (0,0))]::F) (.slice (some ⟨gg,0,none⟩) m m) ⟨fun t ht=>by rw [hgr2.old t (by omega),hgr.old t ht],hgr2.fr,by omega⟩ (by rw [Option.getD_some,SV.den,Env.set_self];rfl) hR2
      refine TO.perm ?_ this
      simp [Hp.all]
   cases h
  cases h
 cases h
def Ev.sx {c:C4}:Ev c:=.ot sxF sxF_ok
def ixnF (m:Nat):EvF:=fun b L H n op=>match op with
 | .indexAddr X x ix=>match evS L x,evS L ix,lk b.t.und X with
  | some (.sl u),some (.v (.int _ i)),some (.slice A)=>match lookH H u,lk b.t.siz A with
   | some (.ex p [.p t 0]),some sz=>bif Nat.beq sz 1 then some ([p=pSn m,inb i m=true],some (.p t i.toNat),H,n) else none
   | _,_=>none
  | _,_,_=>none
 | _=>none
theorem ixnF_ok {c:C4} {m:Nat}:EvOk c (ixnF m):=by
 intro b L H n op cs r H' n' hB h hc dst T pos af g hdr hd
 unfold ixnF at h
 split at h
 ·rename_i X x ix;split at h
  ·rename_i u k i A hx hix hX;split at h
   ·rename_i p t sz hl hs
    cases hb:Nat.beq sz 1 with
    | false=>rw [hb] at h;cases h
    | true =>
     rw [hb,cond_true] at h;cases h
     have:=Nat.eq_of_beq_eq_true hb;subst this
     obtain ⟨c1,c2⟩:=allP_cons hc
     have c2:inb i m=true:=c2
     have c1:p=pSn m:=c1
     subst c1
     cases dst with
     | none=>simp at hdr
     | some d =>
      refine ⟨rfl,OT.ofTX hd fun ρ F Fx o Lr hLr Q hk=>?_⟩
      obtain ⟨vx,x1,x2⟩:=evS_ok o.dens hx
      obtain ⟨vi,y1,y2⟩:=evS_ok o.dens hix
      rw [SV.den] at y1;cases y1
      obtain ⟨FA,f,FB,rfl,⟨l,vs,q1,q2,gg,rfl,rfl,rfl⟩,_,_⟩:=o.reps.look hl
      rw [SV.den,q1] at x1;cases x1
      obtain ⟨h0,h1⟩:=inb_iff.1 c2
      have hb0:blkOf (ρ t)=some gg:=by
       obtain ⟨us,r,e1,e2,e3⟩:=dens_cons_some.1 q2
       rw [dens_nil] at e2;cases e2
       simp only [List.append_nil] at e3
       subst e3
       simp only [SV.deni,SV.den] at e1
       cases hx0:blkOf (ρ t) with
       | none=>simp [hx0] at e1
       | some v=>simp [hx0] at e1;rw [e1]
      have hden:(SV.p t i.toNat).den ρ=some (.pointer (some ⟨gg,i.toNat,none⟩)):=by rw [SV.den,hb0];rfl
      refine TX.val hd (v:=.pointer (some ⟨gg,i.toNat,none⟩)) (fun a w s=>?_) (hk ρ _ _ o.grow0 (by rw [Option.getD_some];exact hden) o.reps)
      have hu:=hB.t.und.mem _ (lk_mem hX)
      have hss:=hB.t.siz.mem _ (lk_mem hs)
      have hi2:¬(i < 0):=by omega
      have hi3:i < (m:Int):=by omega
      simp [execOp,Instr.indexAt,s.eval (ev_ext hLr x2),s.eval (ev_ext hLr y2),asIntOf,hu,hss,Addr.add,hi3,h0]
      intro _;omega
   cases h
  cases h
 cases h
def Ev.xi {c:C4} (m:Nat):Ev c:=.ot (ixnF m) ixnF_ok
section
variable {c:C4} {Q:Exit→Act→World→Prop} {α:Type} [i:Inhabited α] {N:Et α} {e A:TypeId} {xss:List (List α)} {m:Nat} {L:SL} {H:SH} {n:Nat}
end
def keepS (ks:List Nat):SL→SL
 | []=>[]
 | (t,x)::L=>bif hasN ks t then (t,x)::keepS ks L else keepS ks L
theorem keepS_dens {ρ:Env} {ks:List Nat}:∀{L:SL},DensL ρ L→DensL ρ (keepS ks L)
 | [],h=>h
 | (t,x)::L,h=>by
  simp only [keepS]
  cases hasN ks t with
  | true=>exact ⟨h.1,keepS_dens h.2⟩
  | false=>exact keepS_dens h.2
theorem keepS_has {ρ:Env} {ks:List Nat}:∀{L:SL} {t:Nat} {v:Value},look (realL ρ (keepS ks L)) t=some v→hasN ks t=true
 | [],t,v,h=>by simp [keepS,realL,look] at h
 | (u,x)::L,t,v,h=>by
  simp only [keepS] at h
  cases hh:hasN ks u with
  | false=>rw [hh] at h;exact keepS_has h
  | true =>
   rw [hh] at h
   simp only [cond_true,realL,look] at h
   cases hb:Nat.beq u t with
   | true=>have:=Nat.eq_of_beq_eq_true hb;subst this;exact hh
   | false=>rw [hb] at h;exact keepS_has h
theorem keepS_look {ρ:Env} {ks:List Nat}:∀{L:SL} {t:Nat} {v:Value},look (realL ρ (keepS ks L)) t=some v→look (realL ρ L) t=some v
 | [],t,v,h=>h
 | (u,x)::L,t,v,h=>by
  have hk:=keepS_has h
  simp only [keepS] at h
  simp only [realL,look]
  cases hh:hasN ks u with
  | true =>
   rw [hh] at h
   simp only [cond_true,realL,look] at h
   cases hb:Nat.beq u t with
   | true=>rw [hb] at h;exact h
   | false=>rw [hb] at h;exact keepS_look h
  | false =>
   rw [hh] at h
   cases hb:Nat.beq u t with
   | true=>have:=Nat.eq_of_beq_eq_true hb;subst this;rw [hh] at hk;cases hk
   | false=>exact keepS_look h
theorem Imp.keep {c:C4} (ks:List Nat) {L:SL} {H:SH} {n:Nat}:Imp c ⟨L,H,n⟩ ⟨keepS ks L,H,n⟩:=fun ρ F a w hs =>
 ⟨ρ,F,⟨keepS_dens hs.ok.dens,hs.ok.reps,hs.ok.fr,hs.ok.pin,hs.ok.mle⟩,hs.sat.weak (fun _ _ h=>keepS_look h) (List.Sublist.refl _)⟩
section
variable {c:C4} {Q:Exit→Act→World→Prop}
theorem NT_ {α:Type} [i0:Inhabited α] {N:Et α} {xs:List α} {m:Nat} {x:Nat} {t d:Nat} {X A yT T:TypeId} {n' k':Nat} {pos:String} {af:Array Edge} {ops:Array Oper} {l:List Oper} {K:List Fr} {L:SL} {H:SH} {n:Nat}
  (hu:∀w,(underlying X).run c.P w=.ok (.slice A) w)
  (h:∀b,(b=true→xs=[])→G4 c Q (.ops ops l K []) ⟨(d,.v (.bool b))::L,H,n⟩) (hx:lookV L x=some (.sl t):=by rfl) (hr:rowOf H t=some (@RowOf.mk _ i0 N xs m):=by rfl) (hd:Nat.blt d c.n=true:=by rfl) :
  G4 c Q (.ops ops (⟨some d,.binOp .eql X (.tmp x) (.const (.slice none n' k')) yT,T,pos,af,none⟩::l) K []) ⟨L,H,n⟩:=by
 intro ρ F a w hs hk
 obtain ⟨vf,e1,e2⟩:=evS_ok hs.ok.dens (x:=.tmp x) hx
 obtain ⟨sp,cap,r1,r2,r3,r4⟩:=rowOf_ok hs.ok hr
 rw [SV.den,r1] at e1;cases e1
 have hb:sp.isNone=true→xs=[]:=fun hn=>by
  rcases (r4 _ a w hs.sat).2 with h1 | ⟨ad,h1,_⟩
  ·exact h1
  rw [h1] at hn;cases hn
 have hT:TG c ops (QK c.ro c.P Q K) l ⟨(d,.v (.bool sp.isNone))::L,H,n⟩ []:=h sp.isNone hb
 unfold wpListIn
 rw [if_pos (by simp [Region.wanted])]
 have hq:=QV.eqNilS (c:=c) (H:=⟨[],F⟩) (d:=d) (T:=T) (pos:=pos) (af:=af) (g:=none) (yT:=yT) (b:=sp.isNone) hu e2 (y:=.const (.slice none n' k')) rfl rfl
 refine wpIn_of rfl ?_
 rw [hq a w hs.sat]
 exact hT ρ F _ w (hs.ok.put (dst:=some d) (r:=.v (.bool sp.isNone)) hs.ok.grow0 hd (by rw [SV.den]) hs.ok.reps hs.sat) trivial
end
def zsF:EvV:=fun b L H op=>match op with
 | .slice X x lo hi none=>match evS L x,lk b.t.und X with
  | some (.v (.string s)),some .string=>match bdS L lo ((0:Nat):Int),bdS L hi ((s.size:Nat):Int) with
   | some i,some j=>some ([sliceOk i j s.size=true],.v (.string (s.extract i.toNat j.toNat)))
   | _,_=>none
  | _,_=>none
 | _=>none
theorem QV.sliceS {c:Cx} {L:Slots} {H:Hp} {d:Nat} {T:TypeId} {pos:String} {af:Array Edge} {g:Option (Nat×Bool)} {X:TypeId} {x:Operand} {lo hi:Option Operand} {z:ByteArray} {l h:Int} (hu:∀w,(underlying X).run c.P w=.ok .string w)
  (hx:ev L x=some (.string z)) (hl:Bd L lo 0 l) (hh:Bd L hi z.size h) (hk:sliceOk l h z.size=true) :
  QV c ⟨some d,.slice X x lo hi none,T,pos,af,g⟩ L H (.string (z.extract l.toNat h.toNat)):=fun a w s=>by
 obtain ⟨k0,k1,k2⟩:=sliceOk_iff.1 hk
 have hb:(Instr.sliceBounds false z.size z.size (lo.map a.eval) (hi.map a.eval) none).run c.P w=.ok (l.toNat,h.toNat,z.size) w:=by
  cases hl with
  | none =>
   cases hh with
   | none=>simp [Instr.sliceBounds]
   | some h2 =>
    simp [Instr.sliceBounds,s.eval h2]
    rw [run_sliceBound_ok (by omega) (by omega)];simp
  | some h1 =>
   cases hh with
   | none =>
    simp [Instr.sliceBounds,s.eval h1]
    rw [run_sliceBound_ok k0 (by omega)];simp
   | some h2 =>
    simp [Instr.sliceBounds,s.eval h1,s.eval h2]
    rw [run_sliceBound_ok (by omega) (by omega)]
    simp only [Result.andThen_ok]
    rw [run_sliceBound_ok k0 (by omega)];simp
 simp [execOp,Instr.sliceAt,Instr.slice,s.eval hx,hu,hb]
theorem zsF_ok {c:C4}:EvVOk c zsF:=by
 intro b L H n op cs r hB h hc
 unfold zsF at h
 split at h
 ·rename_i X x lo hi;split at h
  ·rename_i s hx hX;split at h
   ·rename_i i j hi' hj;cases h
    have hk:sliceOk i j s.size=true:=(allP_cons hc).1
    obtain ⟨k0,k1,k2⟩:=sliceOk_iff.1 hk
    refine ⟨rfl,fun ρ F Fx o Lr hLr=>⟨_,by rw [SV.den],fun d T pos af g a w st=>?_⟩⟩
    obtain ⟨vx,x1,x2⟩:=evS_ok o.dens hx
    rw [SV.den] at x1;cases x1
    have hu:=hB.t.und.mem _ (lk_mem hX)
    have bl:=bdS_ok o.dens hLr hi'
    have bh:=bdS_ok o.dens hLr hj
    exact QV.sliceS hu (ev_ext hLr x2) bl bh hk a w st
   cases h
  cases h
 cases h
def Ev.zs {c:C4}:Ev c:=.ot (liftV zsF) (liftV_ok zsF_ok)
section
variable {c:C4} {Q:Exit→Act→World→Prop} {o:Array Oper} {l:List Oper} {K:List Fr} {L:SL} {H:SH} {n d:Nat} {x:Operand} {T:TypeId} {pos:String} {af:Array Edge} {ti p:Nat} {s:ByteArray}
end
end Go.HW
namespace Go.HW
open Go Go.RowKit
def En.nils:En Unit:=⟨fun _=>[.slice none 0 0],1,fun _=>rfl,fun _=>rfl,by decide⟩
def Et.nils:Et Unit:=⟨En.nils,fun _=>[.v (.slice none 0 0)],fun ρ x=>dens_mapV [_]⟩
theorem opK_mono {ro:Option Nat} {P:Program} {o:Oper} {a:Act} {w:World} {K K':Act→World→Prop} {Q:Exit→Act→World→Prop} (hK:∀a w,K a w→K' a w) (h:o.wpIn (FW ro) 1 P a w K Q):o.wpIn (FW ro) 1 P a w K' Q:=by
 unfold Oper.wpIn at *
 refine ⟨h.1,?_⟩
 have hh:=h.2
 generalize hr:(o.semAt (FW ro).round a.eval).run P w=r at *
 cases r with
 | ok x w' =>
  cases x with
  | value u=>exact hK _ _ hh
  | skip=>exact hK _ _ hh
  | enter f args=>exact ⟨hh.1,CallsIn.mono hh.2 (fun e w'' he=>by
    cases e with
    | returned u=>exact hK _ _ he
    | panicked ch=>exact he
    | outgrown=>exact he)⟩
  | row r args=>exact ⟨hh.1,RowsIn.mono hh.2 (fun u w'' he=>hK _ _ he)⟩
  | round l' f tm aa bd=>exact ⟨hh.1,RoundIn.mono hh.2 (fun e w'' he=>by
    cases e with
    | returned u=>exact hK _ _ he
    | panicked ch=>exact he
    | outgrown=>exact he)⟩
  | defer d=>exact hK _ _ hh
  | _=>exact hh
 | halt x w'=>cases x <;> exact hh
def lastO:List Oper→Option (List Oper×Oper)
 | []=>none
 | [o]=>some ([],o)
 | o::l=>(lastO l).map fun p=>(o::p.1,p.2)
theorem lastO_spec:∀{l l1:List Oper} {o:Oper},lastO l=some (l1,o)→l=l1++[o]
 | [],_,_,h=>by simp [lastO] at h
 | [x],l1,o,h=>by simp [lastO] at h;obtain ⟨h1,h2⟩:=h;subst h1;subst h2;rfl
 | x::y::l,l1,o,h=>by
  simp only [lastO] at h
  obtain ⟨p,hp,e⟩:=Option.map_eq_some_iff.1 h
  have:=lastO_spec (l1:=p.1) (o:=p.2) hp
  cases e
  rw [this];rfl
section
variable {c:C4} {Q:Exit→Act→World→Prop}
theorem DRL {b:TB} (hB:TBOk c.P b) (hmx:c.P.follows .mixedOrders=true) {id:Nat} {ops:Array Oper} {K:List Fr} {L:SL} {H:SH} {n:Nat} {s':St} (kp:List Nat) (ts:List (List Nat×List Nat)) (es:List (Ev c)) {cs:List Prop} (hc:allP cs)
  {l1:List Oper} {o:Oper} (hl0:lastO ops.toList=some (l1,o)) (h:drawR b kp c.n l1 L H n ts es=some (cs,s')) (hup:upB l1 l1.length (fun t=>bindsOn o t)=true) (hgd:l1.all (fun x=>gdB x l1.length)=true) (hback:backB (l1++[o]) 0=true)
  (hog:o.guard=none) (hon:notDefer o.op=true) (g:G4 c Q (.ops ops [o] K []) s'):G4 c Q (.code (.region id ops true) K) ⟨L,H,n⟩:=by
 have hl:=lastO_spec hl0
 intro ρ F a w hs
 obtain ⟨l0⟩:=ops
 simp only at hl
 subst hl
 unfold drawR at h
 obtain ⟨Ld,Lc,hk,hmem0⟩:=partL_ok h
 have hmem:∀p,p∈Ld∨p∈Lc→lookV L p.1=some p.2:=fun p hp=>(hmem0 p hp).2
 cases hb1:backB l1 0&&ltL n L&&ltH n H&&ndK (tagsH H) with
 | false=>rw [hb1] at hk;cases hk
 | true =>
  rw [hb1,cond_true] at hk
  simp only [Bool.and_eq_true] at hb1
  obtain ⟨⟨⟨h1,h2⟩,h3⟩,h4⟩:=hb1
  split at hk
  ·rename_i cs1 X H' n' hpl
   cases hb2:chainN X n n'&&entsOk c.n Lc X (clsX X) l1 X 0&&ltH n' H'&&ndK (tagsH H') with
   | false=>rw [hb2] at hk;cases hk
   | true =>
    rw [hb2,cond_true,fLs_eq] at hk;cases hk
    simp only [Bool.and_eq_true] at hb2
    obtain ⟨⟨⟨h5,h6⟩,h7⟩,h8⟩:=hb2
    rw [tagsH_eq] at h4 h8
    have hnd:=ndK_ok h4
    have hnd':=ndK_ok h8
    obtain ⟨A,hver⟩:=DAll.of hB hmem h1 h2 h3 hs.ok.mle hpl hc h5 h6
    obtain ⟨c1,c2,c3⟩:=chainN_ok h5
    have hlen:X.length=l1.length:=by simpa using A.len
    -- at the start
    obtain ⟨φ,f1,f2⟩:=Reps.foot hs.ok.reps hnd
    have hk0:∀t∈H.map (·.1),t < n':=fun t ht=>by
     obtain ⟨p,hp,rfl⟩:=List.mem_map.1 ht
     have:=(ltH_mem h3 p hp).1;omega
    have I0:DInv c ⟨l1,X.map (·.e),H,Lc,Ld,n,n'⟩ (fun _=>false) a { w with drawn:=w.drawn+1 } ρ (fun t=>if memN (H.map (·.1)) t then φ t else []):=by
     have hslot:∀p,p∈Ld∨p∈Lc→p.2.den ρ=some (a.tmps.getD p.1 undef):=fun p hp=>by
      obtain ⟨v,e1,e2⟩:=hs.ok.dens.look (hmem p hp)
      rw [e1,hs.sat.slots p.1 v e2]
     refine ⟨fun p hp=>hslot p (.inr hp),fun p hp=>⟨⟨_,hslot p (.inl hp)⟩,fun _=>hslot p (.inl hp)⟩,fun j e d _ hj=>(by cases hj),fun t ht=>hs.ok.fr t (by simp only at ht ⊢;omega),fun j e he _ t ht1 ht2=>?_,hs.ok.pin,fun t=>?_,?_⟩
     ·obtain ⟨x,hx,rfl⟩:=getE' he
      have:=(c1 j x hx).1
      exact hs.ok.fr t (by simp only at ht1 ⊢;omega)
     ·rw [verL_none]
      show HB c ρ t _ (lookH H t)
      cases hm:memN (H.map (·.1)) t with
      | true =>
       obtain ⟨b',hb'⟩:=lookH_some (memN_iff.1 hm)
       rw [hb'];exact f2 t b' hb'
      | false =>
       rw [lookH_none (fun h=>by rw [memN_iff.2 h] at hm;cases hm)]
       rfl
     have s1:Sat c [] ⟨[],F⟩ a { w with drawn:=w.drawn+1 }:=⟨hs.sat.size,hs.sat.defers,fun t v h=>by simp [look] at h,⟨hs.sat.ext.os,hs.sat.ext.tape,hs.sat.ext.output,hs.sat.ext.size,hs.sat.ext.same⟩,hs.sat.nodup,hs.sat.heap,hs.sat.own⟩
     refine s1.perm ?_
     simp only [Hp.all,List.nil_append]
     refine (foot_split hnd hk0).trans ?_
     have e1:((H.map (·.1)).map fun t=>if memN (H.map (·.1)) t=true then φ t else [])=F:=by
      rw [f1];apply List.map_congr_left;intro t ht;rw [memN_iff.2 ht];rfl
     have e2:(fun t=>if memN (H.map (·.1)) t=true then [] else (if memN (H.map (·.1)) t=true then φ t else []))=fun _:Nat=>([]:Blocks):=by
      funext t;cases memN (H.map (·.1)) t <;> rfl
     rw [e1,e2]
     have e3:∀l:List Nat,(l.map fun _:Nat=>([]:Blocks)).flatten=[]:=fun l=>by induction l with
      | nil=>rfl
      | cons x l ih=>simp [ih]
     rw [e3];simp
    refine wpIn_region_any hmx ?_
    have hb0:backB (l1++[o]) 0=true:=hback
    refine draw_gen (c:=c.toCx) (fun S a w=>((∃ρ Φ,DInv c ⟨l1,X.map (·.e),H,Lc,Ld,n,n'⟩ S a w ρ Φ)∧∀k,l1.length≤k→S k=false)∨(S l1.length=true∧QK c.ro c.P Q K .normal a w)) hb0 ?_ ?_ ?_ _ _ a { w with drawn:=w.drawn+1 } (by simp) (.inl ⟨⟨ρ,(fun t=>if memN (H.map (·.1)) t then φ t else []),?_⟩,?_⟩) ?_ ?_
    ·rintro S k o' a w ho hk hcl hp (⟨hI,hJ⟩ | ⟨hSl,_⟩) K' hK'
     rotate_left
     ·exfalso
      have hS:∀k,k < l1.length→S k=true:=upB_ok (l:=l1) (S:=S) (fun j o2 i hj ho2 hbd=>hcl j o2 i hj (by rw [List.getElem?_append_left (List.getElem?_eq_some_iff.1 ho2).1];exact ho2) hbd) hup (fun t ht=>hcl l1.length o t hSl (by simp) ht)
      have hkl:=(List.getElem?_eq_some_iff.1 ho).1
      simp only [List.length_append,List.length_singleton] at hkl
      rcases Nat.lt_or_ge k l1.length with h9 | h9
      ·rw [hS k h9] at hk;cases hk
      have:k=l1.length:=by omega
      rw [this,hSl] at hk;cases hk
     rcases Nat.lt_trichotomy k l1.length with hlt | heq | hgt
     ·have ho1:l1[k]?=some o':=by rw [List.getElem?_append_left hlt] at ho;exact ho
      have hkl:k < X.length:=by rw [hlen];exact hlt
      have hcl1:Closed (c:=c) ⟨l1,X.map (·.e),H,Lc,Ld,n,n'⟩ S:=fun j o2 i hj ho2 hbd=>hcl j o2 i hj (by rw [List.getElem?_append_left (List.getElem?_eq_some_iff.1 ho2).1];exact ho2) hbd
      have st:=DInv.step (D:=⟨l1,X.map (·.e),H,Lc,Ld,n,n'⟩) A hcl1 ho1 (getE (List.getElem?_eq_getElem hkl)) hk hp hI (Q:=QK c.ro c.P Q K) (K:=K') (fun a' w' h'=>hK' a' w' (.inl ⟨h',fun k' hk'=>by
       unfold addB
       rw [if_neg (by omega)];exact hJ k' hk'⟩))
      have hw:Region.wanted o' (yielded (l1++[o]).toArray a.tmps)=Region.wanted o' (yielded l1.toArray a.tmps):=by
       have hg1:=List.all_eq_true.1 hgd o' (List.mem_of_getElem? ho1)
       unfold gdB at hg1
       unfold Region.wanted
       split
       ·rfl
       rename_i j want hgu
       rw [hgu] at hg1
       have hj:j < l1.length:=by simpa [Nat.blt_eq] using hg1
       unfold yielded
       simp [List.getElem?_append_left hj]
      rw [hw];exact st
     ·subst heq
      have hoo:o'=o:=by simpa using ho.symm
      subst hoo
      have hwt:Region.wanted o' (yielded (l1++[o']).toArray a.tmps)=true:=by simp [Region.wanted,hog]
      refine ⟨fun _=>?_,fun h0=>by rw [hwt] at h0;cases h0⟩
      have hS:∀k,k < l1.length→S k=true:=upB_ok (l:=l1) (S:=S) (fun j o2 i hj ho2 hbd=>hcl j o2 i hj (by rw [List.getElem?_append_left (List.getElem?_eq_some_iff.1 ho2).1];exact ho2) hbd) hup hp
      obtain ⟨ρ',Φ,I⟩:=hI
      have hvr:∀t,verL S t (X.map (·.e)) 0 (lookH H t)=lookH H' t:=fun t=>by
       rw [← hver t]
       refine verL_congr fun j e' he' _=>?_
       obtain ⟨x,hx,rfl⟩:=getE' he'
       have hj:j < l1.length:=by rw [← hlen];exact (List.getElem?_eq_some_iff.1 hx).1
       rw [Nat.zero_add,hS j hj];simp [hj]
      have hfs:∀p∈finL kp X Lc,p.2.den ρ'=some (a.tmps.getD p.1 undef):=by
       intro p hp
       rcases finL_mem hp with h | ⟨j,x,q1,q2,q3,q4⟩
       ·exact I.sc p h
       have hj:j < l1.length:=by rw [← hlen];exact (List.getElem?_eq_some_iff.1 q1).1
       have:=(I.se j x.e p.1 (getE q1) (hS j hj) q2).1 (by rw [q3];exact fun y hy=>by cases hy)
       rw [q4] at this;exact this
      have hk1:∀t∈H'.map (·.1),t < n':=fun t ht=>by
       obtain ⟨p,hp,rfl⟩:=List.mem_map.1 ht
       exact (ltH_mem h7 p hp).1
      have hs4:Sat4 c ρ' ((H'.map (·.1)).map Φ) ⟨finL kp X Lc,H',n'⟩ a w:=by
       refine ⟨⟨DensL.ofAll fun p hp=>⟨_,hfs p hp⟩,Reps.ofFoot hnd' fun t b' hb'=>?_,I.efr,I.epin,Nat.le_trans hs.ok.mle c3⟩,?_⟩
       ·have:=I.hb t
        rw [hvr t,hb'] at this;exact this
       have s1:Sat c [] ⟨[],(H'.map (·.1)).map Φ⟩ a w:=by
        refine I.sat.perm ?_
        simp only [Hp.all,List.nil_append]
        refine List.Perm.trans ?_ (foot_split (Φ:=Φ) hnd' hk1).symm
        have e2:(fun t=>if memN (H'.map (·.1)) t=true then [] else Φ t)=fun _:Nat=>([]:Blocks):=by
         funext t
         cases hm:memN (H'.map (·.1)) t with
         | true=>rfl
         | false =>
          have h1:=I.hb t
          rw [hvr t,lookH_none (fun h=>by rw [memN_iff.2 h] at hm;cases hm)] at h1
          exact h1
        rw [e2]
        have e3:∀l:List Nat,(l.map fun _:Nat=>([]:Blocks)).flatten=[]:=fun l=>by induction l with
         | nil=>rfl
         | cons x l ih=>simp [ih]
        rw [e3];simp
       exact ⟨s1.size,s1.defers,realL_all hfs,s1.ext,s1.nodup,s1.heap,s1.own⟩
      have hgo:wpListIn (FW c.ro) 1 c.P _ (QK c.ro c.P Q K) [o'] a w:=g ρ' _ a w hs4 trivial
      unfold wpListIn at hgo
      rw [if_pos hwt] at hgo
      refine opK_mono (fun a' w' h'=>hK' a' w' (.inr ⟨?_,h'⟩)) hgo
      unfold addB
      rw [if_pos rfl]
     exfalso
     have hkl:=(List.getElem?_eq_some_iff.1 ho).1
     simp only [List.length_append,List.length_singleton] at hkl
     omega
    ·intro S S' a w hSS hI
     rw [show S'=S from (funext hSS).symm];exact hI
    ·rintro S a w hS (⟨_,hJ⟩ | ⟨_,hq⟩)
     ·have:=hS l1.length (by simp)
      rw [hJ _ (Nat.le_refl _)] at this;cases this
     exact hq
    ·rw [show (fun k=>(Array.replicate (l1++[o]).toArray.size false).getD k false)=fun _=>false from by funext k;simp [Array.getD]]
     exact I0
    ·intro k hk;simp [Array.getD]
    ·intro k o i hl;simp [Array.getD] at hl
    exact Nat.le_trans (List.length_filter_le _ _) (by simp)
  cases hk
end
theorem dens_swap {ρ:Env} {x y:SV} (h:x.deni ρ=y.deni ρ):∀(A B:List SV),SV.dens ρ (A++x::B)=SV.dens ρ (A++y::B)
 | [],B=>by rw [List.nil_append,List.nil_append,dens_cons,dens_cons,h]
 | a::A,B=>by rw [List.cons_append,List.cons_append,dens_cons,dens_cons,dens_swap h A B]
theorem cutL_self (l:List Value):cutL l 0 l.length=some l:=by
 have:=cutL_some (off:=0) (n:=l.length) (vs:=l) (by omega)
 simpa using this
section
variable {α:Type} [Inhabited α]
def kwF (N:Et α) (K:α→List Kid) (xs:List α) (A1 A2 A3:List SV) (kd1 kd2:Kid):EvF:=fun b L H n op=>match op with
 | .load A x=>match evS L x,lk b.t.agg A,lk b.t.siz A with
  | some (.e t i sz 0),some true,some k=>bif Nat.beq sz N.sz&&Nat.beq k N.sz then
    some ([lookH H t=some (.rds N K xs),inb i xs.length=true,(K (gt xs i))[0]?=some kd1,(K (gt xs i))[1]?=some kd2,N.it (gt xs i)=A1++.v (.slice kd1.sl.1 kd1.sl.2.1 kd1.sl.2.2)::(A2++.v (.slice kd2.sl.1 kd2.sl.2.1 kd2.sl.2.2)::A3)],
     some (.ag (A1++.sl n::(A2++.sl (n+1)::A3))),(n+1,@Blk.rd _ kd2.ib kd2.N kd2.xs)::(n,@Blk.rd _ kd1.ib kd1.N kd1.xs)::H,n+1+1) else none
  | _,_,_=>none
 | _=>none
theorem kwF_ok {c:C4} {N:Et α} {K:α→List Kid} {xs:List α} {A1 A2 A3:List SV} {kd1 kd2:Kid}:EvOk c (kwF N K xs A1 A2 A3 kd1 kd2):=by
 intro b L H n op cs r H' n' hB h hc dst T pos af g hdr hd
 unfold kwF at h
 split at h
 ·rename_i A x;split at h
  ·rename_i t i sz k hx hag hsz
   cases hb:Nat.beq sz N.sz&&Nat.beq k N.sz with
   | false=>rw [hb] at h;cases h
   | true =>
    rw [hb,cond_true] at h;cases h
    simp only [Bool.and_eq_true] at hb
    have e1:=Nat.eq_of_beq_eq_true hb.1;subst e1
    have e2:=Nat.eq_of_beq_eq_true hb.2;subst e2
    obtain ⟨c1,c2⟩:=allP_cons hc
    obtain ⟨c2,c3⟩:=allP_cons c2
    obtain ⟨c3,c4⟩:=allP_cons c3
    obtain ⟨c4,c5⟩:=allP_cons c4
    have c5:N.it (gt xs i)=A1++.v (.slice kd1.sl.1 kd1.sl.2.1 kd1.sl.2.2)::(A2++.v (.slice kd2.sl.1 kd2.sl.2.1 kd2.sl.2.2)::A3):=c5
    cases dst with
    | none=>simp at hdr
    | some d =>
     refine ⟨rfl,OT.ofTX hd fun ρ F Fx o Lr hLr Q hk=>?_⟩
     obtain ⟨vx,x1,x2⟩:=evS_ok o.dens hx
     obtain ⟨FA,f,FB,e0,⟨sp,cap,q1,q2,q3,q4,q5⟩,_,_⟩:=o.reps.look c1
     rw [SV.den,q1] at x1
     simp only [Option.bind_some] at x1
     rw [c2,cond_true] at x1;cases x1
     have hxm:gt xs i∈xs:=List.mem_of_getElem? (gt_some c2)
     obtain ⟨k1,k2,k3⟩:=q5 _ hxm _ (List.mem_of_getElem? c3)
     obtain ⟨j1,j2,j3⟩:=q5 _ hxm _ (List.mem_of_getElem? c4)
     have hg:=Env.set_grow (ρ:=ρ) (n:=n) (l:=⟨kd1.sl.1,kd1.sl.2.2,kd1.sl.2.1⟩) o.fr
     have hg2:=Env.set_grow (ρ:=ρ.set n ⟨kd1.sl.1,kd1.sl.2.2,kd1.sl.2.1⟩) (n:=n+1) (l:=⟨kd2.sl.1,kd2.sl.2.2,kd2.sl.2.1⟩) hg.fr
     have hle:=hg.toLe o.fr
     have hle2:=hg2.toLe hg.fr
     have s1:ρ.set n ⟨kd1.sl.1,kd1.sl.2.2,kd1.sl.2.1⟩ n=some ⟨kd1.sl.1,kd1.sl.2.2,kd1.sl.2.1⟩:=Env.set_self
     have s1':=hle2 _ _ s1
     have s2:(ρ.set n ⟨kd1.sl.1,kd1.sl.2.2,kd1.sl.2.1⟩).set (n+1) ⟨kd2.sl.1,kd2.sl.2.2,kd2.sl.2.1⟩ (n+1)=some ⟨kd2.sl.1,kd2.sl.2.2,kd2.sl.2.1⟩:=Env.set_self
     have hit:=N.hit ((ρ.set n ⟨kd1.sl.1,kd1.sl.2.2,kd1.sl.2.1⟩).set (n+1) ⟨kd2.sl.1,kd2.sl.2.2,kd2.sl.2.1⟩) (gt xs i)
     rw [c5,dens_swap (y:=.sl n) (by rw [deni_na rfl,deni_na rfl,SV.den,SV.den,s1'];rfl)] at hit
     have e3:∀X:List SV,A1++SV.sl n::(A2++X)=(A1++SV.sl n::A2)++X:=fun X=>by simp
     rw [e3,dens_swap (y:=.sl (n+1)) (by rw [deni_na rfl,deni_na rfl,SV.den,SV.den,s2];rfl),← e3] at hit
     refine TX.permL (H':=⟨[],[]::[]::F++Fx⟩) (by simp [Hp.all]) ?_
     refine TX.loadRN (N:=N.toEn) (xs:=xs) (o:=0) (n:=N.sz) (vs:=N.enc (gt xs i)) (hB.t.agg.mem _ (lk_mem hag)) (hB.t.siz.mem _ (lk_mem hsz)) (ev_ext hLr x2) (fun a w s=>q4 w s.ext) c2 (by have:=cutL_self (N.enc (gt xs i));rwa [N.len] at this) hd
      (hk _ ([]::[]::F) _ ⟨fun t ht=>by rw [hg2.old t (by omega),hg.old t ht],hg2.fr,by omega⟩ (by rw [Option.getD_some,SV.den,hit];rfl) ⟨[],[]::F,rfl,⟨kd2.sl.1,kd2.sl.2.2,by rw [s2,j2],rfl,j3,j1⟩,[],F,rfl,⟨kd1.sl.1,kd1.sl.2.2,by rw [s1',k2],rfl,k3,k1⟩,(o.reps.mono hle).mono hle2⟩)
  cases h
 cases h
def Ev.kw {c:C4} (N:Et α) (K:α→List Kid) (xs:List α) (A1 A2 A3:List SV) (kd1 kd2:Kid):Ev c:=.ot (kwF N K xs A1 A2 A3 kd1 kd2) kwF_ok
end
abbrev vi (x:Int):SV:=.v (.int .i64 x)
abbrev vb (x:Int):SV:=.v (.int .u8 x)
section
variable {c:Cx} {ops:Array Oper} {Q:Exit→Act→World→Prop} {rest:List Oper} {L:Slots} {H:Hp} {T:TypeId} {pos:String} {af:Array Edge}
theorem MV {d:Nat} {x:Operand} {v:Value} (h:TO c ops Q rest ((d,v)::L) H) (hx:ev L x=some v:=by rfl) (hd:Nat.blt d c.n=true:=by rfl):TO c ops Q (⟨some d,.move x,T,pos,af,none⟩::rest) L H:=TO.u rfl rfl (TX.move hx hd h)
theorem AS {d:Nat} {x:Operand} {v:Value} (h:TO c ops Q rest ((d,v)::L) H) (hx:ev L x=some v:=by rfl) (hd:Nat.blt d c.n=true:=by rfl):TO c ops Q (⟨some d,.assign x,T,pos,af,none⟩::rest) L H:=TO.u rfl rfl (TX.assign hx hd h)
theorem IB {d:Nat} {op:BinOp} {xT yT:TypeId} {x y:Operand} {k:IntKind} {m n:Int} {v:Value} (h:TO c ops Q rest ((d,v)::L) H) (hx:ev L x=some (.int k m):=by rfl) (hy:ev L y=some (.int k n):=by rfl) (hr:HW.ibin op k m n=some v:=by rfl) (hd:Nat.blt d c.n=true:=by rfl):TO c ops Q (⟨some d,.binOp op xT x y yT,T,pos,af,none⟩::rest) L H:=TO.u rfl rfl (TX.ibin hr hx hy hd h)
theorem NT {ro:Option Nat} {P:Program} {y:Code} {Q:Exit→Act→World→Prop} {ops:Array Oper} (h:TC c y Q L H) (hro:c.ro=ro:=by rfl) (hP:c.P=P:=by rfl):TO c ops (thenK ro P y Q) [] L H:=TO.nil (TE.thenN hro hP h)
end
section
variable {c:C4} {Q:Exit→Act→World→Prop} {s:St}
theorem CF {x y:Code} {k:Operand} {K:List Fr} (h1:G4 c Q (.code y K) s) (hk:evS s.L k=some (.v (.bool false)):=by rfl):G4 c Q (.code (.cond k x y) K) s:=CDF rfl hk h1
end
def Cell (bs:Blocks) (b i:Nat) (v:Value):Prop:=∃l T fr,(b,Obj.cells l T fr)∈bs∧l[i]?=some v
def HasB (bs:Blocks) (b:Nat) (T:TypeId) (k:Nat):Prop:=∃(l:Array Value) (fz:Nat×Nat),(b,Obj.cells l T fz)∈bs∧NoFz fz l.size∧l.size=k
def ids (bs:Blocks):List Nat:=bs.map (·.1)
theorem Cell.id {bs:Blocks} {b i:Nat} {v:Value} (h:Cell bs b i v):b∈ids bs:=by
 obtain ⟨l,T,fr,h,_⟩:=h
 exact List.mem_map.2 ⟨_,h,rfl⟩
theorem HasB.id {bs:Blocks} {b k:Nat} {T:TypeId} (h:HasB bs b T k):b∈ids bs:=by
 obtain ⟨l,fz,h,_⟩:=h
 exact List.mem_map.2 ⟨_,h,rfl⟩
structure MS (bs bs':Blocks) (W:Nat→Nat→Prop):Prop where
 ids:∀b∈ids bs,b∈ids bs'
 keep:∀b i v,Cell bs b i v→¬W b i→Cell bs' b i v
 blk:∀b T k,HasB bs b T k→HasB bs' b T k
theorem MS.refl (bs:Blocks) (W:Nat→Nat→Prop):MS bs bs W:=⟨fun _ h=>h,fun _ _ _ h _=>h,fun _ _ _ h=>h⟩
theorem MS.mono {bs bs':Blocks} {W W':Nat→Nat→Prop} (h:MS bs bs' W) (hw:∀b i,W b i→W' b i):MS bs bs' W':=⟨h.ids,fun b i v hc hn=>h.keep b i v hc fun q=>hn (hw b i q),h.blk⟩
theorem MS.trans {a b d:Blocks} {W:Nat→Nat→Prop} (h:MS a b W) (h2:MS b d W):MS a d W :=
 ⟨fun x hx=>h2.ids x (h.ids x hx),fun x i v hc hn=>h2.keep x i v (h.keep x i v hc hn) hn,fun x T k hb=>h2.blk x T k (h.blk x T k hb)⟩
def upd (bs:Blocks) (b:Nat) (o:Obj):Blocks:=bs.map fun p=>if p.1=b then (b,o) else p
theorem upd_ids (bs:Blocks) (b:Nat) (o:Obj):ids (upd bs b o)=ids bs:=by
 unfold ids upd
 rw [List.map_map]
 apply List.map_congr_left
 intro p _
 show (if p.1=b then (b,o) else p).1=p.1
 by_cases h:p.1=b
 ·rw [if_pos h,h]
 rw [if_neg h]
theorem mem_upd_ne {bs:Blocks} {b:Nat} {o:Obj} {p:Nat×Obj} (h:p∈bs) (hn:p.1≠b):p∈upd bs b o:=List.mem_map.2 ⟨p,h,by rw [if_neg hn]⟩
theorem mem_upd_eq {bs:Blocks} {b:Nat} {o o':Obj} (h:(b,o')∈bs):(b,o)∈upd bs b o:=List.mem_map.2 ⟨_,h,by rw [if_pos rfl]⟩
theorem nodup_obj {bs:Blocks} (hn:(bs.map (·.1)).Nodup) {b:Nat} {o o':Obj} (h:(b,o)∈bs) (h':(b,o')∈bs):o=o':=by
 induction bs with
 | nil=>cases h
 | cons p bs ih =>
  rw [List.map_cons,List.nodup_cons] at hn
  rcases List.mem_cons.1 h with e | e <;> rcases List.mem_cons.1 h' with e' | e'
  ·rw [← e] at e';exact (Prod.mk.inj e').2.symm
  ·exact absurd (List.mem_map.2 ⟨_,e',by rw [← e]⟩) hn.1
  ·exact absurd (List.mem_map.2 ⟨_,e,by rw [← e']⟩) hn.1
  exact ih hn.2 e e'
theorem upd_ms {bs:Blocks} {b:Nat} {l l':Array Value} {T:TypeId} {fz:Nat×Nat} {W:Nat→Nat→Prop} (hn:(bs.map (·.1)).Nodup) (h:(b,Obj.cells l T fz)∈bs) (hl:l'.size=l.size) (hk:∀i v,l[i]?=some v→¬W b i→l'[i]?=some v):MS bs (upd bs b (.cells l' T fz)) W:=by
 refine ⟨fun x hx=>by rw [upd_ids];exact hx,?_,?_⟩
 ·rintro x i v ⟨lx,Tx,fx,hx,hv⟩ hw
  by_cases e:x=b
  ·subst e
   have:=nodup_obj hn h hx
   cases this
   exact ⟨l',T,fz,mem_upd_eq h,hk i v hv hw⟩
  exact ⟨lx,Tx,fx,mem_upd_ne hx e,hv⟩
 rintro x Tx k ⟨lx,fx,hx,hf,hs⟩
 by_cases e:x=b
 ·subst e
  have:=nodup_obj hn h hx
  cases this
  exact ⟨l',fz,mem_upd_eq h,by rw [hl];exact hf,by rw [hl];exact hs⟩
 exact ⟨lx,fx,mem_upd_ne hx e,hf,hs⟩
theorem new_ms {bs:Blocks} {p:Nat×Obj} {W:Nat→Nat→Prop}:MS bs (p::bs) W:=by
 refine ⟨fun x hx=>List.mem_cons_of_mem _ hx,?_,?_⟩
 ·rintro x i v ⟨lx,Tx,fx,hx,hv⟩ _
  exact ⟨lx,Tx,fx,List.mem_cons_of_mem _ hx,hv⟩
 rintro x Tx k ⟨lx,fx,hx,hf,hs⟩
 exact ⟨lx,fx,List.mem_cons_of_mem _ hx,hf,hs⟩
section
variable {c:Cx} {ops:Array Oper} {Q:Exit→Act→World→Prop} {rest:List Oper} {L:Slots} {H:Hp} {bs:Blocks}
variable {d:Nat} {T:TypeId} {pos:String} {af:Array Edge} {g:Option (Nat×Bool)}
theorem mall (bs:Blocks):(⟨bs,[]⟩:Hp).all=bs:=by simp [Hp.all]
theorem Sat.cell {a:Act} {w:World} (s:Sat c L ⟨bs,[]⟩ a w) {b i:Nat} {v:Value} (h:Cell bs b i v):w.cell? ⟨b,i,none⟩=some v:=by
 obtain ⟨l,T,fr,h,hv⟩:=h
 have hb:=s.heap _ (by rw [mall];exact h)
 simp [World.cell?,hb,hv]
theorem QV.ldM {A:TypeId} {x:Operand} {b i:Nat} {v:Value} (hagg:∀w,(isAgg A).run c.P w=.ok false w) (hx:ev L x=some (.pointer (some ⟨b,i,none⟩))) (hc:Cell bs b i v):QV c ⟨some d,.load A x,T,pos,af,g⟩ L ⟨bs,[]⟩ v:=fun a w s=>by
 have:=run_loadVar1 (P:=c.P) w hagg ⟨b,i,none⟩ (s.cell hc)
 simp [execOp,s.eval hx,Instr.loadAt,Instr.sureAddr,this]
theorem TX.ldM {A:TypeId} {x:Operand} {b i:Nat} {v:Value} (hagg:∀w,(isAgg A).run c.P w=.ok false w) (hx:ev L x=some (.pointer (some ⟨b,i,none⟩))) (hc:Cell bs b i v) (hd:Nat.blt d c.n=true) (h:TO c ops Q rest ((d,v)::L) ⟨bs,[]⟩):TX c ops Q ⟨some d,.load A x,T,pos,af,g⟩ rest L ⟨bs,[]⟩:=TX.val hd (QV.ldM hagg hx hc) h
theorem QV.ixM {X A:TypeId} {x ix:Operand} {b n k:Nat} {i:Int} {ik:IntKind} (hu:∀w,(underlying X).run c.P w=.ok (.slice A) w) (hs:∀w,(sizeOf A).run c.P w=.ok 1 w) (hx:ev L x=some (.slice (some ⟨b,0,none⟩) n k)) (hi:ev L ix=some (.int ik i)) (hk:inb i n=true):QV c ⟨some d,.indexAddr X x ix,T,pos,af,g⟩ L H (.pointer (some ⟨b,i.toNat,none⟩)):=fun a w s=>by
 obtain ⟨k0,k1⟩:=inb_iff.1 hk
 simp [execOp,Instr.indexAt,s.eval hx,s.eval hi,asIntOf,hu,k0,k1,hs,add_none]
theorem Sat.updM {a:Act} {w:World} (s:Sat c L ⟨bs,[]⟩ a w) {b:Nat} {o o':Obj} (h:(b,o)∈bs):Sat c L ⟨upd bs b o',[]⟩ a (World.withBlock w b o'):=by
 have hn:(bs.map (·.1)).Nodup:=by have:=s.nodup;rw [mall] at this;exact this
 obtain ⟨A,B,rfl⟩:=List.append_of_mem h
 refine s.setBlockG (A:=A) (B:=B) (o:=o) (by rw [mall]) ?_
 rw [mall]
 unfold upd
 rw [List.map_append,List.map_cons,if_pos rfl]
 rw [List.map_append,List.map_cons,List.nodup_append] at hn
 obtain ⟨_,n2,n3⟩:=hn
 rw [List.nodup_cons] at n2
 congr 1
 ·refine (List.map_congr_left fun p hp=>?_).trans (List.map_id _)
  have:p.1≠b:=fun e=>n3 p.1 (List.mem_map.2 ⟨p,hp,rfl⟩) b (by simp) e
  rw [if_neg this];rfl
 congr 1
 refine (List.map_congr_left fun p hp=>?_).trans (List.map_id _)
 have:p.1≠b:=fun e=>n2.1 (by rw [← e];exact List.mem_map.2 ⟨p,hp,rfl⟩)
 rw [if_neg this];rfl
theorem Sat.nd {a:Act} {w:World} (s:Sat c L ⟨bs,[]⟩ a w):(bs.map (·.1)).Nodup:=by have:=s.nodup;rw [mall] at this;exact this
theorem TX.stM {A:TypeId} {x y:Operand} {b i k:Nat} {v:Value} {Tb:TypeId} (hs:∀w,(sizeOf A).run c.P w=.ok 1 w) (hx:ev L x=some (.pointer (some ⟨b,i,none⟩))) (hy:ev L y=some v) (hc:v.cells=#[v]) (h1:v.oneCell'=true)
  (hb:HasB bs b Tb k) (hi:i < k) (h:∀bs',MS bs bs' (fun b' i'=>b'=b∧i'=i)→Cell bs' b i v→TO c ops Q rest L ⟨bs',[]⟩):TX c ops Q ⟨none,.store A x y,T,pos,af,g⟩ rest L ⟨bs,[]⟩:=by
 intro a w s
 obtain ⟨⟨l⟩,fz,hm,hnf,hk⟩:=hb
 have hk:l.length=k:=hk
 have hw:=s.heap _ (by rw [mall];exact hm)
 obtain ⟨l2,r1,r2,r3⟩:=run_storeCellsF (P:=c.P) (off:=i) [v] 0 l [] w hw (by simpa using hnf) (fun u hu=>by rw [List.mem_singleton] at hu;rw [hu];exact h1) (by simp;omega)
 have hrun:(execOp a.eval ⟨none,.store A x y,T,pos,af,g⟩).run c.P w=.ok .skip (World.withBlock w b (.cells l2.toArray Tb fz)):=by
  simp [execOp,s.eval hx,s.eval hy,Instr.storeAt,Instr.sureAddr,storeVar,hs,hc,r1]
 rw [hrun]
 have r4:∀j,l2[j]?=if j=i then some v else l[j]?:=fun j=>by
  rw [r3 j]
  simp only [List.length_singleton,Nat.add_zero]
  by_cases e:j=i
  ·rw [if_pos ⟨by omega,by omega⟩,if_pos e,e,Nat.sub_self];rfl
  rw [if_neg (by omega),if_neg e]
 refine h _ (upd_ms s.nd hm (l':=l2.toArray) (by simpa using r2) fun j u hj hn=>?_) ⟨l2.toArray,Tb,fz,mem_upd_eq hm,?_⟩ _ _ (s.updM hm)
 ·have:=r4 j
  rw [if_neg (fun e=>hn ⟨rfl,e⟩)] at this
  simpa [this] using hj
 have:=r4 i
 rw [if_pos rfl] at this
 simpa using this
theorem TX.mkM {X A:TypeId} {info:TypeInfo} {zv:Value} {x y:Operand} {kl kc:IntKind} {k by':Nat} (hu:∀w,(underlying X).run c.P w=.ok (.slice A) w) (hi:∀w,(typeInfo A).run c.P w=.ok info w) (hz:info.zero=some zv) (hzc:zv.cells=#[zv]) (hsz:info.size=1) (hby:info.bytes=by')
  (hx:ev L x=some (.int kl (k:Int))) (hy:ev L y=some (.int kc (k:Int))) (hb:(by':Int) * (k:Int)≤281474976710656∧(k:Int)≤9223372036854775807) (hd:Nat.blt d c.n=true)
  (h:∀b bs',b∉ids bs→MS bs bs' (fun _ _=>False)→HasB bs' b A k→(∀i,i < k→Cell bs' b i zv)→TO c ops Q rest ((d,.slice (some ⟨b,0,none⟩) k k)::L) ⟨bs',[]⟩) :
  TX c ops Q ⟨some d,.makeSlice X x y,T,pos,af,g⟩ rest L ⟨bs,[]⟩:=by
 intro a w s
 subst hby
 have hrun:=run_make (P:=c.P) w X A info zv (und_of hu) (info_of hi) hz kl kc (k:Int) (k:Int) (by omega) (by omega) hb.1 hb.2
 have hex:(execOp a.eval ⟨some d,.makeSlice X x y,T,pos,af,g⟩).run c.P w=.ok (.value (.slice (some ⟨w.heap.size,0,none⟩) k k)) (w.alloc (.cells (madeCells zv.cells (k * info.size)) A)):=by
  simp [execOp,s.eval hx,s.eval hy,hrun]
 rw [hex,hsz,Nat.mul_one]
 have hsize:(madeCells zv.cells k).size=k:=by simp [madeCells]
 refine h w.heap.size ((w.heap.size,.cells (madeCells zv.cells k) A)::bs) (fun hm=>?_) new_ms ⟨_,(0,0),List.mem_cons_self,nofz0,hsize⟩ (fun i hi=>⟨_,A,(0,0),List.mem_cons_self,?_⟩) _ _ (Sat.put (dst:=some d) (s.alloc _) hd _)
 ·obtain ⟨p,hp,e⟩:=List.mem_map.1 hm
  have:=s.lt (p:=p) (by rw [mall];exact hp)
  omega
 rw [hzc]
 simp [madeCells,hi,Nat.mod_one]
end
section
variable {c:Cx} {ops:Array Oper} {Q:Exit→Act→World→Prop} {rest:List Oper} {L:Slots} {H:Hp} {bs:Blocks}
variable {d:Nat} {T:TypeId} {pos:String} {af:Array Edge} {g:Option (Nat×Bool)}
theorem Sat.fresh {a:Act} {w:World} (s:Sat c L ⟨bs,[]⟩ a w):w.heap.size∉ids bs:=fun hm=>by
 obtain ⟨p,hp,e⟩:=List.mem_map.1 hm
 have:=s.lt (p:=p) (by rw [mall];exact hp)
 omega
theorem Sat.newM {a:Act} {w w':World} (s:Sat c L ⟨bs,[]⟩ a w) {o:Obj} (he:Ext w [] w') (hh:w'.heap[w.heap.size]?=some o):Sat c L ⟨(w.heap.size,o)::bs,[]⟩ a w':=by
 have:=s.addSeg (Hs:=[(w.heap.size,o)]) he (by simp) (fun p hp=>by rw [List.mem_singleton] at hp;rw [hp];exact hh) (fun p hp=>by rw [List.mem_singleton] at hp;rw [hp];exact Nat.le_refl _)
 refine this.perm ?_
 simp only [Hp.all,List.flatten_cons,List.flatten_nil,List.append_nil]
 exact List.perm_append_comm (l₁:=[(w.heap.size,o)]) (l₂:=bs)
theorem drewExt (w:World) (o:Obj):Ext w [] (w.drew.alloc o):=⟨rfl,rfl,rfl,by simp,fun k hk _=>by first | exact heap_alloc_old w.drew o hk | exact heap_alloc_old w.drew o k hk⟩
theorem TX.apG2 {off:Nat} {X A:TypeId} {info:TypeInfo} {zv:Value} {x y:Operand} {src:Option Nat} {n cap q m cq by':Nat} (hu:∀w,(underlying X).run c.P w=.ok (.slice A) w) (hi:∀w,(typeInfo A).run c.P w=.ok info w) (hz:info.zero=some zv) (hzc:zv.cells.size=1) (hsz:info.size=1) (hby:info.bytes=by')
  (hx:ev L x=some (.slice (src.map fun b=>⟨b,0,none⟩) n cap)) (hy:ev L y=some (.slice (some ⟨q,off,none⟩) m cq))
  (hsrc:∀b,src=some b→HasB bs b A cap∧n≤cap) (hnone:src=none→n=0∧cap=0) (news:Nat→Value) (hnews:∀j,j < m→Cell bs q (off+j) (news j)) (h1:∀j,j < m→(news j).oneCell'=true) (hm:0 < m)
  (hb1:(n+m) * by'≤140737488355328) (hb2:n+m≤140737488355328) (hd:Nat.blt d c.n=true)
  (h:∀b' cap' bs',((src=some b'∧cap'=cap)∨b'∉ids bs)→MS bs bs' (fun b i=>src=some b∧n≤i)→HasB bs' b' A cap'→n+m≤cap'→(∀b,src=some b→∀i v,i < n→Cell bs b i v→Cell bs' b' i v)→(∀j,j < m→Cell bs' b' (n+j) (news j))→(cap'=cap∨cap'≤maxLen) →
   TO c ops Q rest ((d,.slice (some ⟨b',0,none⟩) (n+m) cap')::L) ⟨bs',[]⟩) :
  TX c ops Q ⟨some d,.call ⟨.builtin .append,#[x,y],#[X,X]⟩,T,pos,af,g⟩ rest L ⟨bs,[]⟩:=by
 intro a w s
 subst hby
 have hu':=und_of hu
 have hi':=info_of hi
 have nl:((List.range m).map news).length=m * info.size:=by rw [hsz];simp
 have ng:∀j u,((List.range m).map news)[j]?=some u→w.cell? ((⟨q,off,none⟩:Addr).add j)=some u:=fun j u hj=>by
  have hjm:j < m:=by
   have:=(List.getElem?_eq_some_iff.1 hj).1
   simpa using this
  have hc:=s.cell (hnews j hjm)
  rw [add_none,hc]
  simpa [hjm] using hj
 have no:∀u∈(List.range m).map news,u.oneCell'=true:=fun u hu=>by
  obtain ⟨j,hj,rfl⟩:=List.mem_map.1 hu
  exact h1 j (List.mem_range.1 hj)
 have grownN:∀(olds:Array Value) (k:Nat),olds.size=k→k+m≤grownCap w (k+m) cap A→(olds++((List.range m).map news).toArray++Builtin.zeroCells zv.cells (grownCap w (k+m) cap A - (k+m))).size=grownCap w (k+m) cap A:=fun olds k hk hg=>by
  simp only [Array.size_append,List.size_toArray,size_zeroCells,hzc,Nat.mul_one,List.length_map,List.length_range]
  omega
 cases src with
 | none =>
  obtain ⟨rfl,rfl⟩:=hnone rfl
  have hr:=run_append_nil (P:=c.P) w X T A info zv hu' hi' hz ⟨q,off,none⟩ m cq ((List.range m).map news) nl ng hm (by omega) (Nat.le_trans (by simpa using hb1) (by decide:(140737488355328:Nat)≤281474976710656))
  have hg:0+m≤grownCap w (0+m) 0 A:=grownCap_ge w _ 0 A
  have hex:(execOp a.eval ⟨some d,.call ⟨.builtin .append,#[x,y],#[X,X]⟩,T,pos,af,g⟩).run c.P w=.ok (.value (.slice (some ⟨w.heap.size,0,none⟩) m (grownCap w m 0 A))) (w.drew.alloc (.cells (((List.range m).map news).toArray++Builtin.zeroCells zv.cells (grownCap w m 0 A - m)) A)):=by
   have hx':ev L x=some (.slice none 0 0):=hx
   simp [execOp,resolve,invoke,builtin,s.eval hx',s.eval hy,hr]
  rw [hex]
  have hs2:=grownN #[] 0 rfl hg
  simp only [Nat.zero_add] at hs2 hg
  have:=h w.heap.size (grownCap w m 0 A) ((w.heap.size,.cells (((List.range m).map news).toArray++Builtin.zeroCells zv.cells (grownCap w m 0 A - m)) A)::bs) (.inr s.fresh) new_ms ⟨_,(0,0),List.mem_cons_self,nofz0,by simpa using hs2⟩ (by omega) (fun b hb=>by cases hb) (fun j hj=>⟨_,A,(0,0),List.mem_cons_self,by
   rw [Nat.zero_add,Array.getElem?_append_left (by simpa using hj)]
   simp [hj]⟩)
  rw [Nat.zero_add] at this
  exact this (.inr (grownCap_le_maxLen w _ 0 A (by unfold maxLen;omega))) _ _ (Sat.put (dst:=some d) (s.newM (drewExt w _) (heap_alloc_new w.drew _)) hd _)
 | some b =>
  obtain ⟨⟨⟨l⟩,fz,hmem,hnf,hlk⟩,hnc⟩:=hsrc b rfl
  have hlk:l.length=cap:=hlk
  have hw:=s.heap _ (by rw [mall];exact hmem)
  have hx':ev L x=some (.slice (some ⟨b,0,none⟩) n cap):=hx
  by_cases hroom:n+m≤cap
  ·obtain ⟨l',r1,r2,r3⟩:=run_append_roomF (P:=c.P) w X T A info hu' hi' b n cap l fz (by simpa using hnf) hw ⟨q,off,none⟩ m cq ((List.range m).map news) nl ng no hroom (by rw [nl,hsz];omega)
   have hex:(execOp a.eval ⟨some d,.call ⟨.builtin .append,#[x,y],#[X,X]⟩,T,pos,af,g⟩).run c.P w=.ok (.value (.slice (some ⟨b,0,none⟩) (n+m) cap)) (World.withBlock w b (.cells l'.toArray A fz)):=by
    simp [execOp,resolve,invoke,builtin,s.eval hx',s.eval hy,r1]
   rw [hex]
   rw [hsz,Nat.mul_one,List.length_map,List.length_range] at r3
   have old:∀i v,l[i]?=some v→¬(n≤i)→l'[i]?=some v:=fun i v hv hn=>by
    rw [r3 i,if_neg (by omega)];exact hv
   have hms:MS bs (upd bs b (.cells l'.toArray A fz)) (fun b2 i=>some b=some b2∧n≤i):=upd_ms s.nd hmem (by simpa using r2) (fun i v hv hn=>by
    have:=old i v (by simpa using hv) (fun q=>hn ⟨rfl,q⟩)
    simpa using this)
   refine h b cap _ (.inl ⟨rfl,rfl⟩) hms ⟨l'.toArray,fz,mem_upd_eq hmem,by simpa [r2] using hnf,by simpa [r2] using hlk⟩ hroom (fun b2 hb2 i v hin hc=>?_) (fun j hj=>⟨l'.toArray,A,fz,mem_upd_eq hmem,?_⟩) (.inl rfl) _ _ (Sat.put (dst:=some d) (s.updM hmem) hd _)
   ·cases hb2
    exact hms.keep b i v hc (fun q=>by omega)
   have:=r3 (n+j)
   rw [if_pos (by omega),show n+j - n=j from by omega] at this
   simpa [hj] using this
  have holds:∀j u,(l.take n)[j]?=some u→w.cell? ((⟨b,0,none⟩:Addr).add j)=some u:=fun j u hu=>by
   rw [List.getElem?_take] at hu
   split at hu
   ·rw [add_none,Nat.zero_add];simp [World.cell?,hw];simpa using hu
   cases hu
  have hol:(l.take n).length=n * info.size:=by rw [hsz,List.length_take];omega
  have hr:=run_append_grow (P:=c.P) w X T A info zv hu' hi' hz ⟨b,0,none⟩ n cap (l.take n) hol holds ⟨q,off,none⟩ m cq ((List.range m).map news) nl ng (by omega) (by omega) (growslice_fits (by omega) hb1)
  have hg:n+m≤grownCap w (n+m) cap A:=grownCap_ge w _ cap A
  have hex:(execOp a.eval ⟨some d,.call ⟨.builtin .append,#[x,y],#[X,X]⟩,T,pos,af,g⟩).run c.P w=.ok (.value (.slice (some ⟨w.heap.size,0,none⟩) (n+m) (grownCap w (n+m) cap A)))
    (w.drew.alloc (.cells ((l.take n).toArray++((List.range m).map news).toArray++Builtin.zeroCells zv.cells (grownCap w (n+m) cap A - (n+m))) A)):=by
   simp [execOp,resolve,invoke,builtin,s.eval hx',s.eval hy,hr]
  rw [hex]
  have hs2:=grownN (l.take n).toArray n (by simp;omega) hg
  refine h w.heap.size (grownCap w (n+m) cap A) ((w.heap.size,_)::bs) (.inr s.fresh) new_ms ⟨_,(0,0),List.mem_cons_self,nofz0,hs2⟩ hg (fun b2 hb2 i v hin hc=>?_) (fun j hj=>⟨_,A,(0,0),List.mem_cons_self,?_⟩) (.inr (grownCap_le_maxLen w _ cap A (by unfold maxLen;omega))) _ _ (Sat.put (dst:=some d) (s.newM (drewExt w _) (heap_alloc_new w.drew _)) hd _)
  ·cases hb2
   obtain ⟨lx,Tx,fx,hx2,hv⟩:=hc
   have:=nodup_obj s.nd hmem hx2
   cases this
   refine ⟨_,A,(0,0),List.mem_cons_self,?_⟩
   rw [Array.getElem?_append_left (by simp;omega),Array.getElem?_append_left (by simp;omega)]
   simpa [List.getElem?_take,hin] using hv
  rw [Array.getElem?_append_left (by simp;omega),Array.getElem?_append_right (by simp;omega)]
  have:n+j - (l.take n).toArray.size=j:=by simp;omega
  rw [this]
  simp [hj]
theorem TX.apG {off:Nat} {X A:TypeId} {info:TypeInfo} {zv:Value} {x y:Operand} {src:Option Nat} {n cap q m cq by':Nat} (hu:∀w,(underlying X).run c.P w=.ok (.slice A) w) (hi:∀w,(typeInfo A).run c.P w=.ok info w) (hz:info.zero=some zv) (hzc:zv.cells.size=1) (hsz:info.size=1) (hby:info.bytes=by')
  (hx:ev L x=some (.slice (src.map fun b=>⟨b,0,none⟩) n cap)) (hy:ev L y=some (.slice (some ⟨q,off,none⟩) m cq))
  (hsrc:∀b,src=some b→HasB bs b A cap∧n≤cap) (hnone:src=none→n=0∧cap=0) (news:Nat→Value) (hnews:∀j,j < m→Cell bs q (off+j) (news j)) (h1:∀j,j < m→(news j).oneCell'=true) (hm:0 < m)
  (hb1:(n+m) * by'≤140737488355328) (hb2:n+m≤140737488355328) (hd:Nat.blt d c.n=true)
  (h:∀b' cap' bs',((src=some b'∧cap'=cap)∨b'∉ids bs)→MS bs bs' (fun b i=>src=some b∧n≤i)→HasB bs' b' A cap'→n+m≤cap'→(∀b,src=some b→∀i v,i < n→Cell bs b i v→Cell bs' b' i v)→(∀j,j < m→Cell bs' b' (n+j) (news j)) →
   TO c ops Q rest ((d,.slice (some ⟨b',0,none⟩) (n+m) cap')::L) ⟨bs',[]⟩) :
  TX c ops Q ⟨some d,.call ⟨.builtin .append,#[x,y],#[X,X]⟩,T,pos,af,g⟩ rest L ⟨bs,[]⟩ :=
 TX.apG2 hu hi hz hzc hsz hby hx hy hsrc hnone news hnews h1 hm hb1 hb2 hd fun b' cap' bs' a b c d e f _=>h b' cap' bs' a b c d e f
theorem TX.apM {X A:TypeId} {info:TypeInfo} {zv:Value} {x y:Operand} {src:Option Nat} {n cap q m cq by':Nat} (hu:∀w,(underlying X).run c.P w=.ok (.slice A) w) (hi:∀w,(typeInfo A).run c.P w=.ok info w) (hz:info.zero=some zv) (hzc:zv.cells.size=1) (hsz:info.size=1) (hby:info.bytes=by')
  (hx:ev L x=some (.slice (src.map fun b=>⟨b,0,none⟩) n cap)) (hy:ev L y=some (.slice (some ⟨q,0,none⟩) m cq))
  (hsrc:∀b,src=some b→HasB bs b A cap∧n≤cap) (hnone:src=none→n=0∧cap=0) (news:Nat→Value) (hnews:∀j,j < m→Cell bs q j (news j)) (h1:∀j,j < m→(news j).oneCell'=true) (hm:0 < m)
  (hb1:(n+m) * by'≤140737488355328) (hb2:n+m≤140737488355328) (hd:Nat.blt d c.n=true)
  (h:∀b' cap' bs',((src=some b'∧cap'=cap)∨b'∉ids bs)→MS bs bs' (fun b i=>src=some b∧n≤i)→HasB bs' b' A cap'→n+m≤cap'→(∀b,src=some b→∀i v,i < n→Cell bs b i v→Cell bs' b' i v)→(∀j,j < m→Cell bs' b' (n+j) (news j)) →
   TO c ops Q rest ((d,.slice (some ⟨b',0,none⟩) (n+m) cap')::L) ⟨bs',[]⟩) :
  TX c ops Q ⟨some d,.call ⟨.builtin .append,#[x,y],#[X,X]⟩,T,pos,af,g⟩ rest L ⟨bs,[]⟩ :=
 TX.apG (off:=0) hu hi hz hzc hsz hby hx hy hsrc hnone news (fun j hj=>by rw [Nat.zero_add];exact hnews j hj) h1 hm hb1 hb2 hd h
theorem TX.bsM {X A:TypeId} {v zv:Value} (hu:∀w,(underlying X).run c.P w=.ok (.slice A) w) (hs:∀w,(sizeOf A).run c.P w=.ok 1 w) (hz:∀w,(zeroValue A).run c.P w=.ok zv w) (hzs:zv.cells.size=1) {α:Type} {N:En α} (x0:α) (hN:N.sz=1) (hv:N.enc x0=[v])
  {pv:List (Nat×Value)} {parts:List (Nat×Operand)} (hp:evp L parts=some pv) (hf:∀zl:List Value,zl.length=1→fillL (fun i=>some (i * 1,1)) zl pv=some [v]) (hd:Nat.blt d c.n=true)
  (h:∀b bs',b∉ids bs→MS bs bs' (fun _ _=>False)→Cell bs' b 0 v→TO c ops Q rest ((d,.slice (some ⟨b,0,none⟩) 1 1)::L) ⟨bs',[]⟩):TX c ops Q ⟨some d,.buildSlice X 1 parts.toArray,T,pos,af,g⟩ rest L ⟨bs,[]⟩:=by
 refine TX.buildS0 (N:=N) (ys:=[x0]) (n:=1) hu (by rw [hN];exact hs) hz (by rw [hN];exact hzs) hp rfl (by rw [hN];rfl) (fun zl hzl=>?_) hd fun sp Hs ho=>?_
 ·rw [hN] at hzl ⊢
  rw [hf zl hzl];simp [hv]
 rcases ho with ⟨_,hc,_,_⟩ | ⟨b,cur,rfl,rfl,_,_,hsz,htk⟩
 ·cases hc
 refine fun a w s=>?_
 have sp:=s.perm (H':=⟨(b,.cells cur A (0,0))::bs,[]⟩) (by
  simp only [Hp.all,List.flatten_cons,List.flatten_nil,List.append_nil]
  exact (List.perm_append_comm (l₁:=[(b,.cells cur A (0,0))]) (l₂:=bs)))
 have hfr:b∉ids bs:=by
  have:=sp.nd
  rw [List.map_cons,List.nodup_cons] at this
  exact this.1
 refine h b _ hfr new_ms ⟨cur,A,(0,0),List.mem_cons_self,?_⟩ a w sp
 have:cur.toList.take 1=[v]:=by simpa [hN,hv] using htk
 have h0:(cur.toList.take 1)[0]?=some v:=by rw [this];rfl
 rw [List.getElem?_take] at h0
 simpa using h0
end
section
variable {c:Cx} {ops:Array Oper} {Q:Exit→Act→World→Prop} {rest:List Oper} {L:Slots} {H:Hp} {bs:Blocks} {x:Code}
variable {d:Nat} {T:TypeId} {pos:String} {af:Array Edge} {g:Option (Nat×Bool)}
theorem TC.loopN (St:Nat→Slots→Hp→Prop) (n:Nat)
  (round:∀(K:Act→World→Prop) (k:Nat) (L:Slots) (H:Hp),St k L H→k≤n→(∀L' H',k < n→St (k+1) L' H'→TE (Exit.then K Q) .normal c L' H')→TC c x (Exit.then K Q) L H) (hs:St 0 L H):TC c (.loop x) Q L H:=by
 refine TC.loop (σ:=Nat) (ρ:=Unit) (fun m s=>if s≤n∧n - s < m then some () else none) () (fun s=>by simp) St (fun K m s L H hs hf hn=>?_) (n+1) 0 hs (by simp)
 by_cases hc:s≤n∧n - s < m+1
 ·refine round K s L H hs hc.1 fun L' H' hlt hs'=>hn (s+1) L' H' hs' ?_
  rw [if_pos ⟨by omega,by omega⟩]
 rw [if_neg hc] at hf;cases hf
theorem QV.lenM {S e:TypeId} {y:Operand} {p:Option Addr} {n k:Nat} (hu:∀w,(underlying S).run c.P w=.ok (.slice e) w) (hx:ev L y=some (.slice p n k)):QV c ⟨some d,.call ⟨.builtin .len,#[y],#[S]⟩,T,pos,af,g⟩ L H (.int .i64 (n:Int)):=by
 have:=QV.lenS (c:=c) (H:=H) (T:=T) (pos:=pos) (af:=af) (g:=g) (d:=d) (xs:=List.replicate n ()) hu hx (by simp)
 simpa using this
theorem TX.lenM {S e:TypeId} {y:Operand} {p:Option Addr} {n k:Nat} (hu:∀w,(underlying S).run c.P w=.ok (.slice e) w) (hx:ev L y=some (.slice p n k)) (hd:Nat.blt d c.n=true) (h:TO c ops Q rest ((d,.int .i64 (n:Int))::L) H):TX c ops Q ⟨some d,.call ⟨.builtin .len,#[y],#[S]⟩,T,pos,af,g⟩ rest L H:=TX.val hd (QV.lenM hu hx) h
end
section
variable {c:Cx} {ops:Array Oper} {Q:Exit→Act→World→Prop} {rest:List Oper} {L:Slots} {H:Hp} {bs:Blocks}
variable {d:Nat} {T:TypeId} {pos:String} {af:Array Edge} {g:Option (Nat×Bool)}
theorem QV.ixN {X A:TypeId} {x ix:Operand} {b n k i:Nat} {ik:IntKind} (hu:∀w,(underlying X).run c.P w=.ok (.slice A) w) (hs:∀w,(sizeOf A).run c.P w=.ok 1 w) (hx:ev L x=some (.slice (some ⟨b,0,none⟩) n k)) (hi:ev L ix=some (.int ik (i:Int))) (hk:i < n):QV c ⟨some d,.indexAddr X x ix,T,pos,af,g⟩ L H (.pointer (some ⟨b,i,none⟩)) :=
 QV.ixM (i:=(i:Int)) hu hs hx hi (inb_iff.2 ⟨by omega,by omega⟩)
theorem TX.ixN {X A:TypeId} {x ix:Operand} {b n k i:Nat} {ik:IntKind} (hu:∀w,(underlying X).run c.P w=.ok (.slice A) w) (hs:∀w,(sizeOf A).run c.P w=.ok 1 w) (hx:ev L x=some (.slice (some ⟨b,0,none⟩) n k)) (hi:ev L ix=some (.int ik (i:Int))) (hk:i < n) (hd:Nat.blt d c.n=true)
  (h:TO c ops Q rest ((d,.pointer (some ⟨b,i,none⟩))::L) H):TX c ops Q ⟨some d,.indexAddr X x ix,T,pos,af,g⟩ rest L H:=TX.val hd (QV.ixN hu hs hx hi hk) h
end
section
variable {c:Cx} {ops:Array Oper} {Q:Exit→Act→World→Prop} {rest:List Oper} {L:Slots} {H:Hp} {bs:Blocks}
variable {d:Nat} {T:TypeId} {pos:String} {af:Array Edge} {g:Option (Nat×Bool)}
theorem QV.eqT {xT yT:TypeId} {x y:Operand} {k:IntKind} {m:Int} (hx:ev L x=some (.int k m)) (hy:ev L y=some (.int k m)):QV c ⟨some d,.binOp .eql xT x y yT,T,pos,af,g⟩ L H (.bool true):=by
 have:=QV.ibin (c:=c) (H:=H) (d:=d) (T:=T) (pos:=pos) (af:=af) (g:=g) (xT:=xT) (yT:=yT) (op:=.eql) (v:=.bool (m == m)) rfl hx hy
 rwa [beq_self_eq_true] at this
theorem QV.ltB {xT yT:TypeId} {x y:Operand} {k:IntKind} {m n:Int} {b:Bool} (hx:ev L x=some (.int k m)) (hy:ev L y=some (.int k n)) (hb:decide (m < n)=b):QV c ⟨some d,.binOp .lss xT x y yT,T,pos,af,g⟩ L H (.bool b):=by
 subst hb
 exact QV.ibin rfl hx hy
end
theorem Con.ret0 {P:Program} {k:FuncId} {args:List SV} {r:Value} {vs:List Value} {w:World} (h:Con P k args [] 0 (.v r) [] 0) (ha:SV.dens (fun _=>none) args=some vs) (gl:GlF w []):Ret P k vs w Hp.nil fun v R=>v=r∧R=Hp.nil:=by
 have h2:=h w (fun _=>none) [] vs ha rfl (fun _ _=>rfl) (fun p hp=>by simp at hp) (by simp) gl
 refine Ret.mono h2 ?_
 rintro v R ⟨c,ρ',F',rfl,_,hv,hF⟩
 rw [SV.den] at hv;cases hv
 have hF:F'=[]:=hF
 subst hF
 exact ⟨rfl,rfl⟩
end Go.HW
