/- Part of the proof: the logic, the walks, and what they compute. -/
import Derived.Shelf.SlIter.Sorted
import Derived.Shelf.SlIter.Collect
import Derived.Shelf.SlIter.Keys
import Derived.Shelf.SlIter.Nil
import Derived.Shelf.SortM.Plain
import Derived.Shelf.SortM.SortNone
import Derived.Ground.GgzProg
import Derived.Ground.SlgmProg
import Derived.Test.YteicbpfkljnemaaGreatProg
import Derived.Shelf.AbstractIn
import Derived.KernelRfl
import Derived.Laws.Strings
import Derived.Test.YteicbpfkljnemaaGreatTE
set_option linter.all false
namespace Go.Proofs
open Go.Shelf
def Tryz.keysA_ren:Go.Shelf.Ren:=⟨fun | 10=>86 | n=>n,fun | 33=>153 | 23=>58 | 0=>0 | 4=>4 | 26=>9 | 3=>3 | n=>n,fun | n=>n⟩
theorem Tryz.keysA:Go.Proofs.SlLaysZ.n10 Tryz.prog Tryz.keysA_ren:={
 mixed:=by kernel_rfl
 f10:=⟨Tryz.f86.name,by decide,Tryz.func86.trans (congrArg some (by kernel_rfl))⟩
 t0:=Tryz.underlying0
 a0:=Tryz.isAgg0
 z0:=Tryz.sizeOf0
 v0:=Tryz.zeroValue0
 t4:=Tryz.underlying4
 a4:=Tryz.isAgg4
 z4:=Tryz.sizeOf4
 v4:=Tryz.zeroValue4
 t23:=Tryz.underlying58
 a23:=Tryz.isAgg58
 z23:=Tryz.sizeOf58
 v23:=Tryz.zeroValue58
 t26:=Tryz.underlying9
 a26:=Tryz.isAgg9
 z26:=Tryz.sizeOf9
 v26:=Tryz.zeroValue9
 t33:=Tryz.underlying153
 a33:=Tryz.isAgg153
 z33:=Tryz.sizeOf153
 v33:=Tryz.zeroValue153 }
def Tryz.sortedA_ren:Go.Shelf.Ren:=⟨fun | 6=>43 | 8=>84 | 9=>85 | 11=>117 | 13=>119 | 12=>118 | 23=>142 | 24=>143 | 14=>133 | 15=>134 | 16=>135 | 17=>136 | 18=>137 | 19=>138 | 20=>139 | 21=>140 | 22=>141 | 25=>144 | 26=>145 | 27=>146 | 28=>147 | 29=>148 | 30=>149 | 31=>150 | n=>n,fun | 26=>9 | 28=>109 | 24=>49 | 0=>0 | 3=>3 | 37=>157 | 48=>159 | 50=>37 | 4=>4 | 40=>258 | 39=>257 | 45=>113 | 5=>5 | 9=>9 | 51=>266 | 55=>270 | 57=>272 | 58=>273 | 33=>153 | n=>n,fun | n=>n⟩
theorem Tryz.sortedA:Go.Proofs.SlLaysZ.n6 Tryz.prog Tryz.sortedA_ren:={
 mixed:=by kernel_rfl
 f6:=⟨Tryz.f43.name,by decide,Tryz.func43.trans (congrArg some (by kernel_rfl))⟩
 f8:=⟨Tryz.f84.name,by decide,Tryz.func84.trans (congrArg some (by kernel_rfl))⟩
 f11:=⟨Tryz.f117.name,by decide,Tryz.func117.trans (congrArg some (by kernel_rfl))⟩
 t0:=Tryz.underlying0
 a0:=Tryz.isAgg0
 z0:=Tryz.sizeOf0
 v0:=Tryz.zeroValue0
 t24:=Tryz.underlying49
 a24:=Tryz.isAgg49
 z24:=Tryz.sizeOf49
 v24:=Tryz.zeroValue49
 t26:=Tryz.underlying9
 a26:=Tryz.isAgg9
 z26:=Tryz.sizeOf9
 v26:=Tryz.zeroValue9
 t28:=Tryz.underlying109
 a28:=Tryz.isAgg109
 z28:=Tryz.sizeOf109
 v28:=Tryz.zeroValue109
 i26:=by kernel_rfl }
def Tryz.sortA_ren:Go.Shelf.Ren:=⟨fun | 6=>85 | 8=>119 | 9=>118 | 19=>142 | 20=>143 | 21=>133 | 22=>134 | 23=>135 | 24=>136 | 25=>137 | 26=>138 | 27=>139 | 28=>140 | 29=>141 | 36=>144 | 31=>145 | 32=>146 | 37=>147 | 38=>148 | 39=>149 | 41=>150 | n=>n,fun | 27=>49 | 29=>9 | 3=>3 | 32=>157 | 26=>49 | 0=>0 | 44=>159 | 46=>37 | 4=>4 | 36=>258 | 35=>257 | 41=>113 | 5=>5 | 9=>9 | 53=>266 | 57=>270 | 63=>272 | 64=>273 | n=>n,fun | n=>n⟩
theorem Tryz.sortA:Go.Proofs.SlLaysM.n6 Tryz.prog Tryz.sortA_ren:={
 mixed:=by kernel_rfl
 f6:=⟨Tryz.f85.name,by decide,Tryz.func85.trans (congrArg some (by kernel_rfl))⟩
 f8:=Tryz.func119.trans (congrArg some (by kernel_rfl))
 f9:=⟨Tryz.f118.name,by decide,Tryz.func118.trans (congrArg some (by kernel_rfl))⟩
 f19:=Tryz.func142.trans (congrArg some (by kernel_rfl))
 f20:=Tryz.func143.trans (congrArg some (by kernel_rfl))
 f21:=⟨Tryz.f133.name,by decide,Tryz.func133.trans (congrArg some (by kernel_rfl))⟩
 f22:=⟨Tryz.f134.name,by decide,Tryz.func134.trans (congrArg some (by kernel_rfl))⟩
 f23:=⟨Tryz.f135.name,by decide,Tryz.func135.trans (congrArg some (by kernel_rfl))⟩
 f24:=⟨Tryz.f136.name,by decide,Tryz.func136.trans (congrArg some (by kernel_rfl))⟩
 f25:=⟨Tryz.f137.name,by decide,Tryz.func137.trans (congrArg some (by kernel_rfl))⟩
 f26:=⟨Tryz.f138.name,by decide,Tryz.func138.trans (congrArg some (by kernel_rfl))⟩
 f27:=⟨Tryz.f139.name,by decide,Tryz.func139.trans (congrArg some (by kernel_rfl))⟩
 f28:=⟨Tryz.f140.name,by decide,Tryz.func140.trans (congrArg some (by kernel_rfl))⟩
 f29:=⟨Tryz.f141.name,by decide,Tryz.func141.trans (congrArg some (by kernel_rfl))⟩
 f31:=Tryz.func145.trans (congrArg some (by kernel_rfl))
 f32:=Tryz.func146.trans (congrArg some (by kernel_rfl))
 f36:=⟨Tryz.f144.name,by decide,Tryz.func144.trans (congrArg some (by kernel_rfl))⟩
 f37:=⟨Tryz.f147.name,by decide,Tryz.func147.trans (congrArg some (by kernel_rfl))⟩
 f38:=⟨Tryz.f148.name,by decide,Tryz.func148.trans (congrArg some (by kernel_rfl))⟩
 f39:=⟨Tryz.f149.name,by decide,Tryz.func149.trans (congrArg some (by kernel_rfl))⟩
 f41:=⟨Tryz.f150.name,by decide,Tryz.func150.trans (congrArg some (by kernel_rfl))⟩
 t0:=Tryz.underlying0
 a0:=Tryz.isAgg0
 z0:=Tryz.sizeOf0
 v0:=Tryz.zeroValue0
 t3:=Tryz.underlying3
 a3:=Tryz.isAgg3
 z3:=Tryz.sizeOf3
 v3:=Tryz.zeroValue3
 t4:=Tryz.underlying4
 a4:=Tryz.isAgg4
 z4:=Tryz.sizeOf4
 v4:=Tryz.zeroValue4
 t5:=Tryz.underlying5
 a5:=Tryz.isAgg5
 z5:=Tryz.sizeOf5
 v5:=Tryz.zeroValue5
 t9:=Tryz.underlying9
 a9:=Tryz.isAgg9
 z9:=Tryz.sizeOf9
 v9:=Tryz.zeroValue9
 t26:=Tryz.underlying49
 a26:=Tryz.isAgg49
 z26:=Tryz.sizeOf49
 v26:=Tryz.zeroValue49
 t27:=Tryz.underlying49
 a27:=Tryz.isAgg49
 z27:=Tryz.sizeOf49
 v27:=Tryz.zeroValue49
 t29:=Tryz.underlying9
 a29:=Tryz.isAgg9
 z29:=Tryz.sizeOf9
 v29:=Tryz.zeroValue9
 t32:=Tryz.underlying157
 a32:=Tryz.isAgg157
 z32:=Tryz.sizeOf157
 v32:=Tryz.zeroValue157
 t35:=Tryz.underlying257
 a35:=Tryz.isAgg257
 z35:=Tryz.sizeOf257
 v35:=Tryz.zeroValue257
 t36:=Tryz.underlying258
 a36:=Tryz.isAgg258
 z36:=Tryz.sizeOf258
 v36:=Tryz.zeroValue258
 t41:=Tryz.underlying113
 a41:=Tryz.isAgg113
 z41:=Tryz.sizeOf113
 v41:=Tryz.zeroValue113
 t44:=Tryz.underlying159
 a44:=Tryz.isAgg159
 z44:=Tryz.sizeOf159
 v44:=Tryz.zeroValue159
 t46:=Tryz.underlying37
 a46:=Tryz.isAgg37
 z46:=Tryz.sizeOf37
 v46:=Tryz.zeroValue37
 t53:=Tryz.underlying266
 a53:=Tryz.isAgg266
 z53:=Tryz.sizeOf266
 v53:=Tryz.zeroValue266
 t57:=Tryz.underlying270
 a57:=Tryz.isAgg270
 z57:=Tryz.sizeOf270
 v57:=Tryz.zeroValue270
 t63:=Tryz.underlying272
 a63:=Tryz.isAgg272
 z63:=Tryz.sizeOf272
 v63:=Tryz.zeroValue272
 t64:=Tryz.underlying273
 a64:=Tryz.isAgg273
 z64:=Tryz.sizeOf273
 v64:=Tryz.zeroValue273 }
end Go.Proofs
namespace Go.Proofs.YteicbpfkljnemaaGreat
open Go Go.HW Go.MapKept Go.RowKit Go.Maps Go.Sort Go.Shelf
theorem sortsA (m:Nat):AnyZ.SortsIn Tryz.prog Tryz.sortedA_ren Fence.wide m :=
  ⟨fun blk off cap ss W hH hblk hsz=>callsIn_wide.2 (AnyM.slices_Sort_string Tryz.sortA blk off cap ss W hH hblk hsz),
   fun p cap W=>callsIn_wide.2 (AnyM.slices_Sort_string_none Tryz.sortA p cap W)⟩
theorem sortedSeq (bx:Nat) (w:World) (S:List (List UInt8)→Prop) (M:Nat) (hM:M≤maxLen) (hMb:M * 16≤140737488355328) (hseq:SeqGives Fence.wide 2 Tryz.prog 86 #[.pointer (some ⟨bx,0,none⟩)] encStr S M w) :
  Calls Tryz.prog 43 #[.func (.func 86) #[] #[.pointer (some ⟨bx,0,none⟩)]] w fun e w'=>∃(v:Value) (ss:List (List UInt8)),e=.returned v∧S ss ∧
   w'.ownsRow w.heap.size 9 1 v ss.length ((ss.mergeSort (fun x y=>decide (x≤y))).map encStr)∧(v=.slice none 0 0↔ss=[])∧Below w.heap.size w w':=by
 refine (callsIn_wide (n:=5)).1 ?_
 exact AnyZ.sorted_in Tryz.sortedA Fence.wide 5 trivial trivial trivial trivial rfl (by omega) (sortsA _) (enters_of Tryz.func85 (by kernel_rfl) rfl) 86 #[.pointer (some ⟨bx,0,none⟩)] trivial (enters_of Tryz.func86 (by kernel_rfl) rfl) S M hM hMb w hseq
theorem leB_trans (a b c:List UInt8) (h1:leB a b=true) (h2:leB b c=true):leB a c=true:=by simp only [leB,decide_eq_true_eq] at *;exact List.le_trans h1 h2
theorem leB_total (a b:List UInt8):(leB a b||leB b a)=true:=by simp only [leB,Bool.or_eq_true,decide_eq_true_eq];exact List.le_total a b
theorem leB_anti (a b:List UInt8) (h1:leB a b=true) (h2:leB b a=true):a=b:=by simp only [leB,decide_eq_true_eq] at h1 h2;exact List.le_antisymm h1 h2
def insL (x:List UInt8):List (List UInt8)→List (List UInt8)
 | []=>[x]
 | y::l=>bif decide (x≤y) then x::y::l else y::insL x l
def sortL:List (List UInt8)→List (List UInt8)
 | []=>[]
 | x::l=>insL x (sortL l)
theorem insL_perm (x:List UInt8):∀l,(insL x l).Perm (x::l)
 | []=>.refl _
 | y::l=>by
  simp only [insL]
  cases decide (x≤y) with
  | true=>exact .refl _
  | false=>exact ((insL_perm x l).cons y).trans (.swap x y l)
theorem sortL_perm:∀l,(sortL l).Perm l
 | []=>.refl _
 | x::l=>(insL_perm x _).trans ((sortL_perm l).cons x)
theorem insL_sorted (x:List UInt8):∀l,l.Pairwise (fun a b=>decide (a≤b)=true)→(insL x l).Pairwise (fun a b=>decide (a≤b)=true)
 | [],_=>by simp [insL]
 | y::l,h=>by
  simp only [insL]
  have h1:=List.pairwise_cons.1 h
  cases hd:decide (x≤y) with
  | true =>
   refine List.pairwise_cons.2 ⟨fun a ha=>?_,h⟩
   rcases List.mem_cons.1 ha with rfl | ha
   ·exact hd
   exact leB_trans x y a hd (h1.1 a ha)
  | false =>
   refine List.pairwise_cons.2 ⟨fun a ha=>?_,insL_sorted x l h1.2⟩
   rcases List.mem_cons.1 ((insL_perm x l).subset ha) with rfl | ha
   ·have:=leB_total a y
    rcases Bool.or_eq_true _ _ |>.mp this with h2 | h2
    ·exact absurd h2 (by rw [show leB a y=decide (a≤y) from rfl,hd];decide)
    exact h2
   exact h1.1 a ha
theorem sortL_sorted:∀l,(sortL l).Pairwise (fun a b=>decide (a≤b)=true)
 | []=>.nil
 | x::l=>insL_sorted x _ (sortL_sorted l)
theorem mergeSort_sortL (l:List (List UInt8)):(l.mergeSort fun x y=>decide (x≤y))=sortL l :=
 List.Perm.eq_of_pairwise (le:=fun a b=>decide (a≤b)=true) (fun a b _ _ h1 h2=>leB_anti a b h1 h2)
  (List.pairwise_mergeSort (le:=fun x y=>decide (x≤y)) leB_trans leB_total l) (sortL_sorted l) ((List.mergeSort_perm l _).trans (sortL_perm l).symm)
def srt (l:List ByteArray):List ByteArray:=(sortL (l.map (·.data.toList))).map fun x=>⟨x.toArray⟩
def fn43 (p0:List (ByteArray×Int)):Option (List ByteArray) :=
 bif decide ((p0.length:Int)≤8796093022208)&&p0.all (fun p=>decide (p.1.size≤9223372036854775807)) then some (srt (p0.map (·.1))) else none
theorem encs_str:∀l:List ByteArray,l.flatMap En.str.enc=l.map .string:=fun l=>by
 induction l with
 | nil=>rfl
 | cons x l ih=>simp only [List.flatMap_cons,List.map_cons,ih];rfl
theorem cRow (w w':World) (v:Value) (ss:List (List UInt8)) (r:List ByteArray) (hr:(ss.mergeSort fun x y=>decide (x≤y)).map (fun x=>(⟨x.toArray⟩:ByteArray))=r)
  (hrow:w'.ownsRow w.heap.size 9 1 v ss.length ((ss.mergeSort (fun x y=>decide (x≤y))).map encStr)) :
  ∃sp n cap Hs,v=.slice sp n cap∧r.length=n∧OwnL En.str 9 sp cap r Hs∧(∀p∈Hs,w'.heap[p.1]?=some p.2)∧(∀p∈Hs,w.heap.size≤p.1)∧(Hs.map (·.1)).Nodup:=by
 have hlr:r.length=ss.length:=by rw [← hr];simp
 have he:(ss.mergeSort (fun x y=>decide (x≤y))).map encStr=r.map .string:=by
  rw [← hr,List.map_map];rfl
 rw [he] at hrow
 rcases hrow.2 with ⟨rfl,h0⟩ | ⟨g,cap,cur,rfl,hg,hgb,q1,q2,q3,q4⟩
 ·have hr0:r=[]:=List.eq_nil_of_length_eq_zero (by omega)
  exact ⟨none,0,0,[],rfl,by simp [hr0],.inl ⟨rfl,rfl,hr0,rfl⟩,by simp,by simp,by simp⟩
 refine ⟨some ⟨g,0,none⟩,ss.length,cap,[(g,.cells cur 9 (0,0))],rfl,hlr,.inr ⟨g,cur,rfl,⟨(0,0),nofz0,rfl⟩,by omega,q2,by simpa [En.str] using q3,?_⟩,by simpa using hgb,by simpa using hg,by simp⟩
 have e2:En.str.sz=1:=rfl
 rw [e2,encs_str,hlr];exact q4
theorem mapKeys {p0:List (ByteArray×Int)} {r:List ByteArray} (h:fn43 p0=some r) {w:World} {m:Nat} {Hs:Blocks} (ho:OwnM Kn.str (Value.int .i64) m p0 Hs) (hb0:∀p∈Hs,w.heap[p.1]?=some p.2) :
  ∃(nn:Nat) (D0:DataW Unit) (R:Value→Option (DataW Unit×List MemPlace)),w.ownsMap Tryz.prog 9 R m nn D0∧Maps.size D0≤maxLen∧Maps.size D0 * 16≤140737488355328 ∧
   ∀ss:List (List UInt8),ss.Perm (strKeys D0)→(ss.mergeSort fun x y=>decide (x≤y)).map (fun x=>(⟨x.toArray⟩:ByteArray))=r:=by
 obtain ⟨hk,hr⟩:=ck h
 simp only [Bool.and_eq_true,decide_eq_true_eq,List.all_eq_true] at hk
 obtain ⟨hlen,hwf⟩:=hk
 obtain ⟨es,clock,rfl,h1,h2⟩:=ho
 have hb:w.heap[m]?=some (.map es clock):=hb0 (m,.map es clock) (by simp)
 have hu:Tryz.prog.underlying 9=some .string:=Tryz.underlying9
 have hes:es.size=p0.length:=by have:=congrArg List.length h1;simpa using this
 have hkey:∀x∈es.toList,∃p∈p0,x.key=.string p.1:=fun x hx=>by
  have:(x.key,x.val)∈p0.map (fun p=>(Kn.str.enc p.1,Value.int .i64 p.2)):=by rw [← h1];exact List.mem_map.2 ⟨x,hx,rfl⟩
  obtain ⟨p,hp,he⟩:=List.mem_map.1 this
  exact ⟨p,hp,(congrArg Prod.fst he).symm⟩
 let R:Value→Option (DataW Unit×List MemPlace):=fun _=>some (.nil,[])
 have hmx:(8796093022208:Nat)≤maxLen:=by decide
 have hml:(9223372036854775807:Nat)=maxLen:=by decide
 have hkf:∀x:ByteArray,x.size≤maxLen→keyOf Tryz.prog 9 (.string x)=some (.string x.data.toList):=fun x hx=>by
  simp [keyOf,hu,mapKey,hx]
 have F:Go.WideElems.Fit Tryz.prog 9 R es clock:=⟨by omega,h2,fun x hx=>by
  obtain ⟨p,hp,he⟩:=hkey x hx
  exact ⟨(.string p.1.data.toList,.nil),by simp [Go.WideElems.rd,he,hkf p.1 (hml▸hwf p hp),R]⟩⟩
 have hown:=World.ownsMap_of_fit hb F (R:=R) (fun _ _ _ h=>h)
 have hperm:(strKeys (H:=Unit) (.map ((es.toList.map (Go.WideElems.rg Tryz.prog 9 R)).foldr DataW.insert []))).Perm (p0.map (·.1.data.toList)):=by
  have e1:(es.toList.map (Go.WideElems.rg Tryz.prog 9 R)).map (fun p=>Go.strOf p.1)=p0.map (·.1.data.toList):=by
   apply List.ext_getElem?
   intro i
   have h1i:=congrArg (fun l=>l[i]?) h1
   simp only [List.getElem?_map] at h1i ⊢
   cases hx:es.toList[i]? with
   | none=>rw [hx] at h1i;cases hp:p0[i]? with
    | none=>rfl
    | some p=>rw [hp] at h1i;cases h1i
   | some x =>
    rw [hx] at h1i
    cases hp:p0[i]? with
    | none=>rw [hp] at h1i;cases h1i
    | some p =>
     rw [hp] at h1i
     have hk1:x.key=.string p.1:=congrArg Prod.fst (Option.some.inj h1i)
     simp [Go.WideElems.rg,Go.WideElems.rd,hk1,hkf p.1 (hml▸hwf p (List.mem_of_getElem? hp)),R,Go.strOf]
  rw [← e1]
  exact (Go.WideShapes.sorted_perm _).map _
 have hsz:Maps.size (H:=Unit) (.map ((es.toList.map (Go.WideElems.rg Tryz.prog 9 R)).foldr DataW.insert []))=p0.length:=by
  have:=hperm.length_eq
  simpa [strKeys,Maps.size] using this
 refine ⟨es.size,_,R,hown,by rw [hsz];omega,by rw [hsz];omega,fun ss hS=>?_⟩
 have:=Option.some.inj hr
 rw [← this,srt,← mergeSort_sortL,List.map_map]
 rw [show (fun x y:List UInt8=>decide (x≤y))=leB from rfl,mergeSort_of_perm (hS.trans hperm)]
 rfl
theorem c43 (p0:List (ByteArray×Int)) (r:List ByteArray) (h:fn43 p0=some r):Con Tryz.prog 43 [.fn (.func 86) [] [.p 0 0]] [(0,.cells 58 [.mp 1]),(1,.omap Kn.str (Vn.int .i64) p0)] 2 (.sl 2) [(2,.row Et.str 9 r r.length .unk),(0,.cells 58 [.mp 1]),(1,.omap Kn.str (Vn.int .i64) p0)] 3:=by
 intro w ρ F vs hv hR hf hh hn gl
 obtain ⟨f,F2,rfl,⟨bx,us,b1,b2,rfl⟩,g,F3,rfl,⟨b,b3,b4⟩,hR2⟩:=hR
 obtain rfl:F3=[]:=hR2
 have hvs:vs=[.func (.func 86) #[] #[.pointer (some ⟨bx,0,none⟩)]]:=by
  have e1:SV.dens ρ [.p 0 0]=some [.pointer (some ⟨bx,0,none⟩)]:=denAll_dens (l:=[.p 0 0]) ⟨by rw [SV.den,b1];rfl,trivial⟩
  have:SV.dens ρ [.fn (.func 86) [] [.p 0 0]]=some [.func (.func 86) #[] #[.pointer (some ⟨bx,0,none⟩)]]:=denAll_dens (l:=[.fn (.func 86) [] [.p 0 0]]) ⟨by rw [SV.den,dens_nil,e1];rfl,trivial⟩
  rw [this] at hv;exact (Option.some.inj hv).symm
 subst hvs
 have hus:us=[.map (some b)]:=by
  have:SV.dens ρ [.mp 1]=some [.map (some b)]:=denAll_dens (l:=[.mp 1]) ⟨by rw [SV.den,b3];rfl,trivial⟩
  rw [this] at b2;exact (Option.some.inj b2).symm
 subst hus
 have hbx:w.heap[bx]?=some (.cells #[.map (some b)] 58 (0,0)):=hh (bx,_) (by simp)
 obtain ⟨nn,D0,R,hown,hsz,hsb,hfin⟩:=mapKeys h b4 (fun p hp=>hh p (by simp [hp]))
 have hbl:bx < w.heap.size:=(Array.getElem?_eq_some_iff.1 hbx).1
 have hseq:SeqGives Fence.wide 2 Tryz.prog 86 #[.pointer (some ⟨bx,0,none⟩)] encStr (fun ss=>ss.Perm (strKeys D0)) (Maps.size D0) w :=
  AnyZ.keys_gives (ρ:=Tryz.keysA_ren) Tryz.keysA Fence.wide 2 trivial rfl (by omega) bx b nn D0 w hbl (by simp [World.cell?,hbx]) hown
 refine Calls.mono (sortedSeq bx w _ _ hsz hsb hseq) ?_
 rintro e w' ⟨v,ss,rfl,hS,hrow,hnil,hbe⟩
 obtain ⟨sp,n,cap,Hs,rfl,hlen,ho,h1,h2,h3⟩:=cRow w w' v ss r (hfin ss hS) hrow
 have hold:∀p∈([(bx,Obj.cells [Value.map (some b)].toArray 58 (0,0))]++g:Blocks),w'.heap[p.1]?=some p.2:=fun p hp=>by
  have hw:=hh p (by simpa using hp)
  rw [hbe.block p.1 (Array.getElem?_eq_some_iff.1 hw).1];exact hw
 have hg:=Env.set_grow (ρ:=ρ) (n:=2) (l:=⟨sp,cap,r.length⟩) hf
 have hle:=hg.toLe hf
 have hlt:∀p∈([(bx,Obj.cells [Value.map (some b)].toArray 58 (0,0))]++g:Blocks),p.1 < w.heap.size:=fun p hp=>(Array.getElem?_eq_some_iff.1 (hh p (by simpa using hp))).1
 subst hlen
 refine ⟨_,⟨[],[Hs,[(bx,Obj.cells [Value.map (some b)].toArray 58 (0,0))],g]⟩,rfl,⟨⟨hbe.os,hbe.tape,hbe.output,hbe.size,fun k hk _=>hbe.block k hk⟩,?_,?_,?_⟩,cB Tryz.prog w [[(bx,.cells [Value.map (some b)].toArray 58 (0,0))],g],ρ.set 2 ⟨sp,cap,r.length⟩,_,rfl,hg,by rw [SV.den,Env.set_self];rfl,?_⟩
 ·simp only [Hp.all,List.nil_append,List.flatten_cons,List.flatten_nil,List.append_nil,List.map_append]
  refine List.nodup_append.2 ⟨h3,by simpa using hn,fun x hx y hy he=>?_⟩
  obtain ⟨p,hp,rfl⟩:=List.mem_map.1 hx
  rw [← List.map_append] at hy
  obtain ⟨q,hq,rfl⟩:=List.mem_map.1 hy
  have:=h2 p hp;have:=hlt q hq;omega
 ·intro p hp
  simp only [Hp.all,List.nil_append,List.flatten_cons,List.flatten_nil,List.append_nil,List.mem_append] at hp
  rcases hp with hp | hp
  ·exact h1 p hp
  exact hold p (by simpa using hp)
 ·intro p hp
  simp only [Hp.all,List.nil_append,List.flatten_cons,List.flatten_nil,List.append_nil,List.mem_append] at hp
  rcases hp with hp | hp
  ·exact .inr (h2 p hp)
  exact .inl (List.mem_map.2 ⟨p,by simpa [Hp.all] using hp,rfl⟩)
 exact ⟨Hs,_,rfl,⟨sp,cap,Env.set_self,rfl,ho,trivial⟩,_,_,rfl,⟨bx,_,blkOf_mono hle b1,dens_mono hle b2,rfl⟩,_,[],rfl,⟨b,blkOf_mono hle b3,b4⟩,rfl⟩
def fn43v0:List ByteArray:=[]
theorem c43v0 (r:List ByteArray) (h:fn43v0=r):Con Tryz.prog 43 [.fn (.func 86) [] [.p 0 0]] [(0,.cells 58 [.v (.map none)])] 1 (.sl 1) [(1,.row Et.str 9 r r.length .unk),(0,.cells 58 [.v (.map none)])] 2:=by
 subst h
 intro w ρ F vs hv hR hf hh hn gl
 obtain ⟨f,F2,rfl,⟨bx,us,b1,b2,rfl⟩,hR2⟩:=hR
 obtain rfl:F2=[]:=hR2
 have hvs:vs=[.func (.func 86) #[] #[.pointer (some ⟨bx,0,none⟩)]]:=by
  have e1:SV.dens ρ [.p 0 0]=some [.pointer (some ⟨bx,0,none⟩)]:=denAll_dens (l:=[.p 0 0]) ⟨by rw [SV.den,b1];rfl,trivial⟩
  have:SV.dens ρ [.fn (.func 86) [] [.p 0 0]]=some [.func (.func 86) #[] #[.pointer (some ⟨bx,0,none⟩)]]:=denAll_dens (l:=[.fn (.func 86) [] [.p 0 0]]) ⟨by rw [SV.den,dens_nil,e1];rfl,trivial⟩
  rw [this] at hv;exact (Option.some.inj hv).symm
 subst hvs
 have hus:us=[.map none]:=by
  have:SV.dens ρ [.v (.map none)]=some [.map none]:=denAll_dens (l:=[.v (.map none)]) ⟨by rw [SV.den],trivial⟩
  rw [this] at b2;exact (Option.some.inj b2).symm
 subst hus
 have hbx:w.heap[bx]?=some (.cells #[.map none] 58 (0,0)):=hh (bx,_) (by simp)
 have hbl:bx < w.heap.size:=(Array.getElem?_eq_some_iff.1 hbx).1
 have hseq:SeqGives Fence.wide 2 Tryz.prog 86 #[.pointer (some ⟨bx,0,none⟩)] encStr (fun ss:List (List UInt8)=>ss=[]) 0 w :=
  AnyZ.keys_gives_nil (ρ:=Tryz.keysA_ren) Tryz.keysA Fence.wide 2 trivial rfl bx w hbl (by simp [World.cell?,hbx])
 refine Calls.mono (sortedSeq bx w _ _ (by decide) (by decide) hseq) ?_
 rintro e w' ⟨v,ss,rfl,rfl,hrow,hnil,hbe⟩
 obtain rfl:v=.slice none 0 0:=hnil.2 rfl
 have hg:=Env.set_grow (ρ:=ρ) (n:=1) (l:=⟨none,0,0⟩) hf
 have hle:=hg.toLe hf
 refine ⟨_,⟨[],[[],[(bx,Obj.cells [Value.map none].toArray 58 (0,0))]]⟩,rfl,⟨⟨hbe.os,hbe.tape,hbe.output,hbe.size,fun k hk _=>hbe.block k hk⟩,by simp [Hp.all],?_,?_⟩,cB Tryz.prog w [[(bx,.cells [Value.map none].toArray 58 (0,0))]],ρ.set 1 ⟨none,0,0⟩,_,rfl,hg,by rw [SV.den,Env.set_self];rfl,?_⟩
 ·intro p hp
  simp only [Hp.all,List.nil_append,List.flatten_cons,List.flatten_nil,List.append_nil,List.mem_singleton] at hp
  subst hp
  rw [hbe.block _ hbl];exact hbx
 ·intro p hp
  simp only [Hp.all,List.nil_append,List.flatten_cons,List.flatten_nil,List.append_nil,List.mem_singleton] at hp
  subst hp
  exact .inl (by simp [Hp.all])
 exact ⟨[],_,rfl,⟨none,0,Env.set_self,rfl,.inl ⟨rfl,rfl,rfl,rfl⟩,trivial⟩,_,[],rfl,⟨bx,_,blkOf_mono hle b1,dens_mono hle b2,rfl⟩,rfl⟩
end Go.Proofs.YteicbpfkljnemaaGreat
namespace Go.Proofs.YteicbpfkljnemaaGreat
open Go Go.HW
set_option maxRecDepth 40000
set_option maxHeartbeats 8000000
structure Do where
 fWhat:Int
 fKey:List Int
 fB:List Int
 fFlags:Int
 fPlace:Int
 fOff:Int
 deriving DecidableEq,Inhabited
structure DoK where
 fWhat:Int
 fKey:Sl×List Int
 fB:Sl×List Int
 fFlags:Int
 fPlace:Int
 fOff:Int
 deriving DecidableEq,Inhabited
def DoK.enc (x:DoK):List Value:=[.int .i64 x.fWhat,.slice x.fKey.1.1 x.fKey.1.2.1 x.fKey.1.2.2,.slice x.fB.1.1 x.fB.1.2.1 x.fB.1.2.2,.int .u64 x.fFlags,.int .i64 x.fPlace,.int .i64 x.fOff]
def DoK.E:Et DoK:=⟨⟨DoK.enc,6,fun _=>rfl,fun _=>rfl,by decide⟩,fun x=>[.v (.int .i64 x.fWhat),.v (.slice x.fKey.1.1 x.fKey.1.2.1 x.fKey.1.2.2),.v (.slice x.fB.1.1 x.fB.1.2.1 x.fB.1.2.2),.v (.int .u64 x.fFlags),.v (.int .i64 x.fPlace),.v (.int .i64 x.fOff)],fun ρ x=>dens_mapV (DoK.enc x)⟩
def DoK.K (x:DoK):List Kid:=[⟨(Et.int .u8),x.fKey.1,x.fKey.2⟩,⟨(Et.int .u8),x.fB.1,x.fB.2⟩]
structure KB_ where
 flo:Int
 fhi:Int
 deriving DecidableEq,Inhabited
def KB_.enc (x:KB_):List Value:=[.int .i64 x.flo,.int .i64 x.fhi]
def KB_.E:Et KB_:=⟨⟨KB_.enc,2,fun _=>rfl,fun _=>rfl,by decide⟩,fun x=>[.v (.int .i64 x.flo),.v (.int .i64 x.fhi)],fun ρ x=>dens_mapV (KB_.enc x)⟩
structure KM_ where
 fkey:KB_
 fvalue:KB_
 fentries:KB_
 deriving DecidableEq,Inhabited
def KM_.enc (x:KM_):List Value:=[.int .i64 x.fkey.flo,.int .i64 x.fkey.fhi,.int .i64 x.fvalue.flo,.int .i64 x.fvalue.fhi,.int .i64 x.fentries.flo,.int .i64 x.fentries.fhi]
def KM_.E:Et KM_:=⟨⟨KM_.enc,6,fun _=>rfl,fun _=>rfl,by decide⟩,fun x=>[.v (.int .i64 x.fkey.flo),.v (.int .i64 x.fkey.fhi),.v (.int .i64 x.fvalue.flo),.v (.int .i64 x.fvalue.fhi),.v (.int .i64 x.fentries.flo),.v (.int .i64 x.fentries.fhi)],fun ρ x=>dens_mapV (KM_.enc x)⟩
structure HCell where
 fused:Bool
 fthing:List Int
 deriving DecidableEq,Inhabited
def HCell.D:Od HCell:=⟨Int,inferInstance,(Et.int .u8),5,fun x=>x.fthing,fun x r=>{ x with fthing:=r },⟨fun p=>[.bool p.1.fused,.slice p.2.1 p.2.2.1 p.2.2.2],2,fun _=>rfl,fun _=>rfl,by decide⟩,fun x s=>[.v (.bool x.fused),s],fun ρ x u s h=>denAll_dens ⟨by rw [SV.den],by rw [SV.den,h];rfl,trivial⟩,fun _ _=>rfl,fun _ _ _=>rfl,fun _=>rfl⟩
noncomputable def tb:TB:=⟨⟨[(3,.int .i64),(4,.bool),(5,.int .u8),(9,.string),(20,Tryz.t20.desc),(22,.int .u8),(24,Tryz.t23.desc),(25,.slice 39),(28,Tryz.t28.desc),(29,.int .i64),(32,Tryz.t32.desc),(36,.slice 5),(37,.int .u64),(39,Tryz.t38.desc),(44,.slice 36),(46,.slice 44),(48,.slice 3),(49,.slice 9),(58,Tryz.t58.desc),(59,.slice 65),(61,Tryz.t60.desc),(63,Tryz.t62.desc),(65,Tryz.t64.desc),(67,.slice 71),(69,Tryz.t68.desc),(71,Tryz.t70.desc),(111,.slice 28),(120,Tryz.t119.desc),(122,Tryz.t121.desc)],[(3,false),(4,false),(5,false),(9,false),(22,false),(24,true),(28,false),(29,false),(36,false),(37,false),(39,true),(58,false),(59,false),(67,false),(120,true),(129,false)],[(3,1),(4,1),(5,1),(9,1),(22,1),(24,4),(28,1),(29,1),(36,1),(37,1),(39,6),(44,1),(58,1),(59,1),(61,1),(65,2),(67,1),(71,3),(120,2),(122,6)]⟩,⟨[(3,[.v (.int .i64 0)]),(4,[.v (.bool false)]),(5,[.v (.int .u8 0)]),(9,[.v (.string (⟨#[]⟩:ByteArray))]),(24,[.v (.int .u8 0),.v (.int .i64 0),.v (.int .i64 0),.v (.int .i64 0)]),(28,[.v (.pointer none)]),(29,[.v (.int .i64 0)]),(36,[.v (.slice none 0 0)]),(39,[.v (.int .i64 0),.v (.slice none 0 0),.v (.slice none 0 0),.v (.int .u64 0),.v (.int .i64 0),.v (.int .i64 0)]),(44,[.v (.slice none 0 0)]),(63,[.v (.slice none 0 0),.v (.int .u8 0),.v (.int .i64 0),.v (.int .i64 0),.v (.int .i64 0),.v (.map none)]),(65,[.v (.bool false),.v (.slice none 0 0)]),(69,[.v (.int .u8 0),.v (.int .i64 0),.v (.int .i64 0),.v (.int .i64 0),.v (.slice none 0 0)]),(71,[.v (.bool false),.v (.string (⟨#[]⟩:ByteArray)),.v (.slice none 0 0)]),(120,[.v (.int .i64 0),.v (.int .i64 0)]),(122,[.v (.int .i64 0),.v (.int .i64 0),.v (.int .i64 0),.v (.int .i64 0),.v (.int .i64 0),.v (.int .i64 0)])]⟩,⟨[],[],[3,5,6,7,8,9,10,11,12,13,14,15,16,17,18,19,20,21,22,23,24,25,26,27,28,29,30,31,32,33,34,35,36,37,38,39,40,43,44,45,46,47,48,49,50,51,52,53,54,55,56,57,59,87,88,89,90,120]⟩,⟨[(5,(1,1,[.v (.int .u8 0)])),(36,(1,24,[.v (.slice none 0 0)])),(65,(2,32,[.v (.bool false),.v (.slice none 0 0)])),(71,(3,48,[.v (.bool false),.v (.string (⟨#[]⟩:ByteArray)),.v (.slice none 0 0)]))]⟩,[]⟩
theorem tbOk:TBOk Tryz.prog tb :=
 ⟨⟨⟨Tryz.runUnderlying3,Tryz.runUnderlying4,Tryz.runUnderlying5,Tryz.runUnderlying9,Tryz.runUnderlying20,Tryz.runUnderlying22,Tryz.runUnderlying24,Tryz.runUnderlying25,Tryz.runUnderlying28,Tryz.runUnderlying29,Tryz.runUnderlying32,Tryz.runUnderlying36,Tryz.runUnderlying37,Tryz.runUnderlying39,Tryz.runUnderlying44,Tryz.runUnderlying46,Tryz.runUnderlying48,Tryz.runUnderlying49,Tryz.runUnderlying58,Tryz.runUnderlying59,Tryz.runUnderlying61,Tryz.runUnderlying63,Tryz.runUnderlying65,Tryz.runUnderlying67,Tryz.runUnderlying69,Tryz.runUnderlying71,Tryz.runUnderlying111,Tryz.runUnderlying120,Tryz.runUnderlying122,trivial⟩,⟨Tryz.isAgg3,Tryz.isAgg4,Tryz.isAgg5,Tryz.isAgg9,Tryz.isAgg22,Tryz.isAgg24,Tryz.isAgg28,Tryz.isAgg29,Tryz.isAgg36,Tryz.isAgg37,Tryz.isAgg39,Tryz.isAgg58,Tryz.isAgg59,Tryz.isAgg67,Tryz.isAgg120,Tryz.isAgg129,trivial⟩,⟨Tryz.sizeOf3,Tryz.sizeOf4,Tryz.sizeOf5,Tryz.sizeOf9,Tryz.sizeOf22,Tryz.sizeOf24,Tryz.sizeOf28,Tryz.sizeOf29,Tryz.sizeOf36,Tryz.sizeOf37,Tryz.sizeOf39,Tryz.sizeOf44,Tryz.sizeOf58,Tryz.sizeOf59,Tryz.sizeOf61,Tryz.sizeOf65,Tryz.sizeOf67,Tryz.sizeOf71,Tryz.sizeOf120,Tryz.sizeOf122,trivial⟩⟩,⟨⟨⟨_,_,Tryz.zeroValue3,rfl,rfl⟩,⟨_,_,Tryz.zeroValue4,rfl,rfl⟩,⟨_,_,Tryz.zeroValue5,rfl,rfl⟩,⟨_,_,Tryz.zeroValue9,rfl,rfl⟩,⟨_,_,Tryz.zeroValue24,rfl,rfl⟩,⟨_,_,Tryz.zeroValue28,rfl,rfl⟩,⟨_,_,Tryz.zeroValue29,rfl,rfl⟩,⟨_,_,Tryz.zeroValue36,rfl,rfl⟩,⟨_,_,Tryz.zeroValue39,rfl,rfl⟩,⟨_,_,Tryz.zeroValue44,rfl,rfl⟩,⟨_,_,Tryz.zeroValue63,rfl,rfl⟩,⟨_,_,Tryz.zeroValue65,rfl,rfl⟩,⟨_,_,Tryz.zeroValue69,rfl,rfl⟩,⟨_,_,Tryz.zeroValue71,rfl,rfl⟩,⟨_,_,Tryz.zeroValue120,rfl,rfl⟩,⟨_,_,Tryz.zeroValue122,rfl,rfl⟩,trivial⟩⟩,⟨trivial,trivial,⟨Tryz.call3,Tryz.call5,Tryz.call6,Tryz.call7,Tryz.call8,Tryz.call9,Tryz.call10,Tryz.call11,Tryz.call12,Tryz.call13,Tryz.call14,Tryz.call15,Tryz.call16,Tryz.call17,Tryz.call18,Tryz.call19,Tryz.call20,Tryz.call21,Tryz.call22,Tryz.call23,Tryz.call24,Tryz.call25,Tryz.call26,Tryz.call27,Tryz.call28,Tryz.call29,Tryz.call30,Tryz.call31,Tryz.call32,Tryz.call33,Tryz.call34,Tryz.call35,Tryz.call36,Tryz.call37,Tryz.call38,Tryz.call39,Tryz.call40,Tryz.call43,Tryz.call44,Tryz.call45,Tryz.call46,Tryz.call47,Tryz.call48,Tryz.call49,Tryz.call50,Tryz.call51,Tryz.call52,Tryz.call53,Tryz.call54,Tryz.call55,Tryz.call56,Tryz.call57,Tryz.call59,Tryz.call87,Tryz.call88,Tryz.call89,Tryz.call90,Tryz.call120,trivial⟩⟩,⟨⟨⟨_,_,_,Tryz.typeInfo5,rfl,rfl,rfl,rfl,rfl,rfl⟩,⟨_,_,_,Tryz.typeInfo36,rfl,rfl,rfl,rfl,rfl,rfl⟩,⟨_,_,_,Tryz.typeInfo65,rfl,rfl,rfl,rfl,rfl,rfl⟩,⟨_,_,_,Tryz.typeInfo71,rfl,rfl,rfl,rfl,rfl,rfl⟩,trivial⟩⟩⟩
theorem hmix:Tryz.prog.follows .mixedOrders=true:=by kernel_rfl
abbrev mk8:List (Int×KM_):=mput (mput (mput (mput (mput (mput (mput (mput ([]:List (Int×KM_)) (1:Int) (⟨(⟨4,4⟩:KB_),(⟨1,1024⟩:KB_),(⟨1,1024⟩:KB_)⟩:KM_)) (2:Int) (⟨(⟨1,64⟩:KB_),(⟨1,1024⟩:KB_),(⟨1,1024⟩:KB_)⟩:KM_)) (3:Int) (⟨(⟨1,64⟩:KB_),(⟨1,1024⟩:KB_),(⟨1,1024⟩:KB_)⟩:KM_)) (4:Int) (⟨(⟨5,36⟩:KB_),(⟨1,1024⟩:KB_),(⟨1,1024⟩:KB_)⟩:KM_)) (5:Int) (⟨(⟨0,0⟩:KB_),(⟨1,1024⟩:KB_),(⟨1,1024⟩:KB_)⟩:KM_)) (6:Int) (⟨(⟨0,0⟩:KB_),(⟨1,1024⟩:KB_),(⟨1,1024⟩:KB_)⟩:KM_)) (7:Int) (⟨(⟨0,0⟩:KB_),(⟨0,0⟩:KB_),(⟨16,16384⟩:KB_)⟩:KM_)) (8:Int) (⟨(⟨4,4⟩:KB_),(⟨8,8⟩:KB_),(⟨1,64⟩:KB_)⟩:KM_)
theorem V_ {c:C4} {Q:Exit→Act→World→Prop} (k:Nat) {p p':Pos} {L:SL} {H:SH} {n:Nat} {s':St} (es:List (Ev c)) {cs:List Prop} (hc:allP cs) (g:G4 c Q p' s') (hB:TBOk c.P tb:=by exact tbOk) (h:drive tb c.n false 999 k p L H n es=some (cs,p',s'):=by rfl):G4 c Q p ⟨L,H,n⟩:=RU hB false 999 k es hc h g
theorem V0 {c:C4} {Q:Exit→Act→World→Prop} (k:Nat) {p p':Pos} {L:SL} {H:SH} {n:Nat} {s':St} (g:G4 c Q p' s') (hB:TBOk c.P tb:=by exact tbOk) (h:drive tb c.n false 999 k p L H n ([]:List (Ev c))=some ([],p',s'):=by rfl):G4 c Q p ⟨L,H,n⟩:=RU hB false 999 k [] aN h g
theorem VL {c:C4} {Q:Exit→Act→World→Prop} (l:List (Nat×Nat×Bool)) (k:Nat) {p p':Pos} {L:SL} {H:SH} {n:Nat} {s':St} (es:List (Ev c)) {cs:List Prop} (hc:allP cs) (g:G4 c Q p' s') (hB:TBOk c.P tb:=by exact tbOk) (h:drive { tb with li:=l } c.n false 999 k p L H n es=some (cs,p',s'):=by rfl):G4 c Q p ⟨L,H,n⟩:=RU (hB.lit l) false 999 k es hc h g
def fn5_b1 (p1:List DoK) (rl1:Int→Int→Option (Int)) (x3:Int) (x4:Int):Option (Int) :=
 bif (decide (x4 < (p1.length:Int)))&&(decide (x3≤300)) then (bif inb x4 p1.length then (rl1 (IntKind.i64.wrap (x3+(IntKind.i64.wrap ((IntKind.i64.wrap ((((gt p1 x4).fKey.2).length:Int)+(((gt p1 x4).fB.2).length:Int))).tdiv 40)))) (IntKind.i64.wrap (x4+1))) else none) else (some x3)
def fn5_l1 (p1:List DoK):Nat→Int→Int→Option (Int)
 | 0,_,_=>none
 | n10+1,x3,x4=>fn5_b1 p1 (fn5_l1 p1 n10) x3 x4
theorem fn5_l1_s (p1:List DoK) (n10:Nat) (x3:Int) (x4:Int):fn5_l1 p1 (n10+1) x3 x4=fn5_b1 p1 (fn5_l1 p1 n10) x3 x4:=rfl
def fn5_k1 (p0:MSpec) (x7:Int):Option (Bool) :=
 some ((decide ((300:Int) < x7))||((decide ((40:Int) < p0.fEntries))&&(decide (p0.fEntries≤1024))))
def fn5 (F:Nat) (p0:MSpec) (p1:List DoK):Option (Bool) :=
 Option.bind (fn5_l1 p1 F (p1.length:Int) 0) fun o8=>(fn5_k1 p0 o8)
theorem c5 (F:Nat) (p0:MSpec) (p1:List DoK) (r:Bool) (h:fn5 F p0 p1=some r):Con Tryz.prog 5 [.ag [vb p0.fKind,vi p0.fKey,vi p0.fValue,vi p0.fEntries],.sl 0] [(0,.rds DoK.E DoK.K p1)] 1 (.v (.bool r)) [] 1:=by
 rw [fn5] at h
 refine Con.of_body Tryz.func5 rfl Tryz.ntmps5 rfl fun w F0 ρ gl=>?_
 refine V0 6 ?_
 obtain ⟨o8,hl9,h⟩:=bd h
 refine CT 0 ⟨[(2,.p 1 0),(5,vi o8)],[(0,.rds DoK.E DoK.K p1),(1,.cells 24 [vb p0.fKind,vi p0.fKey,vi p0.fValue,vi p0.fEntries])],2⟩ ?_ ?_
 ·have h012:=h
  clear h
  refine G4.imp (I_ [0,1]) (LP (fun (n:Nat) (s:Int×Int)=>fn5_l1 p1 n s.1 s.2) (fun (s:Int×Int)=>⟨[(1,.sl 0),(2,.p 1 0),(5,vi s.1),(6,vi s.2)],[(0,.rds DoK.E DoK.K p1),(1,.cells 24 [vb p0.fKind,vi p0.fKey,vi p0.fValue,vi p0.fEntries])],2⟩) (fun _=>rfl) (s0:=((p1.length:Int),0)) hl9 ?_)
  clear hl9
  rintro R13 n10 ⟨x3,x4⟩ h ih11
  replace h:=(fn5_l1_s p1 n10 x3 x4).symm.trans h
  rw [fn5_b1] at h
  refine V0 8 ?_
  refine C_ h (fun h hb14=>?_) fun h hb14=>?_
  ·refine V0 0 ?_
   obtain ⟨hk15,h⟩:=ck h
   refine DR tbOk hmix [5] [([],[]),([],[]),([],[]),([0],[]),([],[]),([0],[]),([2],[]),([],[]),([],[]),([0],[]),([],[]),([0],[]),([3],[]),([],[]),([],[]),([],[]),([],[])] [.kd DoK.E DoK.K _ 0 ⟨(Et.int .u8),(gt p1 x4).fKey.1,(gt p1 x4).fKey.2⟩,.kd DoK.E DoK.K _ 1 ⟨(Et.int .u8),(gt p1 x4).fB.1,(gt p1 x4).fB.2⟩] (aR (aC hk15 (aR (aR (aC hk15 (aR (aR (aR (aR (aC hk15 (aR (aR (aC hk15 (aR (aR (aR (aC rfl aN))))))))))))))))) (by rfl) ?_
   refine V0 3 ?_
   exact ih11 (IntKind.i64.wrap (x3+(IntKind.i64.wrap ((IntKind.i64.wrap ((((gt p1 x4).fKey.2).length:Int)+(((gt p1 x4).fB.2).length:Int))).tdiv 40))),IntKind.i64.wrap (x4+1)) h _ _ (I_ [0,1])
  refine V0 0 ?_
  obtain rfl:=sj h
  exact CE (I_ [0,1])
 change fn5_k1 p0 o8=_ at h
 rw [fn5_k1] at h
 refine V0 13 ?_
 obtain rfl:=sj h
 exact T_ tbOk.t Tryz.results5 [0]
def fn53 (p0:KB_) (p1:Int):Bool :=
 (decide (p0.flo≤p1))&&(decide (p1≤p0.fhi))
theorem c53 (p0:KB_) (p1:Int) (r:Bool) (h:fn53 p0 p1=r):Con Tryz.prog 53 [.ag [vi p0.flo,vi p0.fhi],vi p1] [] 0 (.v (.bool r)) [] 0:=by
 rw [fn53] at h
 refine Con.of_body Tryz.func53 rfl Tryz.ntmps53 rfl fun w F0 ρ gl=>?_
 refine V0 13 ?_
 subst h
 exact T_ tbOk.t Tryz.results53 []
def fn23 (p0:MSpec):Int :=
 bif !(mhas mk8 p0.fKind) then (9) else (bif !(fn53 ((mget mk8 p0.fKind (⟨(⟨0,0⟩:KB_),(⟨0,0⟩:KB_),(⟨0,0⟩:KB_)⟩:KM_)).fkey) p0.fKey) then (2) else (bif !(fn53 ((mget mk8 p0.fKind (⟨(⟨0,0⟩:KB_),(⟨0,0⟩:KB_),(⟨0,0⟩:KB_)⟩:KM_)).fvalue) p0.fValue) then (2) else (bif !(fn53 ((mget mk8 p0.fKind (⟨(⟨0,0⟩:KB_),(⟨0,0⟩:KB_),(⟨0,0⟩:KB_)⟩:KM_)).fentries) p0.fEntries) then (2) else (0))))
theorem c23 (p0:MSpec) (r:Int) (h:fn23 p0=r):Con Tryz.prog 23 [.ag [vb p0.fKind,vi p0.fKey,vi p0.fValue,vi p0.fEntries]] [] 0 (vi r) [] 0:=by
 rw [fn23] at h
 refine Con.of_body Tryz.func23 rfl Tryz.ntmps23 rfl fun w F0 ρ gl=>?_
 refine V_ 65 [.mm (Kn.int .u8) (Vn.ag KM_.E),.mu (Kn.int .u8) (Vn.ag KM_.E) _ (1:Int) (⟨(⟨4,4⟩:KB_),(⟨1,1024⟩:KB_),(⟨1,1024⟩:KB_)⟩:KM_) Tryz.runUnderlying124 Tryz.runUnderlying22,.mu (Kn.int .u8) (Vn.ag KM_.E) _ (2:Int) (⟨(⟨1,64⟩:KB_),(⟨1,1024⟩:KB_),(⟨1,1024⟩:KB_)⟩:KM_) Tryz.runUnderlying124 Tryz.runUnderlying22,.mu (Kn.int .u8) (Vn.ag KM_.E) _ (3:Int) (⟨(⟨1,64⟩:KB_),(⟨1,1024⟩:KB_),(⟨1,1024⟩:KB_)⟩:KM_) Tryz.runUnderlying124 Tryz.runUnderlying22,.mu (Kn.int .u8) (Vn.ag KM_.E) _ (4:Int) (⟨(⟨5,36⟩:KB_),(⟨1,1024⟩:KB_),(⟨1,1024⟩:KB_)⟩:KM_) Tryz.runUnderlying124 Tryz.runUnderlying22,.mu (Kn.int .u8) (Vn.ag KM_.E) _ (5:Int) (⟨(⟨0,0⟩:KB_),(⟨1,1024⟩:KB_),(⟨1,1024⟩:KB_)⟩:KM_) Tryz.runUnderlying124 Tryz.runUnderlying22,.mu (Kn.int .u8) (Vn.ag KM_.E) _ (6:Int) (⟨(⟨0,0⟩:KB_),(⟨1,1024⟩:KB_),(⟨1,1024⟩:KB_)⟩:KM_) Tryz.runUnderlying124 Tryz.runUnderlying22,.mu (Kn.int .u8) (Vn.ag KM_.E) _ (7:Int) (⟨(⟨0,0⟩:KB_),(⟨0,0⟩:KB_),(⟨16,16384⟩:KB_)⟩:KM_) Tryz.runUnderlying124 Tryz.runUnderlying22,.mu (Kn.int .u8) (Vn.ag KM_.E) _ (8:Int) (⟨(⟨4,4⟩:KB_),(⟨8,8⟩:KB_),(⟨1,64⟩:KB_)⟩:KM_) Tryz.runUnderlying124 Tryz.runUnderlying22,.lo (Kn.int .u8) (Vn.ag KM_.E) _ p0.fKind (⟨(⟨0,0⟩:KB_),(⟨0,0⟩:KB_),(⟨0,0⟩:KB_)⟩:KM_) Tryz.runUnderlying124 Tryz.runUnderlying22 Tryz.zeroValue122] (aR (aR (aR (aR (aR (aR (aR (aR (aR (aR (aR (aR (aR (aR (aR (aR (aR (aR (aR (aR (aR (aR (aR (aR (aR (aR aN)))))))))))))))))))))))))) ?_
 refine C_ h (fun h hb1=>?_) fun h hb1=>?_
 ·refine V0 1 ?_
  subst h
  exact T_ tbOk.t Tryz.results23 []
 refine V_ 5 [.cl true [] (fun _=>c53 ((mget mk8 p0.fKind (⟨(⟨0,0⟩:KB_),(⟨0,0⟩:KB_),(⟨0,0⟩:KB_)⟩:KM_)).fkey) p0.fKey _ rfl)] (aK aN) ?_
 refine V0 2 ?_
 refine C_ h (fun h hb2=>?_) fun h hb2=>?_
 ·refine V0 0 ?_
  refine CDT hb2 (by rfl) ?_
  refine V0 1 ?_
  subst h
  exact T_ tbOk.t Tryz.results23 []
 refine V_ 5 [.cl true [] (fun _=>c53 ((mget mk8 p0.fKind (⟨(⟨0,0⟩:KB_),(⟨0,0⟩:KB_),(⟨0,0⟩:KB_)⟩:KM_)).fvalue) p0.fValue _ rfl)] (aK aN) ?_
 refine V0 2 ?_
 refine C_ h (fun h hb3=>?_) fun h hb3=>?_
 ·refine V0 0 ?_
  refine CDT hb3 (by rfl) ?_
  refine V0 1 ?_
  subst h
  exact T_ tbOk.t Tryz.results23 []
 refine V_ 5 [.cl true [] (fun _=>c53 ((mget mk8 p0.fKind (⟨(⟨0,0⟩:KB_),(⟨0,0⟩:KB_),(⟨0,0⟩:KB_)⟩:KM_)).fentries) p0.fEntries _ rfl)] (aK aN) ?_
 refine V0 2 ?_
 refine C_ h (fun h hb4=>?_) fun h hb4=>?_
 ·refine V0 1 ?_
  subst h
  exact T_ tbOk.t Tryz.results23 []
 refine V0 1 ?_
 subst h
 exact T_ tbOk.t Tryz.results23 []
def fn24 (p0:Bool) (p1:Int):Option (Int⊕Unit) :=
 bif !p0 then (some ((.inl p1))) else (some ((.inr ())))
theorem c24 (p0:Bool) (p1:Int) (r:Int⊕Unit) (h:fn24 p0 p1=some r):ConO Tryz.prog 24 [.v (.bool p0),vi p1] [] 0 (match r with | .inl r=>.pan (.iface 29 (.int .i64 r)) [] 0 | .inr r=>.ret (.tu []) [] 0):=by
 rw [fn24] at h
 refine ConO.of_body Tryz.func24 Tryz.ntmps24 fun w F0 ρ gl=>?_
 refine V0 2 ?_
 refine C_ h (fun h hb1=>?_) fun h hb1=>?_
 ·refine V_ 2 [.mi] aN ?_
  refine PX_ ?_
  refine V0 0 ?_
  obtain rfl:=sj h
  exact TP_ []
 refine V0 0 ?_
 obtain rfl:=sj h
 exact TNO_ tbOk.t Tryz.results24 []
theorem c24_0 (p0:Bool) (p1:Int) (r:Int) (h:fn24 p0 p1=some (.inl r)):ConX Tryz.prog 24 [.v (.bool p0),vi p1] [] 0 (.iface 29 (.int .i64 r)) [] 0:=c24 p0 p1 _ h
theorem c24_1 (p0:Bool) (p1:Int) (r:Unit) (h:fn24 p0 p1=some (.inr r)):Con Tryz.prog 24 [.v (.bool p0),vi p1] [] 0 (.tu []) [] 0:=c24 p0 p1 _ h
def fn22_b1 (p0:MSpec) (rl1:(List HCell)→Int→Option ((List HCell))) (xs12:List HCell) (x13:Int):Option ((List HCell)) :=
 bif decide (x13 < p0.fEntries) then (bif decide ((0:Int)≤p0.fValue)&&decide (p0.fValue≤p0.fValue)&&decide ((1:Int) * p0.fValue≤281474976710656)&&decide (p0.fValue≤9223372036854775807) then (bif decide ((xs12.length+1) * 32≤140737488355328∧xs12.length+1≤9223372036854775807) then (rl1 (xs12++[(⟨false,List.replicate p0.fValue.toNat 0⟩:HCell)]) (IntKind.i64.wrap (x13+1))) else none) else none) else (some xs12)
def fn22_l1 (p0:MSpec):Nat→(List HCell)→Int→Option ((List HCell))
 | 0,_,_=>none
 | n20+1,xs12,x13=>fn22_b1 p0 (fn22_l1 p0 n20) xs12 x13
theorem fn22_l1_s (p0:MSpec) (n20:Nat) (xs12:List HCell) (x13:Int):fn22_l1 p0 (n20+1) xs12 x13=fn22_b1 p0 (fn22_l1 p0 n20) xs12 x13:=rfl
def fn22_k1 (p0:MSpec) (xs17:List HCell):Option ((Int⊕((List HCell)×Int×Int×Int×Int×(List (ByteArray×Int))))) :=
 some ((.inr (xs17,p0.fKind,p0.fKey,p0.fValue,p0.fEntries,([]:List (ByteArray×Int)))))
def fn22 (F:Nat) (p0:MSpec):Option (Int⊕((List HCell)×Int×Int×Int×Int×(List (ByteArray×Int)))) :=
 frk2 (fn24 ((fn23 p0) == 0) (fn23 p0)) (fun v1=>some ((.inl v1))) (fun v3=>frk2 (fn24 (p0.fKind == 2) 9) (fun v5=>some ((.inl v5))) (fun v7=>Option.bind (fn22_l1 p0 F ([]:List HCell) 0) fun o18=>(fn22_k1 p0 o18)))
theorem c22 (F:Nat) (p0:MSpec) (r:Int⊕((List HCell)×Int×Int×Int×Int×(List (ByteArray×Int)))) (h:fn22 F p0=some r):ConO Tryz.prog 22 [.p 0 0] [(0,.cells 24 [vb p0.fKind,vi p0.fKey,vi p0.fValue,vi p0.fEntries])] 1 (match r with | .inl r=>.pan (.iface 29 (.int .i64 r)) [(0,.cells 24 [vb p0.fKind,vi p0.fKey,vi p0.fValue,vi p0.fEntries])] 1 | .inr r=>.ret (.p 1 0) [(0,.cells 24 [vb p0.fKind,vi p0.fKey,vi p0.fValue,vi p0.fEntries]),(1,.cells 63 [.sl 2,vb r.2.1,vi r.2.2.1,vi r.2.2.2.1,vi r.2.2.2.2.1,.mp 3]),(2,.ex (pO HCell.D 65 r.1) []),(3,.omap Kn.str (Vn.int .i64) r.2.2.2.2.2)] 4):=by
 rw [fn22] at h
 refine ConO.of_body Tryz.func22 Tryz.ntmps22 fun w F0 ρ gl=>?_
 refine V_ 3 [.cl true [] (fun _=>c23 p0 _ rfl)] (aK aN) ?_
 refine V0 4 ?_
 refine fk2 h (fun v1 hv2 h=>?_) (fun v3 hv4 h=>?_)
 ·refine V0 0 ?_
  refine CX_ tbOk [] (c24_0 ((fn23 p0) == 0) (fn23 p0) v1 hv2) (aK aN) ?_
  refine V0 0 ?_
  obtain rfl:=sj h
  exact TP_ [0]
 refine V_ 1 [.cl true [] (fun _=>c24_1 ((fn23 p0) == 0) (fn23 p0) v3 hv4)] (aK aN) ?_
 refine V0 3 ?_
 refine fk2 h (fun v5 hv6 h=>?_) (fun v7 hv8 h=>?_)
 ·refine V0 0 ?_
  refine CX_ tbOk [] (c24_0 (p0.fKind == 2) 9 v5 hv6) (aK aN) ?_
  refine V0 0 ?_
  obtain rfl:=sj h
  exact TP_ [0]
 refine V_ 1 [.cl true [] (fun _=>c24_1 (p0.fKind == 2) 9 v7 hv8)] (aK aN) ?_
 refine V_ 8 [.mm Kn.str (Vn.int .i64)] aN ?_
 refine G4.imp (Imp.nilOC HCell.D 65 2 0 (by rfl) (by rfl) (by rfl)) ?_
 obtain ⟨o18,hl19,h⟩:=bd h
 refine CT 0 ⟨[(3,.p 2 0)],[(0,.cells 24 [vb p0.fKind,vi p0.fKey,vi p0.fValue,vi p0.fEntries]),(1,.omap Kn.str (Vn.int .i64) ([]:List (ByteArray×Int))),(2,.cells 63 [.sl 3,vb p0.fKind,vi p0.fKey,vi p0.fValue,vi p0.fEntries,.mp 1]),(3,.ex (pO HCell.D 65 o18) [])],4⟩ ?_ ?_
 ·have h022:=h
  clear h
  refine G4.imp (I_ [0,1,2,3]) (LP (fun (n:Nat) (s:(List HCell)×Int)=>fn22_l1 p0 n s.1 s.2) (fun (s:(List HCell)×Int)=>⟨[(0,.p 0 0),(3,.p 2 0),(19,vi p0.fEntries),(20,vi s.2)],[(0,.cells 24 [vb p0.fKind,vi p0.fKey,vi p0.fValue,vi p0.fEntries]),(1,.omap Kn.str (Vn.int .i64) ([]:List (ByteArray×Int))),(2,.cells 63 [.sl 3,vb p0.fKind,vi p0.fKey,vi p0.fValue,vi p0.fEntries,.mp 1]),(3,.ex (pO HCell.D 65 s.1) [])],4⟩) (fun _=>rfl) (s0:=(([]:List HCell),0)) hl19 ?_)
  clear hl19
  rintro R23 n20 ⟨xs12,x13⟩ h ih21
  replace h:=(fn22_l1_s p0 n20 xs12 x13).symm.trans h
  rw [fn22_b1] at h
  refine V0 1 ?_
  refine C_ h (fun h hb24=>?_) fun h hb24=>?_
  ·refine V0 0 ?_
   obtain ⟨hk25,h⟩:=ck h
   obtain ⟨hk26,h⟩:=ck h
   refine DR tbOk hmix [] [([],[]),([],[]),([],[]),([],[]),([],[]),([2],[]),([],[]),([0],[]),([],[]),([],[]),([],[]),([3,4,5,6],[]),([],[]),([],[]),([],[]),([2],[2])] [.ms (Et.int .u8) 0,.s1,.ao HCell.D 65 _ (⟨false,[]⟩:HCell) _ _ _ 5 4 _] (aR (aR (aC hk25 (aR (aR (aR (aR (aR (aR (aC hk26 (aR aN))))))))))) (by rfl) ?_
   refine V0 2 ?_
   exact ih21 (xs12++[(⟨false,List.replicate p0.fValue.toNat 0⟩:HCell)],IntKind.i64.wrap (x13+1)) h _ _ (I_ [0,1,2,7])
  refine V0 0 ?_
  obtain rfl:=sj h
  exact CE (I_ [0,1,2,3])
 change fn22_k1 p0 o18=_ at h
 rw [fn22_k1] at h
 refine V0 2 ?_
 obtain rfl:=sj h
 exact TO_ tbOk.t Tryz.results22 [0,2,3,1]
theorem c22_0 (F:Nat) (p0:MSpec) (r:Int) (h:fn22 F p0=some (.inl r)):ConX Tryz.prog 22 [.p 0 0] [(0,.cells 24 [vb p0.fKind,vi p0.fKey,vi p0.fValue,vi p0.fEntries])] 1 (.iface 29 (.int .i64 r)) [(0,.cells 24 [vb p0.fKind,vi p0.fKey,vi p0.fValue,vi p0.fEntries])] 1:=c22 F p0 _ h
theorem c22_1 (F:Nat) (p0:MSpec) (r:(List HCell)×Int×Int×Int×Int×(List (ByteArray×Int))) (h:fn22 F p0=some (.inr r)):Con Tryz.prog 22 [.p 0 0] [(0,.cells 24 [vb p0.fKind,vi p0.fKey,vi p0.fValue,vi p0.fEntries])] 1 (.p 1 0) [(0,.cells 24 [vb p0.fKind,vi p0.fKey,vi p0.fValue,vi p0.fEntries]),(1,.cells 63 [.sl 2,vb r.2.1,vi r.2.2.1,vi r.2.2.2.1,vi r.2.2.2.2.1,.mp 3]),(2,.ex (pO HCell.D 65 r.1) []),(3,.omap Kn.str (Vn.int .i64) r.2.2.2.2.2)] 4:=c22 F p0 _ h
def fn52 (p0:Int) (pe:Int):Int :=
 pe
theorem c52 (p0:Int) (pe:Int) (r:Int) (h:fn52 p0 pe=r):ConD Tryz.prog 52 [.p 0 0,.p 1 0] [(0,.cells 29 [vi p0]),(1,.cells 28 [.v (.pointer none)])] 2 (.pan (.iface 29 (.int .i64 pe))) [(0,.cells 29 [vi r]),(1,.cells 28 [.v (.pointer none)])] 2:=by
 rw [fn52] at h
 refine ConD.of_body Tryz.func52 Tryz.ntmps52 fun w F0 ρ gl=>?_
 refine V_ 2 [.ni] aN ?_
 refine CDT rfl (by rfl) ?_
 refine V_ 10 [.ta] aN ?_
 refine CF ?_
 refine V0 3 ?_
 subst h
 exact TQN_ Tryz.results52 [0,1]
def fn52v1 (p0:Int) (p1_0_0:List HCell) (p1_0_1:Int) (p1_0_2:Int) (p1_0_3:Int) (p1_0_4:Int) (p1_0_5:List (ByteArray×Int)):Unit :=
 ()
theorem c52v1 (p0:Int) (p1_0_0:List HCell) (p1_0_1:Int) (p1_0_2:Int) (p1_0_3:Int) (p1_0_4:Int) (p1_0_5:List (ByteArray×Int)) (r:Unit) (h:fn52v1 p0 p1_0_0 p1_0_1 p1_0_2 p1_0_3 p1_0_4 p1_0_5=r):ConD Tryz.prog 52 [.p 0 0,.p 1 0] [(0,.cells 29 [vi p0]),(1,.cells 28 [.p 2 0]),(2,.cells 63 [.sl 3,vb p1_0_1,vi p1_0_2,vi p1_0_3,vi p1_0_4,.mp 4]),(3,.ex (pO HCell.D 65 p1_0_0) []),(4,.omap Kn.str (Vn.int .i64) p1_0_5)] 5 .ret [(0,.cells 29 [vi p0]),(1,.cells 28 [.p 2 0]),(2,.cells 63 [.sl 3,vb p1_0_1,vi p1_0_2,vi p1_0_3,vi p1_0_4,.mp 4]),(3,.ex (pO HCell.D 65 p1_0_0) []),(4,.omap Kn.str (Vn.int .i64) p1_0_5)] 5:=by
 rw [fn52v1] at h
 refine ConD.of_body Tryz.func52 Tryz.ntmps52 fun w F0 ρ gl=>?_
 refine V_ 2 [.ni] aN ?_
 refine CF ?_
 refine V0 0 ?_
 subst h
 exact TQN_ Tryz.results52 [0,1,2,3,4]
def fn21 (F:Nat) (p0c0:MSpec):Option (Int⊕((List HCell)×Int×Int×Int×Int×(List (ByteArray×Int))×Int)) :=
 frk2 (fn22 F p0c0) (fun v2=>some ((.inl (fn52 0 v2)))) (fun v4=>some ((.inr (v4.1,v4.2.1,v4.2.2.1,v4.2.2.2.1,v4.2.2.2.2.1,v4.2.2.2.2.2,0))))
theorem c21 (F:Nat) (p0c0:MSpec) (r:Int⊕((List HCell)×Int×Int×Int×Int×(List (ByteArray×Int))×Int)) (h:fn21 F p0c0=some r):ConO Tryz.prog 21 [.fn (.func 22) [] [.p 0 0]] [(0,.cells 24 [vb p0c0.fKind,vi p0c0.fKey,vi p0c0.fValue,vi p0c0.fEntries])] 1 (match r with | .inl r=>.ret (.tu [.v (.pointer none),vi r]) [(0,.cells 24 [vb p0c0.fKind,vi p0c0.fKey,vi p0c0.fValue,vi p0c0.fEntries])] 1 | .inr r=>.ret (.tu [.p 1 0,vi r.2.2.2.2.2.2]) [(0,.cells 24 [vb p0c0.fKind,vi p0c0.fKey,vi p0c0.fValue,vi p0c0.fEntries]),(1,.cells 63 [.sl 2,vb r.2.1,vi r.2.2.1,vi r.2.2.2.1,vi r.2.2.2.2.1,.mp 3]),(2,.ex (pO HCell.D 65 r.1) []),(3,.omap Kn.str (Vn.int .i64) r.2.2.2.2.2.1)] 4):=by
 rw [fn21] at h
 refine ConO.of_body Tryz.func21 Tryz.ntmps21 fun w F0 ρ gl=>?_
 refine V0 3 ?_
 refine DF_ (fun vs1=>?_)
 refine V0 1 ?_
 refine fk2 h (fun v2 hv3 h=>?_) (fun v4 hv5 h=>?_)
 ·refine V0 0 ?_
  refine CX_ tbOk [0] (c22_0 F p0c0 v2 hv3) (aK aN) ?_
  refine V0 0 ?_
  obtain rfl:=sj h
  exact TDP_ tbOk Tryz.results21 3 [2,1] (c52 0 v2 _ rfl) [0]
 refine V_ 1 [.cl true [0] (fun _=>c22_1 F p0c0 v4 hv5)] (aK aN) ?_
 refine V0 2 ?_
 obtain rfl:=sj h
 exact TD_ tbOk Tryz.results21 3 [2,1,4,5,6] (c52v1 0 v4.1 v4.2.1 v4.2.2.1 v4.2.2.2.1 v4.2.2.2.2.1 v4.2.2.2.2.2 _ rfl) [0,4,5,6]
theorem c21_0 (F:Nat) (p0c0:MSpec) (r:Int) (h:fn21 F p0c0=some (.inl r)):Con Tryz.prog 21 [.fn (.func 22) [] [.p 0 0]] [(0,.cells 24 [vb p0c0.fKind,vi p0c0.fKey,vi p0c0.fValue,vi p0c0.fEntries])] 1 (.tu [.v (.pointer none),vi r]) [(0,.cells 24 [vb p0c0.fKind,vi p0c0.fKey,vi p0c0.fValue,vi p0c0.fEntries])] 1:=c21 F p0c0 _ h
theorem c21_1 (F:Nat) (p0c0:MSpec) (r:(List HCell)×Int×Int×Int×Int×(List (ByteArray×Int))×Int) (h:fn21 F p0c0=some (.inr r)):Con Tryz.prog 21 [.fn (.func 22) [] [.p 0 0]] [(0,.cells 24 [vb p0c0.fKind,vi p0c0.fKey,vi p0c0.fValue,vi p0c0.fEntries])] 1 (.tu [.p 1 0,vi r.2.2.2.2.2.2]) [(0,.cells 24 [vb p0c0.fKind,vi p0c0.fKey,vi p0c0.fValue,vi p0c0.fEntries]),(1,.cells 63 [.sl 2,vb r.2.1,vi r.2.2.1,vi r.2.2.2.1,vi r.2.2.2.2.1,.mp 3]),(2,.ex (pO HCell.D 65 r.1) []),(3,.omap Kn.str (Vn.int .i64) r.2.2.2.2.2.1)] 4:=c21 F p0c0 _ h
def fn7 (F:Nat) (p0:MSpec):Option (Int⊕((List HCell)×Int×Int×Int×Int×(List (ByteArray×Int))×Int)) :=
 frk2 (fn21 F p0) (fun v1=>some ((.inl v1))) (fun v3=>some ((.inr (v3.1,v3.2.1,v3.2.2.1,v3.2.2.2.1,v3.2.2.2.2.1,v3.2.2.2.2.2.1,v3.2.2.2.2.2.2))))
theorem c7 (F:Nat) (p0:MSpec) (r:Int⊕((List HCell)×Int×Int×Int×Int×(List (ByteArray×Int))×Int)) (h:fn7 F p0=some r):ConO Tryz.prog 7 [.ag [vb p0.fKind,vi p0.fKey,vi p0.fValue,vi p0.fEntries]] [] 0 (match r with | .inl r=>.ret (.tu [.v (.pointer none),vi r]) [] 0 | .inr r=>.ret (.tu [.p 0 0,vi r.2.2.2.2.2.2]) [(0,.cells 63 [.sl 1,vb r.2.1,vi r.2.2.1,vi r.2.2.2.1,vi r.2.2.2.2.1,.mp 2]),(1,.ex (pO HCell.D 65 r.1) []),(2,.omap Kn.str (Vn.int .i64) r.2.2.2.2.2.1)] 3):=by
 rw [fn7] at h
 refine ConO.of_body Tryz.func7 Tryz.ntmps7 fun w F0 ρ gl=>?_
 refine V0 4 ?_
 refine fk2 h (fun v1 hv2 h=>?_) (fun v3 hv4 h=>?_)
 ·refine V_ 1 [.cl true [0] (fun _=>c21_0 F p0 v1 hv2)] (aK aN) ?_
  refine V0 4 ?_
  obtain rfl:=sj h
  exact TO_ tbOk.t Tryz.results7 []
 refine V_ 1 [.cl true [0] (fun _=>c21_1 F p0 v3 hv4)] (aK aN) ?_
 refine V0 4 ?_
 obtain rfl:=sj h
 exact TO_ tbOk.t Tryz.results7 [1,2,3]
theorem c7_0 (F:Nat) (p0:MSpec) (r:Int) (h:fn7 F p0=some (.inl r)):Con Tryz.prog 7 [.ag [vb p0.fKind,vi p0.fKey,vi p0.fValue,vi p0.fEntries]] [] 0 (.tu [.v (.pointer none),vi r]) [] 0:=c7 F p0 _ h
theorem c7_1 (F:Nat) (p0:MSpec) (r:(List HCell)×Int×Int×Int×Int×(List (ByteArray×Int))×Int) (h:fn7 F p0=some (.inr r)):Con Tryz.prog 7 [.ag [vb p0.fKind,vi p0.fKey,vi p0.fValue,vi p0.fEntries]] [] 0 (.tu [.p 0 0,vi r.2.2.2.2.2.2]) [(0,.cells 63 [.sl 1,vb r.2.1,vi r.2.2.1,vi r.2.2.2.1,vi r.2.2.2.2.1,.mp 2]),(1,.ex (pO HCell.D 65 r.1) []),(2,.omap Kn.str (Vn.int .i64) r.2.2.2.2.2.1)] 3:=c7 F p0 _ h
def fn24v1 (p1:Int):Unit :=
 ()
theorem c24v1 (p1:Int) (r:Unit) (h:fn24v1 p1=r):Con Tryz.prog 24 [.v (.bool true),vi p1] [] 0 (.tu []) [] 0:=by
 rw [fn24v1] at h
 refine Con.of_body Tryz.func24 rfl Tryz.ntmps24 rfl fun w F0 ρ gl=>?_
 refine V0 2 ?_
 refine CF ?_
 refine V0 0 ?_
 subst h
 exact TN_ tbOk.t Tryz.results24 []
def fn38 (p0_0:List HCell) (p0_1:Int) (p0_2:Int) (p0_3:Int) (p0_4:Int) (p0_5:List (ByteArray×Int)):Unit :=
 ()
theorem c38 (p0_0:List HCell) (p0_1:Int) (p0_2:Int) (p0_3:Int) (p0_4:Int) (p0_5:List (ByteArray×Int)) (r:Unit) (h:fn38 p0_0 p0_1 p0_2 p0_3 p0_4 p0_5=r):Con Tryz.prog 38 [.p 0 0] [(0,.cells 63 [.sl 1,vb p0_1,vi p0_2,vi p0_3,vi p0_4,.mp 2]),(1,.ex (pO HCell.D 65 p0_0) []),(2,.omap Kn.str (Vn.int .i64) p0_5)] 3 (.tu []) [(0,.cells 63 [.sl 1,vb p0_1,vi p0_2,vi p0_3,vi p0_4,.mp 2]),(1,.ex (pO HCell.D 65 p0_0) []),(2,.omap Kn.str (Vn.int .i64) p0_5)] 3:=by
 rw [fn38] at h
 refine Con.of_body Tryz.func38 rfl Tryz.ntmps38 rfl fun w F0 ρ gl=>?_
 refine VL [(3,4,true)] 10 [.pn,.ni,.cl true [] (fun _=>c24v1 1 _ rfl)] (aC rfl (aK aN)) ?_
 refine V0 0 ?_
 refine V0 0 ?_
 subst h
 exact TN_ tbOk.t Tryz.results38 [0,1,2]
def fn47 (p0_0:List HCell) (p0_1:Int) (p0_2:Int) (p0_3:Int) (p0_4:Int) (p0_5:List (ByteArray×Int)) (p1:List Int):Option (Int⊕(Int×Bool)) :=
 frk2 (fn24 ((p1.length:Int) == p0_2) 2) (fun v1=>some ((.inl v1))) (fun v3=>some ((.inr (mget p0_5 (strOfNums p1) (0:Int),mhas p0_5 (strOfNums p1)))))
theorem c47 (p0_0:List HCell) (p0_1:Int) (p0_2:Int) (p0_3:Int) (p0_4:Int) (p0_5:List (ByteArray×Int)) (p1:List Int) (r:Int⊕(Int×Bool)) (h:fn47 p0_0 p0_1 p0_2 p0_3 p0_4 p0_5 p1=some r):ConO Tryz.prog 47 [.p 0 0,.sl 3] [(0,.cells 63 [.sl 1,vb p0_1,vi p0_2,vi p0_3,vi p0_4,.mp 2]),(1,.ex (pO HCell.D 65 p0_0) []),(2,.omap Kn.str (Vn.int .i64) p0_5),(3,.rd (Et.int .u8) p1)] 4 (match r with | .inl r=>.pan (.iface 29 (.int .i64 r)) [(0,.cells 63 [.sl 1,vb p0_1,vi p0_2,vi p0_3,vi p0_4,.mp 2]),(1,.ex (pO HCell.D 65 p0_0) []),(2,.omap Kn.str (Vn.int .i64) p0_5)] 4 | .inr r=>.ret (.tu [vi r.1,.v (.bool r.2)]) [(0,.cells 63 [.sl 1,vb p0_1,vi p0_2,vi p0_3,vi p0_4,.mp 2]),(1,.ex (pO HCell.D 65 p0_0) []),(2,.omap Kn.str (Vn.int .i64) p0_5)] 4):=by
 rw [fn47] at h
 refine ConO.of_body Tryz.func47 Tryz.ntmps47 fun w F0 ρ gl=>?_
 refine V_ 4 [.cl true [0,1,2] (fun _=>c38 p0_0 p0_1 p0_2 p0_3 p0_4 p0_5 _ rfl)] (aK aN) ?_
 refine V0 8 ?_
 refine fk2 h (fun v1 hv2 h=>?_) (fun v3 hv4 h=>?_)
 ·refine V0 0 ?_
  refine CX_ tbOk [] (c24_0 ((p1.length:Int) == p0_2) 2 v1 hv2) (aK aN) ?_
  refine V0 0 ?_
  obtain rfl:=sj h
  exact TP_ [0,1,2,3]
 refine V_ 1 [.cl true [] (fun _=>c24_1 ((p1.length:Int) == p0_2) 2 v3 hv4)] (aK aN) ?_
 refine V0 0 ?_
 refine DR tbOk hmix [6,7] [([],[]),([],[]),([],[]),([0],[]),([],[]),([3],[]),([2],[]),([],[]),([],[]),([],[]),([],[]),([],[])] [.b2 _,.lo Kn.str (Vn.int .i64) _ (strOfNums p1) (0:Int) Tryz.runUnderlying58 Tryz.runUnderlying9 Tryz.zeroValue3] (aR (aR (aR (aR (aR (aR aN)))))) (by rfl) ?_
 refine V0 4 ?_
 obtain rfl:=sj h
 exact TO_ tbOk.t Tryz.results47 [0,1,2,3]
theorem c47_0 (p0_0:List HCell) (p0_1:Int) (p0_2:Int) (p0_3:Int) (p0_4:Int) (p0_5:List (ByteArray×Int)) (p1:List Int) (r:Int) (h:fn47 p0_0 p0_1 p0_2 p0_3 p0_4 p0_5 p1=some (.inl r)):ConX Tryz.prog 47 [.p 0 0,.sl 3] [(0,.cells 63 [.sl 1,vb p0_1,vi p0_2,vi p0_3,vi p0_4,.mp 2]),(1,.ex (pO HCell.D 65 p0_0) []),(2,.omap Kn.str (Vn.int .i64) p0_5),(3,.rd (Et.int .u8) p1)] 4 (.iface 29 (.int .i64 r)) [(0,.cells 63 [.sl 1,vb p0_1,vi p0_2,vi p0_3,vi p0_4,.mp 2]),(1,.ex (pO HCell.D 65 p0_0) []),(2,.omap Kn.str (Vn.int .i64) p0_5)] 4:=c47 p0_0 p0_1 p0_2 p0_3 p0_4 p0_5 p1 _ h
theorem c47_1 (p0_0:List HCell) (p0_1:Int) (p0_2:Int) (p0_3:Int) (p0_4:Int) (p0_5:List (ByteArray×Int)) (p1:List Int) (r:Int×Bool) (h:fn47 p0_0 p0_1 p0_2 p0_3 p0_4 p0_5 p1=some (.inr r)):Con Tryz.prog 47 [.p 0 0,.sl 3] [(0,.cells 63 [.sl 1,vb p0_1,vi p0_2,vi p0_3,vi p0_4,.mp 2]),(1,.ex (pO HCell.D 65 p0_0) []),(2,.omap Kn.str (Vn.int .i64) p0_5),(3,.rd (Et.int .u8) p1)] 4 (.tu [vi r.1,.v (.bool r.2)]) [(0,.cells 63 [.sl 1,vb p0_1,vi p0_2,vi p0_3,vi p0_4,.mp 2]),(1,.ex (pO HCell.D 65 p0_0) []),(2,.omap Kn.str (Vn.int .i64) p0_5)] 4:=c47 p0_0 p0_1 p0_2 p0_3 p0_4 p0_5 p1 _ h
def fn88 (p0_0:List HCell) (p0_1:Int) (p0_2:Int) (p0_3:Int) (p0_4:Int) (p0_5:List (ByteArray×Int)):Unit :=
 ()
theorem c88 (p0_0:List HCell) (p0_1:Int) (p0_2:Int) (p0_3:Int) (p0_4:Int) (p0_5:List (ByteArray×Int)) (r:Unit) (h:fn88 p0_0 p0_1 p0_2 p0_3 p0_4 p0_5=r):Con Tryz.prog 88 [.p 0 0] [(0,.cells 63 [.sl 1,vb p0_1,vi p0_2,vi p0_3,vi p0_4,.mp 2]),(1,.ex (pO HCell.D 65 p0_0) []),(2,.omap Kn.str (Vn.int .i64) p0_5)] 3 (.fn (.func 120) [] [.p 3 0]) [(0,.cells 63 [.sl 1,vb p0_1,vi p0_2,vi p0_3,vi p0_4,.mp 2]),(1,.ex (pO HCell.D 65 p0_0) []),(2,.omap Kn.str (Vn.int .i64) p0_5),(3,.cells 129 [.p 0 0])] 4:=by
 rw [fn88] at h
 refine Con.of_body Tryz.func88 rfl Tryz.ntmps88 rfl fun w F0 ρ gl=>?_
 refine V0 4 ?_
 subst h
 exact T_ tbOk.t Tryz.results88 [0,1,2,3]
def fn120_b1 {σ:Type} (step:σ→Int→Option σ) (go:σ→Bool) (p0_0_0:List HCell) (rl1:σ→Int→Option ((σ)⊕(σ))) (xs7:σ) (x8:Int):Option ((σ)⊕(σ)) :=
 bif decide (x8 < (p0_0_0.length:Int)) then (bif inb x8 p0_0_0.length then (bif !((gt p0_0_0 x8).fused) then (Option.bind (step xs7 x8) fun u25=>(bif !(go u25) then (some (.inr (u25))) else (rl1 u25 (IntKind.i64.wrap (x8+1))))) else (rl1 xs7 (IntKind.i64.wrap (x8+1)))) else none) else (some (.inl xs7))
def fn120_l1 {σ:Type} (step:σ→Int→Option σ) (go:σ→Bool) (p0_0_0:List HCell):Nat→σ→Int→Option ((σ)⊕(σ))
 | 0,_,_=>none
 | n18+1,xs7,x8=>fn120_b1 step go p0_0_0 (fn120_l1 step go p0_0_0 n18) xs7 x8
theorem fn120_l1_s {σ:Type} (step:σ→Int→Option σ) (go:σ→Bool) (p0_0_0:List HCell) (n18:Nat) (xs7:σ) (x8:Int):fn120_l1 step go p0_0_0 (n18+1) xs7 x8=fn120_b1 step go p0_0_0 (fn120_l1 step go p0_0_0 n18) xs7 x8:=rfl
def fn120_k1 {σ:Type} (xs15:σ):Option (σ) :=
 some (xs15)
def fn120 {σ:Type} (F:Nat) (step:σ→Int→Option σ) (go:σ→Bool) (p0_0_0:List HCell) (p0_0_1:Int) (p0_0_2:Int) (p0_0_3:Int) (p0_0_4:Int) (p0_0_5:List (ByteArray×Int)) (s0:σ):Option σ :=
 Option.bind (fn120_l1 step go p0_0_0 F s0 0) fun o16=>(match o16 with | .inl u=>fn120_k1 u | .inr u=>some u)
theorem c120 {σ:Type} (F:Nat) (step:σ→Int→Option σ) (go:σ→Bool) (p0_0_0:List HCell) (p0_0_1:Int) (p0_0_2:Int) (p0_0_3:Int) (p0_0_4:Int) (p0_0_5:List (ByteArray×Int)) (s0:σ) (r:σ) (h:fn120 F step go p0_0_0 p0_0_1 p0_0_2 p0_0_3 p0_0_4 p0_0_5 s0=some r) (yv:Value) (J:σ→Blocks→Prop):ConY Tryz.prog 120 [.v yv,.p 0 0] [(0,.cells 129 [.p 1 0]),(1,.cells 63 [.sl 2,vb p0_0_1,vi p0_0_2,vi p0_0_3,vi p0_0_4,.mp 3]),(2,.ex (pO HCell.D 65 p0_0_0) []),(3,.omap Kn.str (Vn.int .i64) p0_0_5),(4,.bx (J s0))] 5 (.tu []) [(0,.cells 129 [.p 1 0]),(1,.cells 63 [.sl 2,vb p0_0_1,vi p0_0_2,vi p0_0_3,vi p0_0_4,.mp 3]),(2,.ex (pO HCell.D 65 p0_0_0) []),(3,.omap Kn.str (Vn.int .i64) p0_0_5),(4,.bx (J r))] 5 (fun w R ρ=>YldY Tryz.prog w R ρ 0 yv J (Yn.one (Vn.int .i64)) step go):=by
 rw [fn120] at h
 refine ConY.of_body Tryz.func120 rfl Tryz.ntmps120 rfl fun w F0 ρ gl hy=>?_
 refine V_ 6 [.no HCell.D 65 _ none] (aR aN) ?_
 obtain ⟨o16,hl17,h⟩:=bd h
 refine CTS 0 (fun u28=>⟨[],[(0,.cells 129 [.p 1 0]),(1,.cells 63 [.sl 2,vb p0_0_1,vi p0_0_2,vi p0_0_3,vi p0_0_4,.mp 3]),(2,.ex (pO HCell.D 65 p0_0_0) []),(3,.omap Kn.str (Vn.int .i64) p0_0_5),(4,.bx (J u28))],5⟩) o16 ?_ (fun u28 hu28=>?_)
 ·have h020:=h
  clear h
  refine G4.imp (I_ [0,1,2,3,4]) (LP (fun (n:Nat) (s:σ×Int)=>fn120_l1 step go p0_0_0 n s.1 s.2) (fun (s:σ×Int)=>⟨[(0,.v yv),(1,.p 0 0),(8,vi (p0_0_0.length:Int)),(9,vi s.2)],[(0,.cells 129 [.p 1 0]),(1,.cells 63 [.sl 2,vb p0_0_1,vi p0_0_2,vi p0_0_3,vi p0_0_4,.mp 3]),(2,.ex (pO HCell.D 65 p0_0_0) []),(3,.omap Kn.str (Vn.int .i64) p0_0_5),(4,.bx (J s.1))],5⟩) (fun _=>rfl) (s0:=(s0,0)) hl17 ?_)
  clear hl17
  rintro R21 n18 ⟨xs7,x8⟩ h ih19
  replace h:=(fn120_l1_s step go p0_0_0 n18 xs7 x8).symm.trans h
  rw [fn120_b1] at h
  refine V0 1 ?_
  refine C_ h (fun h hb22=>?_) fun h hb22=>?_
  ·obtain ⟨hk23,h⟩:=ck h
   refine V_ 11 [.io HCell.D 65 _ none,.lp HCell.D 65 _] (aR (aC hk23 (aR (aC hk23 aN)))) ?_
   refine CDS h (fun h hb24=>?_) (fun h hb24=>?_)
   ·obtain ⟨u25,hu26,h⟩:=bd h
    refine VL [(20,21,true)] 4 [.yd 4 x8 hy rfl hu26] (aC hb24 (aR (aR (aR aN)))) ?_
    refine VL [(20,21,true)] 2 [] aN ?_
    refine V0 0 ?_
    refine C_ h (fun h hb27=>?_) fun h hb27=>?_
    ·refine V0 0 ?_
     obtain rfl:=sj h
     replace h:=h020
     refine V0 0 ?_
     obtain rfl:=sj h
     exact T_ tbOk.t Tryz.results120 [0,1,2,3,4]
    refine V0 2 ?_
    exact ih19 (u25,IntKind.i64.wrap (x8+1)) h _ _ (I_ [0,1,2,3,4])
   refine VL [(20,21,false)] 4 [] (aC hb24 aN) ?_
   refine VL [(20,21,false)] 2 [] aN ?_
   refine V0 0 ?_
   refine CF ?_
   refine V0 2 ?_
   exact ih19 (xs7,IntKind.i64.wrap (x8+1)) h _ _ (I_ [0,1,2,3,4])
  refine V0 0 ?_
  obtain rfl:=sj h
  exact CES _ rfl (I_ [0,1,2,3,4])
 subst hu28
 change fn120_k1 u28=_ at h
 rw [fn120_k1] at h
 refine V0 0 ?_
 obtain rfl:=sj h
 exact TN_ tbOk.t Tryz.results120 [0,1,2,3,4]
def fn48_r1 (x2:Int) (y1:Int):Option ((Int)×Nat) :=
 some (y1,1)
def fn48_k1_0 (x2:Int):Option ((Int⊕Int)) :=
 some ((.inl 8))
def fn48_k1_1 (x2:Int):Option ((Int⊕Int)) :=
 some ((.inr x2))
def fn48 (F:Nat) (p0_0:List HCell) (p0_1:Int) (p0_2:Int) (p0_3:Int) (p0_4:Int) (p0_5:List (ByteArray×Int)):Option (Int⊕Int) :=
 Option.bind (fn120 F (stepR (fun (s:Int) (y:Int)=>fn48_r1 s y)) goR p0_0 p0_1 p0_2 p0_3 p0_4 p0_5 ((0,0):(Int)×Nat)) fun o5=>(bif Nat.beq o5.2 0 then (fn48_k1_0 o5.1) else (bif Nat.beq o5.2 1 then (fn48_k1_1 o5.1) else none))
theorem c48 (F:Nat) (p0_0:List HCell) (p0_1:Int) (p0_2:Int) (p0_3:Int) (p0_4:Int) (p0_5:List (ByteArray×Int)) (r:Int⊕Int) (h:fn48 F p0_0 p0_1 p0_2 p0_3 p0_4 p0_5=some r):ConO Tryz.prog 48 [.p 0 0] [(0,.cells 63 [.sl 1,vb p0_1,vi p0_2,vi p0_3,vi p0_4,.mp 2]),(1,.ex (pO HCell.D 65 p0_0) []),(2,.omap Kn.str (Vn.int .i64) p0_5)] 3 (match r with | .inl r=>.pan (.iface 29 (.int .i64 r)) [(0,.cells 63 [.sl 1,vb p0_1,vi p0_2,vi p0_3,vi p0_4,.mp 2]),(1,.ex (pO HCell.D 65 p0_0) []),(2,.omap Kn.str (Vn.int .i64) p0_5)] 3 | .inr r=>.ret (vi r) [(0,.cells 63 [.sl 1,vb p0_1,vi p0_2,vi p0_3,vi p0_4,.mp 2]),(1,.ex (pO HCell.D 65 p0_0) []),(2,.omap Kn.str (Vn.int .i64) p0_5)] 3):=by
 rw [fn48] at h
 refine ConO.of_body Tryz.func48 Tryz.ntmps48 fun w F0 ρ gl=>?_
 refine V_ 3 [.cl true [0,1,2] (fun _=>c88 p0_0 p0_1 p0_2 p0_3 p0_4 p0_5 _ rfl)] (aK aN) ?_
 refine V0 0 ?_
 obtain ⟨o5,ho6,h⟩:=bd h
 refine G4.imp (s':=⟨[(2,.p 3 0),(5,.fn (.func 120) [] [.p 4 0])],[(4,.cells 129 [.p 0 0]),(0,.cells 63 [.sl 1,vb p0_1,vi p0_2,vi p0_3,vi p0_4,.mp 2]),(1,.ex (pO HCell.D 65 p0_0) []),(2,.omap Kn.str (Vn.int .i64) p0_5)]++((fun (s:Int)=>([(3,.cells 3 [vi s])]:SH)) 0++[]),5⟩) (I_ [0,1,2,3,4]) ?_
 refine RFO [6] (Yn.one (Vn.int .i64)) [(4,.cells 129 [.p 0 0]),(0,.cells 63 [.sl 1,vb p0_1,vi p0_2,vi p0_3,vi p0_4,.mp 2]),(1,.ex (pO HCell.D 65 p0_0) []),(2,.omap Kn.str (Vn.int .i64) p0_5)] (fun (s:Int)=>[(3,.cells 3 [vi s])]) [] 5 4 [4,0,1,2] [.p 0 0] 129 [.p 1 0] [(1,.cells 63 [.sl 2,vb p0_1,vi p0_2,vi p0_3,vi p0_4,.mp 3]),(2,.ex (pO HCell.D 65 p0_0) []),(3,.omap Kn.str (Vn.int .i64) p0_5)] (fun (s:Int) (y:Int)=>fn48_r1 s y) 0 o5.1 o5.2 Tryz.call120 (by rfl) (by rfl) (by rfl) (by rfl) (fun _ _=>rfl) (fun _=>trivial) (fun _=>by rfl) (fun yv J=>c120 F (stepR (fun (s:Int) (y:Int)=>fn48_r1 s y)) goR p0_0 p0_1 p0_2 p0_3 p0_4 p0_5 (0,0) o5 ho6 yv J) ?_ ?_
 ·clear h ho6
  rintro l1 w1 R1 gl1 ρ1 pA pB QA QB x2 y1 s1' m1' hpB h hbg3 hend4
  change fn48_r1 x2 y1=_ at h
  rw [fn48_r1] at h
  refine V0 1 ?_
  refine hbg3 _ _ _ (by rfl) ?_
  refine V0 2 ?_
  cases Option.some.inj h
  exact hend4 _ (I_ [0,1,2,3,4,5])
 intro r7
 refine CDS h (fun h hb9=>?_) (fun h hb9=>?_)
 ·rw [show o5.2=0 from Nat.eq_of_beq_eq_true hb9]
  change fn48_k1_0 o5.1=_ at h
  rw [fn48_k1_0] at h
  refine V_ 1 [.mi] aN ?_
  refine PX_ ?_
  refine V0 0 ?_
  obtain rfl:=sj h
  exact TPM_ [(5,r7)] [0,1,2] ⟨rfl,trivial⟩
 refine CDS h (fun h hb10=>?_) (fun h hb10=>?_)
 ·rw [show o5.2=1 from Nat.eq_of_beq_eq_true hb10]
  change fn48_k1_1 o5.1=_ at h
  rw [fn48_k1_1] at h
  refine V0 0 ?_
  obtain rfl:=sj h
  exact TOM_ tbOk.t [(5,r7)] Tryz.results48 [0,1,2] ⟨rfl,trivial⟩
 cases h
theorem c48_0 (F:Nat) (p0_0:List HCell) (p0_1:Int) (p0_2:Int) (p0_3:Int) (p0_4:Int) (p0_5:List (ByteArray×Int)) (r:Int) (h:fn48 F p0_0 p0_1 p0_2 p0_3 p0_4 p0_5=some (.inl r)):ConX Tryz.prog 48 [.p 0 0] [(0,.cells 63 [.sl 1,vb p0_1,vi p0_2,vi p0_3,vi p0_4,.mp 2]),(1,.ex (pO HCell.D 65 p0_0) []),(2,.omap Kn.str (Vn.int .i64) p0_5)] 3 (.iface 29 (.int .i64 r)) [(0,.cells 63 [.sl 1,vb p0_1,vi p0_2,vi p0_3,vi p0_4,.mp 2]),(1,.ex (pO HCell.D 65 p0_0) []),(2,.omap Kn.str (Vn.int .i64) p0_5)] 3:=c48 F p0_0 p0_1 p0_2 p0_3 p0_4 p0_5 _ h
theorem c48_1 (F:Nat) (p0_0:List HCell) (p0_1:Int) (p0_2:Int) (p0_3:Int) (p0_4:Int) (p0_5:List (ByteArray×Int)) (r:Int) (h:fn48 F p0_0 p0_1 p0_2 p0_3 p0_4 p0_5=some (.inr r)):Con Tryz.prog 48 [.p 0 0] [(0,.cells 63 [.sl 1,vb p0_1,vi p0_2,vi p0_3,vi p0_4,.mp 2]),(1,.ex (pO HCell.D 65 p0_0) []),(2,.omap Kn.str (Vn.int .i64) p0_5)] 3 (vi r) [(0,.cells 63 [.sl 1,vb p0_1,vi p0_2,vi p0_3,vi p0_4,.mp 2]),(1,.ex (pO HCell.D 65 p0_0) []),(2,.omap Kn.str (Vn.int .i64) p0_5)] 3:=c48 F p0_0 p0_1 p0_2 p0_3 p0_4 p0_5 _ h
def fn24v2 (p1:Int):Option (Int) :=
 some (p1)
theorem c24v2 (p1:Int) (r:Int) (h:fn24v2 p1=some r):ConO Tryz.prog 24 [.v (.bool false),vi p1] [] 0 (.pan (.iface 29 (.int .i64 r)) [] 0):=by
 rw [fn24v2] at h
 refine ConO.of_body Tryz.func24 Tryz.ntmps24 fun w F0 ρ gl=>?_
 refine V0 2 ?_
 refine CDT rfl (by rfl) ?_
 refine V_ 2 [.mi] aN ?_
 refine PX_ ?_
 refine V0 0 ?_
 obtain rfl:=sj h
 exact TP_ []
theorem c24v2_0 (p1:Int) (r:Int) (h:fn24v2 p1=some r):ConX Tryz.prog 24 [.v (.bool false),vi p1] [] 0 (.iface 29 (.int .i64 r)) [] 0:=c24v2 p1 _ h
def fn40 (p0_0:List HCell) (p0_1:Int) (p0_2:Int) (p0_3:Int) (p0_4:Int) (p0_5:List (ByteArray×Int)) (p1:Int):Option (Int⊕Int) :=
 bif decide ((0:Int)≤p1) then (frk2 (fn24 (decide (p1 < (p0_0.length:Int))) 6) (fun v2=>some ((.inl v2))) (fun v4=>bif inb p1 p0_0.length then (some ((.inr p1))) else none)) else (frk1 (fn24v2 6) (fun v7=>some ((.inl v7))))
theorem c40 (p0_0:List HCell) (p0_1:Int) (p0_2:Int) (p0_3:Int) (p0_4:Int) (p0_5:List (ByteArray×Int)) (p1:Int) (r:Int⊕Int) (h:fn40 p0_0 p0_1 p0_2 p0_3 p0_4 p0_5 p1=some r):ConO Tryz.prog 40 [.p 0 0,vi p1] [(0,.cells 63 [.sl 1,vb p0_1,vi p0_2,vi p0_3,vi p0_4,.mp 2]),(1,.ex (pO HCell.D 65 p0_0) []),(2,.omap Kn.str (Vn.int .i64) p0_5)] 3 (match r with | .inl r=>.pan (.iface 29 (.int .i64 r)) [(0,.cells 63 [.sl 1,vb p0_1,vi p0_2,vi p0_3,vi p0_4,.mp 2]),(1,.ex (pO HCell.D 65 p0_0) []),(2,.omap Kn.str (Vn.int .i64) p0_5)] 3 | .inr r=>.ret (.e 1 r 2 0) [(0,.cells 63 [.sl 1,vb p0_1,vi p0_2,vi p0_3,vi p0_4,.mp 2]),(1,.ex (pO HCell.D 65 p0_0) []),(2,.omap Kn.str (Vn.int .i64) p0_5)] 3):=by
 rw [fn40] at h
 refine ConO.of_body Tryz.func40 Tryz.ntmps40 fun w F0 ρ gl=>?_
 refine V0 3 ?_
 refine CDS h (fun h hb1=>?_) (fun h hb1=>?_)
 ·refine VL [(6,7,true)] 9 [.no HCell.D 65 _ none] (aC hb1 (aR aN)) ?_
  refine fk2 h (fun v2 hv3 h=>?_) (fun v4 hv5 h=>?_)
  ·refine V0 0 ?_
   refine G4.imp Imp.refl ?_
   refine CX_ tbOk [] (c24_0 (decide (p1 < (p0_0.length:Int))) 6 v2 hv3) (aK aN) ?_
   refine V0 0 ?_
   obtain rfl:=sj h
   exact TP_ [0,1,2]
  refine V_ 1 [.cl true [] (fun _=>c24_1 (decide (p1 < (p0_0.length:Int))) 6 v4 hv5)] (aK aN) ?_
  refine V0 0 ?_
  obtain ⟨hk6,h⟩:=ck h
  refine V_ 7 [.io HCell.D 65 _ none] (aR (aC hk6 aN)) ?_
  obtain rfl:=sj h
  exact TO_ tbOk.t Tryz.results40 [0,1,2]
 refine VL [(6,7,false)] 9 [] (aC hb1 aN) ?_
 refine fk1 h (fun v7 hv8 h=>?_)
 refine V0 0 ?_
 refine G4.imp Imp.refl ?_
 refine CX_ tbOk [] (c24v2_0 6 v7 hv8) (aK aN) ?_
 refine V0 0 ?_
 obtain rfl:=sj h
 exact TP_ [0,1,2]
theorem c40_0 (p0_0:List HCell) (p0_1:Int) (p0_2:Int) (p0_3:Int) (p0_4:Int) (p0_5:List (ByteArray×Int)) (p1:Int) (r:Int) (h:fn40 p0_0 p0_1 p0_2 p0_3 p0_4 p0_5 p1=some (.inl r)):ConX Tryz.prog 40 [.p 0 0,vi p1] [(0,.cells 63 [.sl 1,vb p0_1,vi p0_2,vi p0_3,vi p0_4,.mp 2]),(1,.ex (pO HCell.D 65 p0_0) []),(2,.omap Kn.str (Vn.int .i64) p0_5)] 3 (.iface 29 (.int .i64 r)) [(0,.cells 63 [.sl 1,vb p0_1,vi p0_2,vi p0_3,vi p0_4,.mp 2]),(1,.ex (pO HCell.D 65 p0_0) []),(2,.omap Kn.str (Vn.int .i64) p0_5)] 3:=c40 p0_0 p0_1 p0_2 p0_3 p0_4 p0_5 p1 _ h
theorem c40_1 (p0_0:List HCell) (p0_1:Int) (p0_2:Int) (p0_3:Int) (p0_4:Int) (p0_5:List (ByteArray×Int)) (p1:Int) (r:Int) (h:fn40 p0_0 p0_1 p0_2 p0_3 p0_4 p0_5 p1=some (.inr r)):Con Tryz.prog 40 [.p 0 0,vi p1] [(0,.cells 63 [.sl 1,vb p0_1,vi p0_2,vi p0_3,vi p0_4,.mp 2]),(1,.ex (pO HCell.D 65 p0_0) []),(2,.omap Kn.str (Vn.int .i64) p0_5)] 3 (.e 1 r 2 0) [(0,.cells 63 [.sl 1,vb p0_1,vi p0_2,vi p0_3,vi p0_4,.mp 2]),(1,.ex (pO HCell.D 65 p0_0) []),(2,.omap Kn.str (Vn.int .i64) p0_5)] 3:=c40 p0_0 p0_1 p0_2 p0_3 p0_4 p0_5 p1 _ h
def fn46 (F:Nat) (p0_0_0:List HCell) (p0_0_1:Int) (p0_0_2:Int) (p0_0_3:Int) (p0_0_4:Int) (p0_0_5:List (ByteArray×Int)) (p1:List Int) (p2:List Int) (p3:Int):Option (((List HCell)×(List (ByteArray×Int))×Int)⊕(Int×(List HCell)×(List (ByteArray×Int)))) :=
 frk2 (fn47 p0_0_0 p0_0_1 p0_0_2 p0_0_3 p0_0_4 p0_0_5 p1) (fun v1=>some ((.inl (p0_0_0,p0_0_5,v1)))) (fun v3=>frk2 (fn24 (((p2.length:Int) == p0_0_3)&&(decide (p3≤2))) 2) (fun v5=>some ((.inl (p0_0_0,p0_0_5,v5)))) (fun v7=>frk2 (fn24 ((!v3.2)||(p3 != 1)) 7) (fun v9=>some ((.inl (p0_0_0,p0_0_5,v9)))) (fun v11=>frk2 (fn24 (v3.2||(p3 != 2)) 6) (fun v13=>some ((.inl (p0_0_0,p0_0_5,v13)))) (fun v15=>bif !v3.2 then (frk2 (fn48 F p0_0_0 p0_0_1 p0_0_2 p0_0_3 p0_0_4 p0_0_5) (fun v18=>some ((.inl (p0_0_0,p0_0_5,v18)))) (fun v20=>frk2 (fn40 p0_0_0 p0_0_1 p0_0_2 p0_0_3 p0_0_4 (mput p0_0_5 (strOfNums p1) v20) v20) (fun v22=>some ((.inl (p0_0_0,mput p0_0_5 (strOfNums p1) v20,v22)))) (fun v24=>bif inb v24 p0_0_0.length then (some ((.inr (((min p2.length ((((gt p0_0_0 v24).fthing).length) - 0):Nat):Int),p0_0_0.set v24.toNat (⟨(⟨true,(gt p0_0_0 v24).fthing⟩:HCell).fused,pasteX ((gt p0_0_0 v24).fthing) 0 (p2.take ((((gt p0_0_0 v24).fthing).length) - 0))⟩:HCell),mput p0_0_5 (strOfNums p1) v20)))) else none))) else (frk2 (fn40 p0_0_0 p0_0_1 p0_0_2 p0_0_3 p0_0_4 p0_0_5 v3.1) (fun v27=>some ((.inl (p0_0_0,p0_0_5,v27)))) (fun v29=>bif inb v29 p0_0_0.length then (some ((.inr (((min p2.length ((((gt p0_0_0 v29).fthing).length) - 0):Nat):Int),p0_0_0.set v29.toNat (⟨(⟨true,(gt p0_0_0 v29).fthing⟩:HCell).fused,pasteX ((gt p0_0_0 v29).fthing) 0 (p2.take ((((gt p0_0_0 v29).fthing).length) - 0))⟩:HCell),p0_0_5)))) else none))))))
theorem c46 (F:Nat) (p0_0_0:List HCell) (p0_0_1:Int) (p0_0_2:Int) (p0_0_3:Int) (p0_0_4:Int) (p0_0_5:List (ByteArray×Int)) (p1:List Int) (p2:List Int) (p3:Int) (r:((List HCell)×(List (ByteArray×Int))×Int)⊕(Int×(List HCell)×(List (ByteArray×Int)))) (h:fn46 F p0_0_0 p0_0_1 p0_0_2 p0_0_3 p0_0_4 p0_0_5 p1 p2 p3=some r):ConO Tryz.prog 46 [.p 0 0,.p 4 0,.p 6 0,.p 8 0] [(0,.cells 28 [.p 1 0]),(1,.cells 63 [.sl 2,vb p0_0_1,vi p0_0_2,vi p0_0_3,vi p0_0_4,.mp 3]),(2,.ex (pO HCell.D 65 p0_0_0) []),(3,.omap Kn.str (Vn.int .i64) p0_0_5),(4,.cells 36 [.sl 5]),(5,.rd (Et.int .u8) p1),(6,.cells 36 [.sl 7]),(7,.rd (Et.int .u8) p2),(8,.cells 37 [.v (.int .u64 p3)])] 9 (match r with | .inl r=>.pan (.iface 29 (.int .i64 r.2.2)) [(0,.cells 28 [.p 1 0]),(1,.cells 63 [.sl 2,vb p0_0_1,vi p0_0_2,vi p0_0_3,vi p0_0_4,.mp 3]),(2,.ex (pO HCell.D 65 r.1) []),(3,.omap Kn.str (Vn.int .i64) r.2.1),(4,.cells 36 [.sl 5]),(6,.cells 36 [.sl 7]),(8,.cells 37 [.v (.int .u64 p3)])] 9 | .inr r=>.ret (vi r.1) [(0,.cells 28 [.p 1 0]),(1,.cells 63 [.sl 2,vb p0_0_1,vi p0_0_2,vi p0_0_3,vi p0_0_4,.mp 3]),(2,.ex (pO HCell.D 65 r.2.1) []),(3,.omap Kn.str (Vn.int .i64) r.2.2),(4,.cells 36 [.sl 5]),(6,.cells 36 [.sl 7]),(8,.cells 37 [.v (.int .u64 p3)])] 9):=by
 rw [fn46] at h
 refine ConO.of_body Tryz.func46 Tryz.ntmps46 fun w F0 ρ gl=>?_
 refine V0 3 ?_
 refine fk2 h (fun v1 hv2 h=>?_) (fun v3 hv4 h=>?_)
 ·refine V0 0 ?_
  refine CX_ tbOk [1,2,3,5] (c47_0 p0_0_0 p0_0_1 p0_0_2 p0_0_3 p0_0_4 p0_0_5 p1 v1 hv2) (aK aN) ?_
  refine V0 0 ?_
  obtain rfl:=sj h
  exact TP_ [0,1,2,3,4,5,6,7,8]
 refine V_ 1 [.cl true [1,2,3,5] (fun _=>c47_1 p0_0_0 p0_0_1 p0_0_2 p0_0_3 p0_0_4 p0_0_5 p1 v3 hv4)] (aK aN) ?_
 refine V0 5 ?_
 refine fk2 h (fun v5 hv6 h=>?_) (fun v7 hv8 h=>?_)
 ·refine DC_ tbOk hmix 12 [([6],[]),([7],[]),([0],[]),([],[]),([],[]),([],[]),([1],[]),([],[]),([],[]),([8],[]),([],[]),([],[])] [] (aR (aR (aR (aR aN)))) [] (c24_0 (((p2.length:Int) == p0_0_3)&&(decide (p3≤2))) 2 v5 hv6) (aK aN) [25] ?_
  refine V0 0 ?_
  obtain rfl:=sj h
  exact TP_ [0,1,2,3,4,5,6,7,8]
 refine DR tbOk hmix [] [([6],[]),([7],[]),([0],[]),([],[]),([],[]),([],[]),([1],[]),([],[]),([],[]),([8],[]),([],[]),([],[]),([],[])] [.cl true [] (fun _=>c24_1 (((p2.length:Int) == p0_0_3)&&(decide (p3≤2))) 2 v7 hv8)] (aR (aR (aR (aR (aK aN))))) (by rfl) ?_
 refine V0 6 ?_
 refine fk2 h (fun v9 hv10 h=>?_) (fun v11 hv12 h=>?_)
 ·refine V0 0 ?_
  refine G4.imp Imp.refl ?_
  refine CX_ tbOk [] (c24_0 ((!v3.2)||(p3 != 1)) 7 v9 hv10) (aK aN) ?_
  refine V0 0 ?_
  obtain rfl:=sj h
  exact TP_ [0,1,2,3,4,5,6,7,8]
 refine V_ 6 [.cl true [] (fun _=>c24_1 ((!v3.2)||(p3 != 1)) 7 v11 hv12)] (aK aN) ?_
 refine fk2 h (fun v13 hv14 h=>?_) (fun v15 hv16 h=>?_)
 ·refine V0 0 ?_
  refine G4.imp Imp.refl ?_
  refine CX_ tbOk [] (c24_0 (v3.2||(p3 != 2)) 6 v13 hv14) (aK aN) ?_
  refine V0 0 ?_
  obtain rfl:=sj h
  exact TP_ [0,1,2,3,4,5,6,7,8]
 refine V_ 3 [.cl true [] (fun _=>c24_1 (v3.2||(p3 != 2)) 6 v15 hv16)] (aK aN) ?_
 refine C_ h (fun h hb17=>?_) fun h hb17=>?_
 ·refine V0 3 ?_
  refine fk2 h (fun v18 hv19 h=>?_) (fun v20 hv21 h=>?_)
  ·refine V0 0 ?_
   refine CX_ tbOk [1,2,3] (c48_0 F p0_0_0 p0_0_1 p0_0_2 p0_0_3 p0_0_4 p0_0_5 v18 hv19) (aK aN) ?_
   refine V0 0 ?_
   obtain rfl:=sj h
   exact TP_ [0,1,2,3,4,5,6,7,8]
  refine V_ 1 [.cl true [1,2,3] (fun _=>c48_1 F p0_0_0 p0_0_1 p0_0_2 p0_0_3 p0_0_4 p0_0_5 v20 hv21)] (aK aN) ?_
  refine V0 1 ?_
  refine DR tbOk hmix [] [([0],[]),([],[]),([],[]),([1],[]),([4],[]),([5],[]),([],[]),([3],[3])] [.b2 _,.mu Kn.str (Vn.int .i64) _ (strOfNums p1) v20 Tryz.runUnderlying58 Tryz.runUnderlying9] (aR (aR (aR (aR (aR (aR (aR (aR (aR aN))))))))) (by rfl) ?_
  refine V0 4 ?_
  refine fk2 h (fun v22 hv23 h=>?_) (fun v24 hv25 h=>?_)
  ·refine V0 0 ?_
   refine CX_ tbOk [1,2,3] (c40_0 p0_0_0 p0_0_1 p0_0_2 p0_0_3 p0_0_4 (mput p0_0_5 (strOfNums p1) v20) v20 v22 hv23) (aK aN) ?_
   refine V0 0 ?_
   obtain rfl:=sj h
   exact TP_ [0,1,2,3,4,5,6,7,8]
  refine V_ 1 [.cl true [1,2,3] (fun _=>c40_1 p0_0_0 p0_0_1 p0_0_2 p0_0_3 p0_0_4 (mput p0_0_5 (strOfNums p1) v20) v20 v24 hv25)] (aK aN) ?_
  obtain ⟨hk26,h⟩:=ck h
  refine V0 4 ?_
  refine G4.imp (Imp.openO 2 v24 hk26 (by rfl)) ?_
  refine V_ 1 [.sh HCell.D 65 _ _ (gt p0_0_0 v24) (⟨true,(gt p0_0_0 v24).fthing⟩:HCell) 9 _ _ _] (aR (aR (aR (aR aN)))) ?_
  refine DR tbOk hmix [4] [([],[]),([],[]),([],[]),([2],[]),([6],[]),([7,9],[9]),([],[])] [.lh HCell.D 65 _ _ (⟨true,(gt p0_0_0 v24).fthing⟩:HCell),.co (Et.int .u8) 9 _ _] (aR (aR (aR (aR (aR (aR (aR (aC bleR aN)))))))) (by rfl) ?_
  refine V0 0 ?_
  refine G4.imp (Imp.closeO 2 9 (by rfl) (by rfl) (by rfl)) ?_
  obtain rfl:=sj h
  exact TO_ tbOk.t Tryz.results46 [0,1,2,3,4,5,6,7,8]
 refine V0 4 ?_
 refine fk2 h (fun v27 hv28 h=>?_) (fun v29 hv30 h=>?_)
 ·refine V0 0 ?_
  refine CX_ tbOk [1,2,3] (c40_0 p0_0_0 p0_0_1 p0_0_2 p0_0_3 p0_0_4 p0_0_5 v3.1 v27 hv28) (aK aN) ?_
  refine V0 0 ?_
  obtain rfl:=sj h
  exact TP_ [0,1,2,3,4,5,6,7,8]
 refine V_ 1 [.cl true [1,2,3] (fun _=>c40_1 p0_0_0 p0_0_1 p0_0_2 p0_0_3 p0_0_4 p0_0_5 v3.1 v29 hv30)] (aK aN) ?_
 obtain ⟨hk31,h⟩:=ck h
 refine V0 4 ?_
 refine G4.imp (Imp.openO 2 v29 hk31 (by rfl)) ?_
 refine V_ 1 [.sh HCell.D 65 _ _ (gt p0_0_0 v29) (⟨true,(gt p0_0_0 v29).fthing⟩:HCell) 9 _ _ _] (aR (aR (aR (aR aN)))) ?_
 refine DR tbOk hmix [4] [([],[]),([],[]),([],[]),([2],[]),([6],[]),([7,9],[9]),([],[])] [.lh HCell.D 65 _ _ (⟨true,(gt p0_0_0 v29).fthing⟩:HCell),.co (Et.int .u8) 9 _ _] (aR (aR (aR (aR (aR (aR (aR (aC bleR aN)))))))) (by rfl) ?_
 refine V0 0 ?_
 refine G4.imp (Imp.closeO 2 9 (by rfl) (by rfl) (by rfl)) ?_
 obtain rfl:=sj h
 exact TO_ tbOk.t Tryz.results46 [0,1,2,3,4,5,6,7,8]
theorem c46_0 (F:Nat) (p0_0_0:List HCell) (p0_0_1:Int) (p0_0_2:Int) (p0_0_3:Int) (p0_0_4:Int) (p0_0_5:List (ByteArray×Int)) (p1:List Int) (p2:List Int) (p3:Int) (r:(List HCell)×(List (ByteArray×Int))×Int) (h:fn46 F p0_0_0 p0_0_1 p0_0_2 p0_0_3 p0_0_4 p0_0_5 p1 p2 p3=some (.inl r)):ConX Tryz.prog 46 [.p 0 0,.p 4 0,.p 6 0,.p 8 0] [(0,.cells 28 [.p 1 0]),(1,.cells 63 [.sl 2,vb p0_0_1,vi p0_0_2,vi p0_0_3,vi p0_0_4,.mp 3]),(2,.ex (pO HCell.D 65 p0_0_0) []),(3,.omap Kn.str (Vn.int .i64) p0_0_5),(4,.cells 36 [.sl 5]),(5,.rd (Et.int .u8) p1),(6,.cells 36 [.sl 7]),(7,.rd (Et.int .u8) p2),(8,.cells 37 [.v (.int .u64 p3)])] 9 (.iface 29 (.int .i64 r.2.2)) [(0,.cells 28 [.p 1 0]),(1,.cells 63 [.sl 2,vb p0_0_1,vi p0_0_2,vi p0_0_3,vi p0_0_4,.mp 3]),(2,.ex (pO HCell.D 65 r.1) []),(3,.omap Kn.str (Vn.int .i64) r.2.1),(4,.cells 36 [.sl 5]),(6,.cells 36 [.sl 7]),(8,.cells 37 [.v (.int .u64 p3)])] 9:=c46 F p0_0_0 p0_0_1 p0_0_2 p0_0_3 p0_0_4 p0_0_5 p1 p2 p3 _ h
theorem c46_1 (F:Nat) (p0_0_0:List HCell) (p0_0_1:Int) (p0_0_2:Int) (p0_0_3:Int) (p0_0_4:Int) (p0_0_5:List (ByteArray×Int)) (p1:List Int) (p2:List Int) (p3:Int) (r:Int×(List HCell)×(List (ByteArray×Int))) (h:fn46 F p0_0_0 p0_0_1 p0_0_2 p0_0_3 p0_0_4 p0_0_5 p1 p2 p3=some (.inr r)):Con Tryz.prog 46 [.p 0 0,.p 4 0,.p 6 0,.p 8 0] [(0,.cells 28 [.p 1 0]),(1,.cells 63 [.sl 2,vb p0_0_1,vi p0_0_2,vi p0_0_3,vi p0_0_4,.mp 3]),(2,.ex (pO HCell.D 65 p0_0_0) []),(3,.omap Kn.str (Vn.int .i64) p0_0_5),(4,.cells 36 [.sl 5]),(5,.rd (Et.int .u8) p1),(6,.cells 36 [.sl 7]),(7,.rd (Et.int .u8) p2),(8,.cells 37 [.v (.int .u64 p3)])] 9 (vi r.1) [(0,.cells 28 [.p 1 0]),(1,.cells 63 [.sl 2,vb p0_0_1,vi p0_0_2,vi p0_0_3,vi p0_0_4,.mp 3]),(2,.ex (pO HCell.D 65 r.2.1) []),(3,.omap Kn.str (Vn.int .i64) r.2.2),(4,.cells 36 [.sl 5]),(6,.cells 36 [.sl 7]),(8,.cells 37 [.v (.int .u64 p3)])] 9:=c46 F p0_0_0 p0_0_1 p0_0_2 p0_0_3 p0_0_4 p0_0_5 p1 p2 p3 _ h
def fn87 (p0:Int) (p1:Int) (pe:Int):Int×Int :=
 (pe,0)
theorem c87 (p0:Int) (p1:Int) (pe:Int) (r:Int×Int) (h:fn87 p0 p1 pe=r):ConD Tryz.prog 87 [.p 0 0,.p 1 0] [(0,.cells 29 [vi p0]),(1,.cells 3 [vi p1])] 2 (.pan (.iface 29 (.int .i64 pe))) [(0,.cells 29 [vi r.1]),(1,.cells 3 [vi r.2])] 2:=by
 rw [fn87] at h
 refine ConD.of_body Tryz.func87 Tryz.ntmps87 fun w F0 ρ gl=>?_
 refine V_ 2 [.ni] aN ?_
 refine CDT rfl (by rfl) ?_
 refine V_ 10 [.ta] aN ?_
 refine CF ?_
 refine V0 3 ?_
 subst h
 exact TQN_ Tryz.results87 [0,1]
def fn87v1 (p0:Int) (p1:Int):Unit :=
 ()
theorem c87v1 (p0:Int) (p1:Int) (r:Unit) (h:fn87v1 p0 p1=r):ConD Tryz.prog 87 [.p 0 0,.p 1 0] [(0,.cells 29 [vi p0]),(1,.cells 3 [vi p1])] 2 .ret [(0,.cells 29 [vi p0]),(1,.cells 3 [vi p1])] 2:=by
 rw [fn87v1] at h
 refine ConD.of_body Tryz.func87 Tryz.ntmps87 fun w F0 ρ gl=>?_
 refine V_ 2 [.ni] aN ?_
 refine CF ?_
 refine V0 0 ?_
 subst h
 exact TQN_ Tryz.results87 [0,1]
def fn45 (F:Nat) (p0c0_0_0:List HCell) (p0c0_0_1:Int) (p0c0_0_2:Int) (p0c0_0_3:Int) (p0c0_0_4:Int) (p0c0_0_5:List (ByteArray×Int)) (p0c1:List Int) (p0c2:List Int) (p0c3:Int):Option (Int×Int×(List HCell)×(List (ByteArray×Int))) :=
 frk2 (fn46 F p0c0_0_0 p0c0_0_1 p0c0_0_2 p0c0_0_3 p0c0_0_4 p0c0_0_5 p0c1 p0c2 p0c3) (fun v2=>some (((fn87 0 0 v2.2.2).2,(fn87 0 0 v2.2.2).1,v2.1,v2.2.1))) (fun v4=>some ((v4.1,0,v4.2.1,v4.2.2)))
theorem c45 (F:Nat) (p0c0_0_0:List HCell) (p0c0_0_1:Int) (p0c0_0_2:Int) (p0c0_0_3:Int) (p0c0_0_4:Int) (p0c0_0_5:List (ByteArray×Int)) (p0c1:List Int) (p0c2:List Int) (p0c3:Int) (r:Int×Int×(List HCell)×(List (ByteArray×Int))) (h:fn45 F p0c0_0_0 p0c0_0_1 p0c0_0_2 p0c0_0_3 p0c0_0_4 p0c0_0_5 p0c1 p0c2 p0c3=some r):ConO Tryz.prog 45 [.fn (.func 46) [] [.p 0 0,.p 4 0,.p 6 0,.p 8 0]] [(0,.cells 28 [.p 1 0]),(1,.cells 63 [.sl 2,vb p0c0_0_1,vi p0c0_0_2,vi p0c0_0_3,vi p0c0_0_4,.mp 3]),(2,.ex (pO HCell.D 65 p0c0_0_0) []),(3,.omap Kn.str (Vn.int .i64) p0c0_0_5),(4,.cells 36 [.sl 5]),(5,.rd (Et.int .u8) p0c1),(6,.cells 36 [.sl 7]),(7,.rd (Et.int .u8) p0c2),(8,.cells 37 [.v (.int .u64 p0c3)])] 9 (.ret (.tu [vi r.1,vi r.2.1]) [(0,.cells 28 [.p 1 0]),(1,.cells 63 [.sl 2,vb p0c0_0_1,vi p0c0_0_2,vi p0c0_0_3,vi p0c0_0_4,.mp 3]),(2,.ex (pO HCell.D 65 r.2.2.1) []),(3,.omap Kn.str (Vn.int .i64) r.2.2.2),(4,.cells 36 [.sl 5]),(6,.cells 36 [.sl 7]),(8,.cells 37 [.v (.int .u64 p0c3)])] 9):=by
 rw [fn45] at h
 refine ConO.of_body Tryz.func45 Tryz.ntmps45 fun w F0 ρ gl=>?_
 refine V0 3 ?_
 refine DF_ (fun vs1=>?_)
 refine V0 1 ?_
 refine fk2 h (fun v2 hv3 h=>?_) (fun v4 hv5 h=>?_)
 ·refine V0 0 ?_
  refine CX_ tbOk [0,1,2,3,4,5,6,7,8] (c46_0 F p0c0_0_0 p0c0_0_1 p0c0_0_2 p0c0_0_3 p0c0_0_4 p0c0_0_5 p0c1 p0c2 p0c3 v2 hv3) (aK aN) ?_
  refine V0 0 ?_
  obtain rfl:=sj h
  exact TDP_ tbOk Tryz.results45 11 [10,9] (c87 0 0 v2.2.2 _ rfl) [0,1,2,3,4,5,6,7,8]
 refine V_ 1 [.cl true [0,1,2,3,4,5,6,7,8] (fun _=>c46_1 F p0c0_0_0 p0c0_0_1 p0c0_0_2 p0c0_0_3 p0c0_0_4 p0c0_0_5 p0c1 p0c2 p0c3 v4 hv5)] (aK aN) ?_
 refine V0 2 ?_
 obtain rfl:=sj h
 exact TD_ tbOk Tryz.results45 11 [10,9] (c87v1 0 v4.1 _ rfl) [0,1,2,3,4,5,6,7,8]
theorem c45_0 (F:Nat) (p0c0_0_0:List HCell) (p0c0_0_1:Int) (p0c0_0_2:Int) (p0c0_0_3:Int) (p0c0_0_4:Int) (p0c0_0_5:List (ByteArray×Int)) (p0c1:List Int) (p0c2:List Int) (p0c3:Int) (r:Int×Int×(List HCell)×(List (ByteArray×Int))) (h:fn45 F p0c0_0_0 p0c0_0_1 p0c0_0_2 p0c0_0_3 p0c0_0_4 p0c0_0_5 p0c1 p0c2 p0c3=some r):Con Tryz.prog 45 [.fn (.func 46) [] [.p 0 0,.p 4 0,.p 6 0,.p 8 0]] [(0,.cells 28 [.p 1 0]),(1,.cells 63 [.sl 2,vb p0c0_0_1,vi p0c0_0_2,vi p0c0_0_3,vi p0c0_0_4,.mp 3]),(2,.ex (pO HCell.D 65 p0c0_0_0) []),(3,.omap Kn.str (Vn.int .i64) p0c0_0_5),(4,.cells 36 [.sl 5]),(5,.rd (Et.int .u8) p0c1),(6,.cells 36 [.sl 7]),(7,.rd (Et.int .u8) p0c2),(8,.cells 37 [.v (.int .u64 p0c3)])] 9 (.tu [vi r.1,vi r.2.1]) [(0,.cells 28 [.p 1 0]),(1,.cells 63 [.sl 2,vb p0c0_0_1,vi p0c0_0_2,vi p0c0_0_3,vi p0c0_0_4,.mp 3]),(2,.ex (pO HCell.D 65 r.2.2.1) []),(3,.omap Kn.str (Vn.int .i64) r.2.2.2),(4,.cells 36 [.sl 5]),(6,.cells 36 [.sl 7]),(8,.cells 37 [.v (.int .u64 p0c3)])] 9:=c45 F p0c0_0_0 p0c0_0_1 p0c0_0_2 p0c0_0_3 p0c0_0_4 p0c0_0_5 p0c1 p0c2 p0c3 _ h
def fn18 (F:Nat) (p0_0:List HCell) (p0_1:Int) (p0_2:Int) (p0_3:Int) (p0_4:Int) (p0_5:List (ByteArray×Int)) (p1:List Int) (p2:List Int) (p3:Int):Option (Int×(List HCell)×(List (ByteArray×Int))) :=
 frk1 (fn45 F p0_0 p0_1 p0_2 p0_3 p0_4 p0_5 p1 p2 p3) (fun v1=>some ((v1.2.1,v1.2.2.1,v1.2.2.2)))
theorem c18 (F:Nat) (p0_0:List HCell) (p0_1:Int) (p0_2:Int) (p0_3:Int) (p0_4:Int) (p0_5:List (ByteArray×Int)) (p1:List Int) (p2:List Int) (p3:Int) (r:Int×(List HCell)×(List (ByteArray×Int))) (h:fn18 F p0_0 p0_1 p0_2 p0_3 p0_4 p0_5 p1 p2 p3=some r):Con Tryz.prog 18 [.p 0 0,.sl 3,.sl 4,.v (.int .u64 p3)] [(0,.cells 63 [.sl 1,vb p0_1,vi p0_2,vi p0_3,vi p0_4,.mp 2]),(1,.ex (pO HCell.D 65 p0_0) []),(2,.omap Kn.str (Vn.int .i64) p0_5),(3,.rd (Et.int .u8) p1),(4,.rd (Et.int .u8) p2)] 5 (vi r.1) [(0,.cells 63 [.sl 1,vb p0_1,vi p0_2,vi p0_3,vi p0_4,.mp 2]),(1,.ex (pO HCell.D 65 r.2.1) []),(2,.omap Kn.str (Vn.int .i64) r.2.2)] 5:=by
 rw [fn18] at h
 refine Con.of_body Tryz.func18 rfl Tryz.ntmps18 rfl fun w F0 ρ gl=>?_
 refine V0 6 ?_
 refine fk1 h (fun v1 hv2 h=>?_)
 refine V_ 1 [.cl true [5,0,1,2,6,3,7,4,8] (fun _=>c45_0 F p0_0 p0_1 p0_2 p0_3 p0_4 p0_5 p1 p2 p3 v1 hv2)] (aK aN) ?_
 refine V0 7 ?_
 obtain rfl:=sj h
 exact T_ tbOk.t Tryz.results18 [0,1,2,3,4]
def fn49 (p0_0_0:List HCell) (p0_0_1:Int) (p0_0_2:Int) (p0_0_3:Int) (p0_0_4:Int) (p0_0_5:List (ByteArray×Int)) (p1:List Int):Option (Int⊕Int) :=
 frk2 (fn47 p0_0_0 p0_0_1 p0_0_2 p0_0_3 p0_0_4 p0_0_5 p1) (fun v1=>some ((.inl v1))) (fun v3=>frk2 (fn24 v3.2 6) (fun v5=>some ((.inl v5))) (fun v7=>some ((.inr v3.1))))
theorem c49 (p0_0_0:List HCell) (p0_0_1:Int) (p0_0_2:Int) (p0_0_3:Int) (p0_0_4:Int) (p0_0_5:List (ByteArray×Int)) (p1:List Int) (r:Int⊕Int) (h:fn49 p0_0_0 p0_0_1 p0_0_2 p0_0_3 p0_0_4 p0_0_5 p1=some r):ConO Tryz.prog 49 [.p 0 0,.p 4 0] [(0,.cells 28 [.p 1 0]),(1,.cells 63 [.sl 2,vb p0_0_1,vi p0_0_2,vi p0_0_3,vi p0_0_4,.mp 3]),(2,.ex (pO HCell.D 65 p0_0_0) []),(3,.omap Kn.str (Vn.int .i64) p0_0_5),(4,.cells 36 [.sl 5]),(5,.rd (Et.int .u8) p1)] 6 (match r with | .inl r=>.pan (.iface 29 (.int .i64 r)) [(0,.cells 28 [.p 1 0]),(1,.cells 63 [.sl 2,vb p0_0_1,vi p0_0_2,vi p0_0_3,vi p0_0_4,.mp 3]),(2,.ex (pO HCell.D 65 p0_0_0) []),(3,.omap Kn.str (Vn.int .i64) p0_0_5),(4,.cells 36 [.sl 5])] 6 | .inr r=>.ret (vi r) [(0,.cells 28 [.p 1 0]),(1,.cells 63 [.sl 2,vb p0_0_1,vi p0_0_2,vi p0_0_3,vi p0_0_4,.mp 3]),(2,.ex (pO HCell.D 65 p0_0_0) []),(3,.omap Kn.str (Vn.int .i64) p0_0_5),(4,.cells 36 [.sl 5])] 6):=by
 rw [fn49] at h
 refine ConO.of_body Tryz.func49 Tryz.ntmps49 fun w F0 ρ gl=>?_
 refine V0 3 ?_
 refine fk2 h (fun v1 hv2 h=>?_) (fun v3 hv4 h=>?_)
 ·refine V0 0 ?_
  refine CX_ tbOk [1,2,3,5] (c47_0 p0_0_0 p0_0_1 p0_0_2 p0_0_3 p0_0_4 p0_0_5 p1 v1 hv2) (aK aN) ?_
  refine V0 0 ?_
  obtain rfl:=sj h
  exact TP_ [0,1,2,3,4,5]
 refine V_ 1 [.cl true [1,2,3,5] (fun _=>c47_1 p0_0_0 p0_0_1 p0_0_2 p0_0_3 p0_0_4 p0_0_5 p1 v3 hv4)] (aK aN) ?_
 refine V0 6 ?_
 refine fk2 h (fun v5 hv6 h=>?_) (fun v7 hv8 h=>?_)
 ·refine V0 0 ?_
  refine CX_ tbOk [] (c24_0 v3.2 6 v5 hv6) (aK aN) ?_
  refine V0 0 ?_
  obtain rfl:=sj h
  exact TP_ [0,1,2,3,4,5]
 refine V_ 1 [.cl true [] (fun _=>c24_1 v3.2 6 v7 hv8)] (aK aN) ?_
 refine V0 2 ?_
 obtain rfl:=sj h
 exact TO_ tbOk.t Tryz.results49 [0,1,2,3,4,5]
theorem c49_0 (p0_0_0:List HCell) (p0_0_1:Int) (p0_0_2:Int) (p0_0_3:Int) (p0_0_4:Int) (p0_0_5:List (ByteArray×Int)) (p1:List Int) (r:Int) (h:fn49 p0_0_0 p0_0_1 p0_0_2 p0_0_3 p0_0_4 p0_0_5 p1=some (.inl r)):ConX Tryz.prog 49 [.p 0 0,.p 4 0] [(0,.cells 28 [.p 1 0]),(1,.cells 63 [.sl 2,vb p0_0_1,vi p0_0_2,vi p0_0_3,vi p0_0_4,.mp 3]),(2,.ex (pO HCell.D 65 p0_0_0) []),(3,.omap Kn.str (Vn.int .i64) p0_0_5),(4,.cells 36 [.sl 5]),(5,.rd (Et.int .u8) p1)] 6 (.iface 29 (.int .i64 r)) [(0,.cells 28 [.p 1 0]),(1,.cells 63 [.sl 2,vb p0_0_1,vi p0_0_2,vi p0_0_3,vi p0_0_4,.mp 3]),(2,.ex (pO HCell.D 65 p0_0_0) []),(3,.omap Kn.str (Vn.int .i64) p0_0_5),(4,.cells 36 [.sl 5])] 6:=c49 p0_0_0 p0_0_1 p0_0_2 p0_0_3 p0_0_4 p0_0_5 p1 _ h
theorem c49_1 (p0_0_0:List HCell) (p0_0_1:Int) (p0_0_2:Int) (p0_0_3:Int) (p0_0_4:Int) (p0_0_5:List (ByteArray×Int)) (p1:List Int) (r:Int) (h:fn49 p0_0_0 p0_0_1 p0_0_2 p0_0_3 p0_0_4 p0_0_5 p1=some (.inr r)):Con Tryz.prog 49 [.p 0 0,.p 4 0] [(0,.cells 28 [.p 1 0]),(1,.cells 63 [.sl 2,vb p0_0_1,vi p0_0_2,vi p0_0_3,vi p0_0_4,.mp 3]),(2,.ex (pO HCell.D 65 p0_0_0) []),(3,.omap Kn.str (Vn.int .i64) p0_0_5),(4,.cells 36 [.sl 5]),(5,.rd (Et.int .u8) p1)] 6 (vi r) [(0,.cells 28 [.p 1 0]),(1,.cells 63 [.sl 2,vb p0_0_1,vi p0_0_2,vi p0_0_3,vi p0_0_4,.mp 3]),(2,.ex (pO HCell.D 65 p0_0_0) []),(3,.omap Kn.str (Vn.int .i64) p0_0_5),(4,.cells 36 [.sl 5])] 6:=c49 p0_0_0 p0_0_1 p0_0_2 p0_0_3 p0_0_4 p0_0_5 p1 _ h
def fn45v1 (p0c0_0_0:List HCell) (p0c0_0_1:Int) (p0c0_0_2:Int) (p0c0_0_3:Int) (p0c0_0_4:Int) (p0c0_0_5:List (ByteArray×Int)) (p0c1:List Int):Option (Int×Int) :=
 frk2 (fn49 p0c0_0_0 p0c0_0_1 p0c0_0_2 p0c0_0_3 p0c0_0_4 p0c0_0_5 p0c1) (fun v2=>some (((fn87 0 0 v2).2,(fn87 0 0 v2).1))) (fun v4=>some ((v4,0)))
theorem c45v1 (p0c0_0_0:List HCell) (p0c0_0_1:Int) (p0c0_0_2:Int) (p0c0_0_3:Int) (p0c0_0_4:Int) (p0c0_0_5:List (ByteArray×Int)) (p0c1:List Int) (r:Int×Int) (h:fn45v1 p0c0_0_0 p0c0_0_1 p0c0_0_2 p0c0_0_3 p0c0_0_4 p0c0_0_5 p0c1=some r):ConO Tryz.prog 45 [.fn (.func 49) [] [.p 0 0,.p 4 0]] [(0,.cells 28 [.p 1 0]),(1,.cells 63 [.sl 2,vb p0c0_0_1,vi p0c0_0_2,vi p0c0_0_3,vi p0c0_0_4,.mp 3]),(2,.ex (pO HCell.D 65 p0c0_0_0) []),(3,.omap Kn.str (Vn.int .i64) p0c0_0_5),(4,.cells 36 [.sl 5]),(5,.rd (Et.int .u8) p0c1)] 6 (.ret (.tu [vi r.1,vi r.2]) [(0,.cells 28 [.p 1 0]),(1,.cells 63 [.sl 2,vb p0c0_0_1,vi p0c0_0_2,vi p0c0_0_3,vi p0c0_0_4,.mp 3]),(2,.ex (pO HCell.D 65 p0c0_0_0) []),(3,.omap Kn.str (Vn.int .i64) p0c0_0_5),(4,.cells 36 [.sl 5])] 6):=by
 rw [fn45v1] at h
 refine ConO.of_body Tryz.func45 Tryz.ntmps45 fun w F0 ρ gl=>?_
 refine V0 3 ?_
 refine DF_ (fun vs1=>?_)
 refine V0 1 ?_
 refine fk2 h (fun v2 hv3 h=>?_) (fun v4 hv5 h=>?_)
 ·refine V0 0 ?_
  refine CX_ tbOk [0,1,2,3,4,5] (c49_0 p0c0_0_0 p0c0_0_1 p0c0_0_2 p0c0_0_3 p0c0_0_4 p0c0_0_5 p0c1 v2 hv3) (aK aN) ?_
  refine V0 0 ?_
  obtain rfl:=sj h
  exact TDP_ tbOk Tryz.results45 8 [7,6] (c87 0 0 v2 _ rfl) [0,1,2,3,4,5]
 refine V_ 1 [.cl true [0,1,2,3,4,5] (fun _=>c49_1 p0c0_0_0 p0c0_0_1 p0c0_0_2 p0c0_0_3 p0c0_0_4 p0c0_0_5 p0c1 v4 hv5)] (aK aN) ?_
 refine V0 2 ?_
 obtain rfl:=sj h
 exact TD_ tbOk Tryz.results45 8 [7,6] (c87v1 0 v4 _ rfl) [0,1,2,3,4,5]
theorem c45v1_0 (p0c0_0_0:List HCell) (p0c0_0_1:Int) (p0c0_0_2:Int) (p0c0_0_3:Int) (p0c0_0_4:Int) (p0c0_0_5:List (ByteArray×Int)) (p0c1:List Int) (r:Int×Int) (h:fn45v1 p0c0_0_0 p0c0_0_1 p0c0_0_2 p0c0_0_3 p0c0_0_4 p0c0_0_5 p0c1=some r):Con Tryz.prog 45 [.fn (.func 49) [] [.p 0 0,.p 4 0]] [(0,.cells 28 [.p 1 0]),(1,.cells 63 [.sl 2,vb p0c0_0_1,vi p0c0_0_2,vi p0c0_0_3,vi p0c0_0_4,.mp 3]),(2,.ex (pO HCell.D 65 p0c0_0_0) []),(3,.omap Kn.str (Vn.int .i64) p0c0_0_5),(4,.cells 36 [.sl 5]),(5,.rd (Et.int .u8) p0c1)] 6 (.tu [vi r.1,vi r.2]) [(0,.cells 28 [.p 1 0]),(1,.cells 63 [.sl 2,vb p0c0_0_1,vi p0c0_0_2,vi p0c0_0_3,vi p0c0_0_4,.mp 3]),(2,.ex (pO HCell.D 65 p0c0_0_0) []),(3,.omap Kn.str (Vn.int .i64) p0c0_0_5),(4,.cells 36 [.sl 5])] 6:=c45v1 p0c0_0_0 p0c0_0_1 p0c0_0_2 p0c0_0_3 p0c0_0_4 p0c0_0_5 p0c1 _ h
def fn19 (p0_0:List HCell) (p0_1:Int) (p0_2:Int) (p0_3:Int) (p0_4:Int) (p0_5:List (ByteArray×Int)) (p1:List Int):Option (Int×Int) :=
 frk1 (fn45v1 p0_0 p0_1 p0_2 p0_3 p0_4 p0_5 p1) (fun v1=>some ((v1.1,v1.2)))
theorem c19 (p0_0:List HCell) (p0_1:Int) (p0_2:Int) (p0_3:Int) (p0_4:Int) (p0_5:List (ByteArray×Int)) (p1:List Int) (r:Int×Int) (h:fn19 p0_0 p0_1 p0_2 p0_3 p0_4 p0_5 p1=some r):Con Tryz.prog 19 [.p 0 0,.sl 3] [(0,.cells 63 [.sl 1,vb p0_1,vi p0_2,vi p0_3,vi p0_4,.mp 2]),(1,.ex (pO HCell.D 65 p0_0) []),(2,.omap Kn.str (Vn.int .i64) p0_5),(3,.rd (Et.int .u8) p1)] 4 (.tu [vi r.1,vi r.2]) [(0,.cells 63 [.sl 1,vb p0_1,vi p0_2,vi p0_3,vi p0_4,.mp 2]),(1,.ex (pO HCell.D 65 p0_0) []),(2,.omap Kn.str (Vn.int .i64) p0_5)] 4:=by
 rw [fn19] at h
 refine Con.of_body Tryz.func19 rfl Tryz.ntmps19 rfl fun w F0 ρ gl=>?_
 refine V0 5 ?_
 refine fk1 h (fun v1 hv2 h=>?_)
 refine V_ 1 [.cl true [4,0,1,2,5,3] (fun _=>c45v1_0 p0_0 p0_1 p0_2 p0_3 p0_4 p0_5 p1 v1 hv2)] (aK aN) ?_
 refine V0 4 ?_
 obtain rfl:=sj h
 exact T_ tbOk.t Tryz.results19 [0,1,2,3]
def fn44 (p0:List (ByteArray×Int)):Unit :=
 ()
theorem c44 (p0:List (ByteArray×Int)) (r:Unit) (h:fn44 p0=r):Con Tryz.prog 44 [.mp 0] [(0,.omap Kn.str (Vn.int .i64) p0)] 1 (.fn (.func 86) [] [.p 1 0]) [(0,.omap Kn.str (Vn.int .i64) p0),(1,.cells 58 [.mp 0])] 2:=by
 rw [fn44] at h
 refine Con.of_body Tryz.func44 rfl Tryz.ntmps44 rfl fun w F0 ρ gl=>?_
 refine V0 4 ?_
 subst h
 exact T_ tbOk.t Tryz.results44 [0,1]
def fn14_b1 (v1:List ByteArray) (rl1:(List (List Int))→Int→Option ((List (List Int)))) (xs7:List (List Int)) (x8:Int):Option ((List (List Int))) :=
 bif decide (x8 < (v1.length:Int)) then (bif inb x8 v1.length then (bif decide ((gt v1 x8).size≤9223372036854775807) then (bif decide ((xs7.length+1) * 24≤140737488355328∧xs7.length+1≤9223372036854775807) then (rl1 (xs7++[numsOf (gt v1 x8)]) (IntKind.i64.wrap (x8+1))) else none) else none) else none) else (some xs7)
def fn14_l1 (v1:List ByteArray):Nat→(List (List Int))→Int→Option ((List (List Int)))
 | 0,_,_=>none
 | n16+1,xs7,x8=>fn14_b1 v1 (fn14_l1 v1 n16) xs7 x8
theorem fn14_l1_s (v1:List ByteArray) (n16:Nat) (xs7:List (List Int)) (x8:Int):fn14_l1 v1 (n16+1) xs7 x8=fn14_b1 v1 (fn14_l1 v1 n16) xs7 x8:=rfl
def fn14_k1 (xs13:List (List Int)):Option (((List (List Int)))) :=
 some (xs13)
def fn14 (F:Nat) (p0_0:List HCell) (p0_1:Int) (p0_2:Int) (p0_3:Int) (p0_4:Int) (p0_5:List (ByteArray×Int)):Option ((List (List Int))) :=
 Option.bind (fn43 p0_5) fun v1=>(Option.bind (fn14_l1 v1 F ([]:List (List Int)) 0) fun o14=>(fn14_k1 o14))
theorem c14 (F:Nat) (p0_0:List HCell) (p0_1:Int) (p0_2:Int) (p0_3:Int) (p0_4:Int) (p0_5:List (ByteArray×Int)) (r:(List (List Int))) (h:fn14 F p0_0 p0_1 p0_2 p0_3 p0_4 p0_5=some r):Con Tryz.prog 14 [.p 0 0] [(0,.cells 63 [.sl 1,vb p0_1,vi p0_2,vi p0_3,vi p0_4,.mp 2]),(1,.ex (pO HCell.D 65 p0_0) []),(2,.omap Kn.str (Vn.int .i64) p0_5)] 3 (.sl 3) [(0,.cells 63 [.sl 1,vb p0_1,vi p0_2,vi p0_3,vi p0_4,.mp 2]),(1,.ex (pO HCell.D 65 p0_0) []),(2,.omap Kn.str (Vn.int .i64) p0_5),(3,.rowL (Et.int .u8) 5 36 r r.length)] 4:=by
 rw [fn14] at h
 refine Con.of_body Tryz.func14 rfl Tryz.ntmps14 rfl fun w F0 ρ gl=>?_
 refine V_ 3 [.pn] aN ?_
 refine CF ?_
 refine V_ 6 [.cl true [2] (fun _=>c44 p0_5 _ rfl)] (aK aN) ?_
 obtain ⟨v1,hv2,h⟩:=bd h
 refine V_ 1 [.cl true [3,2] (fun _=>c43 p0_5 _ hv2)] (aK aN) ?_
 refine V0 2 ?_
 refine G4.imp (Imp.nilL (Et.int .u8) 5 36 3 (by rfl)) ?_
 obtain ⟨o14,hl15,h⟩:=bd h
 refine CT 0 ⟨[(3,.sl 3)],[(0,.cells 63 [.sl 1,vb p0_1,vi p0_2,vi p0_3,vi p0_4,.mp 2]),(1,.ex (pO HCell.D 65 p0_0) []),(2,.omap Kn.str (Vn.int .i64) p0_5),(3,.rowL (Et.int .u8) 5 36 o14 o14.length)],4⟩ ?_ ?_
 ·have h018:=h
  clear h
  refine G4.imp (I_ [0,1,2,4,5]) (LP (fun (n:Nat) (s:(List (List Int))×Int)=>fn14_l1 v1 n s.1 s.2) (fun (s:(List (List Int))×Int)=>⟨[(3,.sl 4),(13,.sl 3),(14,vi (v1.length:Int)),(15,vi s.2)],[(0,.cells 63 [.sl 1,vb p0_1,vi p0_2,vi p0_3,vi p0_4,.mp 2]),(1,.ex (pO HCell.D 65 p0_0) []),(2,.omap Kn.str (Vn.int .i64) p0_5),(3,.row Et.str 9 v1 v1.length .unk),(4,.rowL (Et.int .u8) 5 36 s.1 s.1.length)],5⟩) (fun _=>rfl) (s0:=(([]:List (List Int)),0)) hl15 ?_)
  clear hl15
  rintro R19 n16 ⟨xs7,x8⟩ h ih17
  replace h:=(fn14_l1_s v1 n16 xs7 x8).symm.trans h
  rw [fn14_b1] at h
  refine V0 1 ?_
  refine C_ h (fun h hb20=>?_) fun h hb20=>?_
  ·obtain ⟨hk21,h⟩:=ck h
   obtain ⟨hk22,h⟩:=ck h
   obtain ⟨hk23,h⟩:=ck h
   refine V_ 11 [.s2,.b1 (Et.int .u8),.aL (Et.int .u8) 5 _ _] (aC hk21 (aC hk22 (aR (aR (aR (aC hk23 aN)))))) ?_
   exact ih17 (xs7++[numsOf (gt v1 x8)],IntKind.i64.wrap (x8+1)) h _ _ (I_ [0,1,2,3,7])
  refine V0 0 ?_
  obtain rfl:=sj h
  exact CE (I_ [0,1,2,4])
 change fn14_k1 o14=_ at h
 rw [fn14_k1] at h
 refine V0 2 ?_
 obtain rfl:=sj h
 exact T_ tbOk.t Tryz.results14 [0,1,2,3]
def fn51 (p0_0_0:List HCell) (p0_0_1:Int) (p0_0_2:Int) (p0_0_3:Int) (p0_0_4:Int) (p0_0_5:List (ByteArray×Int)) (p1:List Int):Option (((List HCell)×(List (ByteArray×Int))×Int)⊕(Bool×(List HCell)×(List (ByteArray×Int)))) :=
 frk2 (fn47 p0_0_0 p0_0_1 p0_0_2 p0_0_3 p0_0_4 p0_0_5 p1) (fun v1=>some ((.inl (p0_0_0,p0_0_5,v1)))) (fun v3=>frk2 (fn24 v3.2 6) (fun v5=>some ((.inl (p0_0_0,p0_0_5,v5)))) (fun v7=>frk2 (fn40 p0_0_0 p0_0_1 p0_0_2 p0_0_3 p0_0_4 p0_0_5 v3.1) (fun v9=>some ((.inl (p0_0_0,p0_0_5,v9)))) (fun v11=>bif inb v11 p0_0_0.length then (some ((.inr (true,p0_0_0.set v11.toNat (⟨(⟨false,(gt p0_0_0 v11).fthing⟩:HCell).fused,(gt p0_0_0 v11).fthing⟩:HCell),mdel p0_0_5 (strOfNums p1))))) else none)))
theorem c51 (p0_0_0:List HCell) (p0_0_1:Int) (p0_0_2:Int) (p0_0_3:Int) (p0_0_4:Int) (p0_0_5:List (ByteArray×Int)) (p1:List Int) (r:((List HCell)×(List (ByteArray×Int))×Int)⊕(Bool×(List HCell)×(List (ByteArray×Int)))) (h:fn51 p0_0_0 p0_0_1 p0_0_2 p0_0_3 p0_0_4 p0_0_5 p1=some r):ConO Tryz.prog 51 [.p 0 0,.p 4 0] [(0,.cells 28 [.p 1 0]),(1,.cells 63 [.sl 2,vb p0_0_1,vi p0_0_2,vi p0_0_3,vi p0_0_4,.mp 3]),(2,.ex (pO HCell.D 65 p0_0_0) []),(3,.omap Kn.str (Vn.int .i64) p0_0_5),(4,.cells 36 [.sl 5]),(5,.rd (Et.int .u8) p1)] 6 (match r with | .inl r=>.pan (.iface 29 (.int .i64 r.2.2)) [(0,.cells 28 [.p 1 0]),(1,.cells 63 [.sl 2,vb p0_0_1,vi p0_0_2,vi p0_0_3,vi p0_0_4,.mp 3]),(2,.ex (pO HCell.D 65 r.1) []),(3,.omap Kn.str (Vn.int .i64) r.2.1),(4,.cells 36 [.sl 5])] 6 | .inr r=>.ret (.v (.bool r.1)) [(0,.cells 28 [.p 1 0]),(1,.cells 63 [.sl 2,vb p0_0_1,vi p0_0_2,vi p0_0_3,vi p0_0_4,.mp 3]),(2,.ex (pO HCell.D 65 r.2.1) []),(3,.omap Kn.str (Vn.int .i64) r.2.2),(4,.cells 36 [.sl 5])] 6):=by
 rw [fn51] at h
 refine ConO.of_body Tryz.func51 Tryz.ntmps51 fun w F0 ρ gl=>?_
 refine V0 3 ?_
 refine fk2 h (fun v1 hv2 h=>?_) (fun v3 hv4 h=>?_)
 ·refine V0 0 ?_
  refine CX_ tbOk [1,2,3,5] (c47_0 p0_0_0 p0_0_1 p0_0_2 p0_0_3 p0_0_4 p0_0_5 p1 v1 hv2) (aK aN) ?_
  refine V0 0 ?_
  obtain rfl:=sj h
  exact TP_ [0,1,2,3,4,5]
 refine V_ 1 [.cl true [1,2,3,5] (fun _=>c47_1 p0_0_0 p0_0_1 p0_0_2 p0_0_3 p0_0_4 p0_0_5 p1 v3 hv4)] (aK aN) ?_
 refine V0 6 ?_
 refine fk2 h (fun v5 hv6 h=>?_) (fun v7 hv8 h=>?_)
 ·refine V0 0 ?_
  refine CX_ tbOk [] (c24_0 v3.2 6 v5 hv6) (aK aN) ?_
  refine V0 0 ?_
  obtain rfl:=sj h
  exact TP_ [0,1,2,3,4,5]
 refine V_ 1 [.cl true [] (fun _=>c24_1 v3.2 6 v7 hv8)] (aK aN) ?_
 refine V0 4 ?_
 refine fk2 h (fun v9 hv10 h=>?_) (fun v11 hv12 h=>?_)
 ·refine V0 0 ?_
  refine CX_ tbOk [1,2,3] (c40_0 p0_0_0 p0_0_1 p0_0_2 p0_0_3 p0_0_4 p0_0_5 v3.1 v9 hv10) (aK aN) ?_
  refine V0 0 ?_
  obtain rfl:=sj h
  exact TP_ [0,1,2,3,4,5]
 refine V_ 1 [.cl true [1,2,3] (fun _=>c40_1 p0_0_0 p0_0_1 p0_0_2 p0_0_3 p0_0_4 p0_0_5 v3.1 v11 hv12)] (aK aN) ?_
 obtain ⟨hk13,h⟩:=ck h
 refine V0 2 ?_
 refine G4.imp (Imp.openO 2 v11 hk13 (by rfl)) ?_
 refine V_ 1 [.sh HCell.D 65 _ _ (gt p0_0_0 v11) (⟨false,(gt p0_0_0 v11).fthing⟩:HCell) 6 _ _ _] (aR (aR (aR (aR aN)))) ?_
 refine DR tbOk hmix [] [([0],[]),([],[]),([],[]),([1],[]),([4],[]),([5],[]),([3],[3])] [.b2 _,.de Kn.str (Vn.int .i64) _ (strOfNums p1) Tryz.runUnderlying58 Tryz.runUnderlying9] (aR (aR (aR (aR (aR (aR (aR (aR aN)))))))) (by rfl) ?_
 refine V0 1 ?_
 refine G4.imp (Imp.closeO 2 6 (by rfl) (by rfl) (by rfl)) ?_
 obtain rfl:=sj h
 exact TO_ tbOk.t Tryz.results51 [0,1,2,3,4,5]
theorem c51_0 (p0_0_0:List HCell) (p0_0_1:Int) (p0_0_2:Int) (p0_0_3:Int) (p0_0_4:Int) (p0_0_5:List (ByteArray×Int)) (p1:List Int) (r:(List HCell)×(List (ByteArray×Int))×Int) (h:fn51 p0_0_0 p0_0_1 p0_0_2 p0_0_3 p0_0_4 p0_0_5 p1=some (.inl r)):ConX Tryz.prog 51 [.p 0 0,.p 4 0] [(0,.cells 28 [.p 1 0]),(1,.cells 63 [.sl 2,vb p0_0_1,vi p0_0_2,vi p0_0_3,vi p0_0_4,.mp 3]),(2,.ex (pO HCell.D 65 p0_0_0) []),(3,.omap Kn.str (Vn.int .i64) p0_0_5),(4,.cells 36 [.sl 5]),(5,.rd (Et.int .u8) p1)] 6 (.iface 29 (.int .i64 r.2.2)) [(0,.cells 28 [.p 1 0]),(1,.cells 63 [.sl 2,vb p0_0_1,vi p0_0_2,vi p0_0_3,vi p0_0_4,.mp 3]),(2,.ex (pO HCell.D 65 r.1) []),(3,.omap Kn.str (Vn.int .i64) r.2.1),(4,.cells 36 [.sl 5])] 6:=c51 p0_0_0 p0_0_1 p0_0_2 p0_0_3 p0_0_4 p0_0_5 p1 _ h
theorem c51_1 (p0_0_0:List HCell) (p0_0_1:Int) (p0_0_2:Int) (p0_0_3:Int) (p0_0_4:Int) (p0_0_5:List (ByteArray×Int)) (p1:List Int) (r:Bool×(List HCell)×(List (ByteArray×Int))) (h:fn51 p0_0_0 p0_0_1 p0_0_2 p0_0_3 p0_0_4 p0_0_5 p1=some (.inr r)):Con Tryz.prog 51 [.p 0 0,.p 4 0] [(0,.cells 28 [.p 1 0]),(1,.cells 63 [.sl 2,vb p0_0_1,vi p0_0_2,vi p0_0_3,vi p0_0_4,.mp 3]),(2,.ex (pO HCell.D 65 p0_0_0) []),(3,.omap Kn.str (Vn.int .i64) p0_0_5),(4,.cells 36 [.sl 5]),(5,.rd (Et.int .u8) p1)] 6 (.v (.bool r.1)) [(0,.cells 28 [.p 1 0]),(1,.cells 63 [.sl 2,vb p0_0_1,vi p0_0_2,vi p0_0_3,vi p0_0_4,.mp 3]),(2,.ex (pO HCell.D 65 r.2.1) []),(3,.omap Kn.str (Vn.int .i64) r.2.2),(4,.cells 36 [.sl 5])] 6:=c51 p0_0_0 p0_0_1 p0_0_2 p0_0_3 p0_0_4 p0_0_5 p1 _ h
def fn89 (p0:Int) (p1:Bool) (pe:Int):Int×Bool :=
 (pe,false)
theorem c89 (p0:Int) (p1:Bool) (pe:Int) (r:Int×Bool) (h:fn89 p0 p1 pe=r):ConD Tryz.prog 89 [.p 0 0,.p 1 0] [(0,.cells 29 [vi p0]),(1,.cells 4 [.v (.bool p1)])] 2 (.pan (.iface 29 (.int .i64 pe))) [(0,.cells 29 [vi r.1]),(1,.cells 4 [.v (.bool r.2)])] 2:=by
 rw [fn89] at h
 refine ConD.of_body Tryz.func89 Tryz.ntmps89 fun w F0 ρ gl=>?_
 refine V_ 2 [.ni] aN ?_
 refine CDT rfl (by rfl) ?_
 refine V_ 10 [.ta] aN ?_
 refine CF ?_
 refine V0 3 ?_
 subst h
 exact TQN_ Tryz.results89 [0,1]
def fn89v1 (p0:Int) (p1:Bool):Unit :=
 ()
theorem c89v1 (p0:Int) (p1:Bool) (r:Unit) (h:fn89v1 p0 p1=r):ConD Tryz.prog 89 [.p 0 0,.p 1 0] [(0,.cells 29 [vi p0]),(1,.cells 4 [.v (.bool p1)])] 2 .ret [(0,.cells 29 [vi p0]),(1,.cells 4 [.v (.bool p1)])] 2:=by
 rw [fn89v1] at h
 refine ConD.of_body Tryz.func89 Tryz.ntmps89 fun w F0 ρ gl=>?_
 refine V_ 2 [.ni] aN ?_
 refine CF ?_
 refine V0 0 ?_
 subst h
 exact TQN_ Tryz.results89 [0,1]
def fn50 (p0c0_0_0:List HCell) (p0c0_0_1:Int) (p0c0_0_2:Int) (p0c0_0_3:Int) (p0c0_0_4:Int) (p0c0_0_5:List (ByteArray×Int)) (p0c1:List Int):Option (Bool×Int×(List HCell)×(List (ByteArray×Int))) :=
 frk2 (fn51 p0c0_0_0 p0c0_0_1 p0c0_0_2 p0c0_0_3 p0c0_0_4 p0c0_0_5 p0c1) (fun v2=>some (((fn89 0 false v2.2.2).2,(fn89 0 false v2.2.2).1,v2.1,v2.2.1))) (fun v4=>some ((v4.1,0,v4.2.1,v4.2.2)))
theorem c50 (p0c0_0_0:List HCell) (p0c0_0_1:Int) (p0c0_0_2:Int) (p0c0_0_3:Int) (p0c0_0_4:Int) (p0c0_0_5:List (ByteArray×Int)) (p0c1:List Int) (r:Bool×Int×(List HCell)×(List (ByteArray×Int))) (h:fn50 p0c0_0_0 p0c0_0_1 p0c0_0_2 p0c0_0_3 p0c0_0_4 p0c0_0_5 p0c1=some r):ConO Tryz.prog 50 [.fn (.func 51) [] [.p 0 0,.p 4 0]] [(0,.cells 28 [.p 1 0]),(1,.cells 63 [.sl 2,vb p0c0_0_1,vi p0c0_0_2,vi p0c0_0_3,vi p0c0_0_4,.mp 3]),(2,.ex (pO HCell.D 65 p0c0_0_0) []),(3,.omap Kn.str (Vn.int .i64) p0c0_0_5),(4,.cells 36 [.sl 5]),(5,.rd (Et.int .u8) p0c1)] 6 (.ret (.tu [.v (.bool r.1),vi r.2.1]) [(0,.cells 28 [.p 1 0]),(1,.cells 63 [.sl 2,vb p0c0_0_1,vi p0c0_0_2,vi p0c0_0_3,vi p0c0_0_4,.mp 3]),(2,.ex (pO HCell.D 65 r.2.2.1) []),(3,.omap Kn.str (Vn.int .i64) r.2.2.2),(4,.cells 36 [.sl 5])] 6):=by
 rw [fn50] at h
 refine ConO.of_body Tryz.func50 Tryz.ntmps50 fun w F0 ρ gl=>?_
 refine V0 3 ?_
 refine DF_ (fun vs1=>?_)
 refine V0 1 ?_
 refine fk2 h (fun v2 hv3 h=>?_) (fun v4 hv5 h=>?_)
 ·refine V0 0 ?_
  refine CX_ tbOk [0,1,2,3,4,5] (c51_0 p0c0_0_0 p0c0_0_1 p0c0_0_2 p0c0_0_3 p0c0_0_4 p0c0_0_5 p0c1 v2 hv3) (aK aN) ?_
  refine V0 0 ?_
  obtain rfl:=sj h
  exact TDP_ tbOk Tryz.results50 8 [7,6] (c89 0 false v2.2.2 _ rfl) [0,1,2,3,4,5]
 refine V_ 1 [.cl true [0,1,2,3,4,5] (fun _=>c51_1 p0c0_0_0 p0c0_0_1 p0c0_0_2 p0c0_0_3 p0c0_0_4 p0c0_0_5 p0c1 v4 hv5)] (aK aN) ?_
 refine V0 2 ?_
 obtain rfl:=sj h
 exact TD_ tbOk Tryz.results50 8 [7,6] (c89v1 0 v4.1 _ rfl) [0,1,2,3,4,5]
theorem c50_0 (p0c0_0_0:List HCell) (p0c0_0_1:Int) (p0c0_0_2:Int) (p0c0_0_3:Int) (p0c0_0_4:Int) (p0c0_0_5:List (ByteArray×Int)) (p0c1:List Int) (r:Bool×Int×(List HCell)×(List (ByteArray×Int))) (h:fn50 p0c0_0_0 p0c0_0_1 p0c0_0_2 p0c0_0_3 p0c0_0_4 p0c0_0_5 p0c1=some r):Con Tryz.prog 50 [.fn (.func 51) [] [.p 0 0,.p 4 0]] [(0,.cells 28 [.p 1 0]),(1,.cells 63 [.sl 2,vb p0c0_0_1,vi p0c0_0_2,vi p0c0_0_3,vi p0c0_0_4,.mp 3]),(2,.ex (pO HCell.D 65 p0c0_0_0) []),(3,.omap Kn.str (Vn.int .i64) p0c0_0_5),(4,.cells 36 [.sl 5]),(5,.rd (Et.int .u8) p0c1)] 6 (.tu [.v (.bool r.1),vi r.2.1]) [(0,.cells 28 [.p 1 0]),(1,.cells 63 [.sl 2,vb p0c0_0_1,vi p0c0_0_2,vi p0c0_0_3,vi p0c0_0_4,.mp 3]),(2,.ex (pO HCell.D 65 r.2.2.1) []),(3,.omap Kn.str (Vn.int .i64) r.2.2.2),(4,.cells 36 [.sl 5])] 6:=c50 p0c0_0_0 p0c0_0_1 p0c0_0_2 p0c0_0_3 p0c0_0_4 p0c0_0_5 p0c1 _ h
def fn20 (p0_0:List HCell) (p0_1:Int) (p0_2:Int) (p0_3:Int) (p0_4:Int) (p0_5:List (ByteArray×Int)) (p1:List Int):Option (Int×(List HCell)×(List (ByteArray×Int))) :=
 frk1 (fn50 p0_0 p0_1 p0_2 p0_3 p0_4 p0_5 p1) (fun v1=>some ((v1.2.1,v1.2.2.1,v1.2.2.2)))
theorem c20 (p0_0:List HCell) (p0_1:Int) (p0_2:Int) (p0_3:Int) (p0_4:Int) (p0_5:List (ByteArray×Int)) (p1:List Int) (r:Int×(List HCell)×(List (ByteArray×Int))) (h:fn20 p0_0 p0_1 p0_2 p0_3 p0_4 p0_5 p1=some r):Con Tryz.prog 20 [.p 0 0,.sl 3] [(0,.cells 63 [.sl 1,vb p0_1,vi p0_2,vi p0_3,vi p0_4,.mp 2]),(1,.ex (pO HCell.D 65 p0_0) []),(2,.omap Kn.str (Vn.int .i64) p0_5),(3,.rd (Et.int .u8) p1)] 4 (vi r.1) [(0,.cells 63 [.sl 1,vb p0_1,vi p0_2,vi p0_3,vi p0_4,.mp 2]),(1,.ex (pO HCell.D 65 r.2.1) []),(2,.omap Kn.str (Vn.int .i64) r.2.2)] 4:=by
 rw [fn20] at h
 refine Con.of_body Tryz.func20 rfl Tryz.ntmps20 rfl fun w F0 ρ gl=>?_
 refine V0 4 ?_
 refine fk1 h (fun v1 hv2 h=>?_)
 refine V_ 1 [.cl true [4,0,1,2,5,3] (fun _=>c50_0 p0_0 p0_1 p0_2 p0_3 p0_4 p0_5 p1 v1 hv2)] (aK aN) ?_
 refine V0 7 ?_
 obtain rfl:=sj h
 exact T_ tbOk.t Tryz.results20 [0,1,2,3]
def fn12_b1 (p0:List Int) (p1:List Int) (rl1:Int→Option ((Unit)⊕(Bool))) (x6:Int):Option ((Unit)⊕(Bool)) :=
 bif decide (x6 < (p0.length:Int)) then (bif inb x6 p0.length then (bif inb x6 p1.length then (bif (gt p0 x6) != (gt p1 x6) then (some (.inr (false))) else (rl1 (IntKind.i64.wrap (x6+1)))) else none) else none) else (some (.inl ()))
def fn12_l1 (p0:List Int) (p1:List Int):Nat→Int→Option ((Unit)⊕(Bool))
 | 0,_=>none
 | n13+1,x6=>fn12_b1 p0 p1 (fn12_l1 p0 p1 n13) x6
theorem fn12_l1_s (p0:List Int) (p1:List Int) (n13:Nat) (x6:Int):fn12_l1 p0 p1 (n13+1) x6=fn12_b1 p0 p1 (fn12_l1 p0 p1 n13) x6:=rfl
def fn12_k1:Option (Bool) :=
 some (true)
def fn12 (F:Nat) (p0:List Int) (p1:List Int):Option (Bool) :=
 bif (p0.length:Int) != (p1.length:Int) then (some (false)) else (Option.bind (fn12_l1 p0 p1 F 0) fun o11=>(match o11 with | .inl u=>fn12_k1 | .inr u=>some u))
theorem c12 (F:Nat) (p0:List Int) (p1:List Int) (r:Bool) (h:fn12 F p0 p1=some r):Con Tryz.prog 12 [.sl 0,.sl 1] [(0,.rd (Et.int .u8) p0),(1,.rd (Et.int .u8) p1)] 2 (.v (.bool r)) [] 2:=by
 rw [fn12] at h
 refine Con.of_body Tryz.func12 rfl Tryz.ntmps12 rfl fun w F0 ρ gl=>?_
 refine V0 6 ?_
 refine C_ h (fun h hb1=>?_) fun h hb1=>?_
 ·refine V0 1 ?_
  obtain rfl:=sj h
  exact T_ tbOk.t Tryz.results12 [0,1]
 refine V0 1 ?_
 obtain ⟨o11,hl12,h⟩:=bd h
 refine CTS 0 (fun u21=>⟨[],[(0,.rd (Et.int .u8) p0),(1,.rd (Et.int .u8) p1)],2⟩) o11 ?_ (fun u21 hu21=>?_)
 ·have h015:=h
  clear h
  refine G4.imp (I_ [0,1]) (LP (fun (n:Nat) (s:Int)=>fn12_l1 p0 p1 n s) (fun (s:Int)=>⟨[(0,.sl 0),(1,.sl 1),(5,vi s)],[(0,.rd (Et.int .u8) p0),(1,.rd (Et.int .u8) p1)],2⟩) (fun _=>rfl) (s0:=0) hl12 ?_)
  clear hl12
  rintro R16 n13 x6 h ih14
  replace h:=(fn12_l1_s p0 p1 n13 x6).symm.trans h
  rw [fn12_b1] at h
  refine V0 4 ?_
  refine C_ h (fun h hb17=>?_) fun h hb17=>?_
  ·refine V0 0 ?_
   obtain ⟨hk18,h⟩:=ck h
   obtain ⟨hk19,h⟩:=ck h
   refine DR tbOk hmix [25] [([],[]),([],[]),([0],[]),([0],[]),([],[]),([],[]),([1],[]),([1],[]),([],[])] [] (aR (aC hk18 (aR (aR (aC hk19 (aR aN)))))) (by rfl) ?_
   refine V0 0 ?_
   refine C_ h (fun h hb20=>?_) fun h hb20=>?_
   ·refine V0 1 ?_
    obtain rfl:=sj h
    replace h:=h015
    refine V0 0 ?_
    obtain rfl:=sj h
    exact T_ tbOk.t Tryz.results12 [0,1]
   refine V0 3 ?_
   exact ih14 (IntKind.i64.wrap (x6+1)) h _ _ (I_ [0,1])
  refine V0 0 ?_
  obtain rfl:=sj h
  exact CES _ rfl (I_ [0,1])
 subst hu21
 change fn12_k1=_ at h
 rw [fn12_k1] at h
 refine V0 1 ?_
 obtain rfl:=sj h
 exact T_ tbOk.t Tryz.results12 [0,1]
def fn15_b1 (F:Nat) (p0:List (List Int)) (p1:List (List Int)) (rl1:Int→Option ((Unit)⊕(Bool))) (x8:Int):Option ((Unit)⊕(Bool)) :=
 bif decide (x8 < (p0.length:Int)) then (bif inb x8 p0.length then (bif inb x8 p1.length then (Option.bind (fn12 F (gt p0 x8) (gt p1 x8)) fun v24=>(bif !v24 then (some (.inr (false))) else (rl1 (IntKind.i64.wrap (x8+1))))) else none) else none) else (some (.inl ()))
def fn15_l1 (F:Nat) (p0:List (List Int)) (p1:List (List Int)):Nat→Int→Option ((Unit)⊕(Bool))
 | 0,_=>none
 | n17+1,x8=>fn15_b1 F p0 p1 (fn15_l1 F p0 p1 n17) x8
theorem fn15_l1_s (F:Nat) (p0:List (List Int)) (p1:List (List Int)) (n17:Nat) (x8:Int):fn15_l1 F p0 p1 (n17+1) x8=fn15_b1 F p0 p1 (fn15_l1 F p0 p1 n17) x8:=rfl
def fn15_k1:Option (Bool) :=
 some (true)
def fn15 (F:Nat) (p0:List (List Int)) (p1:List (List Int)):Option (Bool) :=
 bif (p0.length:Int) != (p1.length:Int) then (some (false)) else (Option.bind (fn15_l1 F p0 p1 F 0) fun o15=>(match o15 with | .inl u=>fn15_k1 | .inr u=>some u))
theorem c15 (F:Nat) (p0:List (List Int)) (p1:List (List Int)) (r:Bool) (h:fn15 F p0 p1=some r):Con Tryz.prog 15 [.sl 0,.sl 1] [(0,.rowL (Et.int .u8) 5 36 p0 p0.length),(1,.rowL (Et.int .u8) 5 36 p1 p1.length)] 2 (.v (.bool r)) [(0,.rowL (Et.int .u8) 5 36 p0 p0.length),(1,.rowL (Et.int .u8) 5 36 p1 p1.length)] 2:=by
 rw [fn15] at h
 refine Con.of_body Tryz.func15 rfl Tryz.ntmps15 rfl fun w F0 ρ gl=>?_
 refine V_ 6 [.ln,.ln] aN ?_
 refine C_ h (fun h hb1=>?_) fun h hb1=>?_
 ·refine V0 1 ?_
  obtain rfl:=sj h
  exact T_ tbOk.t Tryz.results15 [0,1]
 refine V0 1 ?_
 obtain ⟨o15,hl16,h⟩:=bd h
 refine CTS 0 (fun u27=>⟨[],[(0,.rowL (Et.int .u8) 5 36 p0 p0.length),(1,.rowL (Et.int .u8) 5 36 p1 p1.length)],2⟩) o15 ?_ (fun u27 hu27=>?_)
 ·have h019:=h
  clear h
  refine G4.imp (I_ [0,1]) (LP (fun (n:Nat) (s:Int)=>fn15_l1 F p0 p1 n s) (fun (s:Int)=>⟨[(0,.sl 0),(1,.sl 1),(5,vi s)],[(0,.rowL (Et.int .u8) 5 36 p0 p0.length),(1,.rowL (Et.int .u8) 5 36 p1 p1.length)],2⟩) (fun _=>rfl) (s0:=0) hl16 ?_)
  clear hl16
  rintro R20 n17 x8 h ih18
  replace h:=(fn15_l1_s F p0 p1 n17 x8).symm.trans h
  rw [fn15_b1] at h
  refine V_ 4 [.ln] aN ?_
  refine C_ h (fun h hb21=>?_) fun h hb21=>?_
  ·refine V0 0 ?_
   obtain ⟨hk22,h⟩:=ck h
   obtain ⟨hk23,h⟩:=ck h
   obtain ⟨v24,hv25,h⟩:=bd h
   refine DR tbOk hmix [26] [([],[]),([],[]),([0],[]),([0],[0]),([],[]),([],[]),([1],[]),([1],[1]),([2,3],[]),([],[])] [.ix,.ld (Et.int .u8) 5 _,.ix,.ld (Et.int .u8) 5 _,.cl true [2,3] (fun _=>c12 F (gt p0 x8) (gt p1 x8) _ hv25)] (aR (aC hk22 (aR (aR (aC hk22 (aR (aC hk23 (aR (aR (aC hk23 (aR (aK aN)))))))))))) (by rfl) ?_
   refine V0 0 ?_
   refine C_ h (fun h hb26=>?_) fun h hb26=>?_
   ·refine V0 1 ?_
    obtain rfl:=sj h
    replace h:=h019
    refine V0 0 ?_
    obtain rfl:=sj h
    refine G4.imp (Imp.closeL 0 2 (by rfl) (by rfl) (by rfl)) ?_
    refine G4.imp (Imp.closeL 1 3 (by rfl) (by rfl) (by rfl)) ?_
    exact T_ tbOk.t Tryz.results15 [0,1]
   refine V0 3 ?_
   refine G4.imp (Imp.closeL 0 2 (by rfl) (by rfl) (by rfl)) ?_
   refine G4.imp (Imp.closeL 1 3 (by rfl) (by rfl) (by rfl)) ?_
   exact ih18 (IntKind.i64.wrap (x8+1)) h _ _ (I_ [0,1])
  refine V0 0 ?_
  obtain rfl:=sj h
  exact CES _ rfl (I_ [0,1])
 subst hu27
 change fn15_k1=_ at h
 rw [fn15_k1] at h
 refine V0 1 ?_
 obtain rfl:=sj h
 exact T_ tbOk.t Tryz.results15 [0,1]
def fn6 (F:Nat):Option (Bool) :=
 frk2 (fn7 F (⟨2,1,1,2⟩:MSpec)) (fun v1=>none) (fun v3=>Option.bind (fn18 F v3.1 v3.2.1 v3.2.2.1 v3.2.2.2.1 v3.2.2.2.2.1 v3.2.2.2.2.2.1 ([98]:List Int) ([120]:List Int) 0) fun v5=>(Option.bind (fn18 F v5.2.1 v3.2.1 v3.2.2.1 v3.2.2.2.1 v3.2.2.2.2.1 v5.2.2 ([97]:List Int) ([121]:List Int) 0) fun v7=>(Option.bind (fn19 v7.2.1 v3.2.1 v3.2.2.1 v3.2.2.2.1 v3.2.2.2.2.1 v7.2.2 ([97]:List Int)) fun v9=>(Option.bind (fn14 F v7.2.1 v3.2.1 v3.2.2.1 v3.2.2.2.1 v3.2.2.2.2.1 v7.2.2) fun v11=>(Option.bind (fn18 F v7.2.1 v3.2.1 v3.2.2.1 v3.2.2.2.1 v3.2.2.2.2.1 v7.2.2 ([99]:List Int) ([122]:List Int) 0) fun v13=>(Option.bind (fn20 v13.2.1 v3.2.1 v3.2.2.1 v3.2.2.2.1 v3.2.2.2.2.1 v13.2.2 ([98]:List Int)) fun v15=>(Option.bind (fn18 F v15.2.1 v3.2.1 v3.2.2.1 v3.2.2.2.1 v3.2.2.2.2.1 v15.2.2 ([99]:List Int) ([122]:List Int) 1) fun v17=>(Option.bind (fn19 v17.2.1 v3.2.1 v3.2.2.1 v3.2.2.2.1 v3.2.2.2.2.1 v17.2.2 ([99]:List Int)) fun v19=>(bif v3.2.2.2.2.2.2 == 0 then (bif v5.1 == 0 then (bif v7.1 == 0 then (bif v9.1 == 1 then (bif v9.2 == 0 then (Option.bind (fn15 F v11 ([([97]:List Int),([98]:List Int)]:List (List Int))) fun v26=>(bif v26 then (bif v13.1 == 8 then (bif v15.1 == 0 then (bif v17.1 == 0 then (bif v19.1 == 0 then (bif v19.2 == 0 then (Option.bind (fn18 F v17.2.1 v3.2.1 v3.2.2.1 v3.2.2.2.1 v3.2.2.2.2.1 v17.2.2 ([98]:List Int) ([122]:List Int) 2) fun v34=>(some (v34.1 == 6))) else (some (false))) else (some (false))) else (some (false))) else (some (false))) else (some (false))) else (some (false)))) else (some (false))) else (some (false))) else (some (false))) else (some (false))) else (some (false)))))))))))
theorem c6 (F:Nat) (r:Bool) (h:fn6 F=some r):Con Tryz.prog 6 [] [] 0 (.v (.bool r)) [] 0:=by
 rw [fn6] at h
 refine Con.of_body Tryz.func6 rfl Tryz.ntmps6 rfl fun w F0 ρ gl=>?_
 refine V0 2 ?_
 refine fk2 h (fun v1 hv2 h=>?_) (fun v3 hv4 h=>?_)
 ·cases h
 refine V_ 1 [.cl true [] (fun _=>c7_1 F (⟨2,1,1,2⟩:MSpec) v3 hv4)] (aK aN) ?_
 obtain ⟨v5,hv6,h⟩:=bd h
 refine V_ 11 [.bs (Et.int .u8) ([98]:List Int),.cv,.bs (Et.int .u8) ([120]:List Int),.cv,.cl true [0,1,2,3,4] (fun _=>c18 F v3.1 v3.2.1 v3.2.2.1 v3.2.2.2.1 v3.2.2.2.2.1 v3.2.2.2.2.2.1 ([98]:List Int) ([120]:List Int) 0 _ hv6)] (aR (aR (aR (aR (aK aN))))) ?_
 obtain ⟨v7,hv8,h⟩:=bd h
 refine V_ 6 [.bs (Et.int .u8) ([97]:List Int),.cv,.bs (Et.int .u8) ([121]:List Int),.cv,.cl true [0,1,2,5,6] (fun _=>c18 F v5.2.1 v3.2.1 v3.2.2.1 v3.2.2.2.1 v3.2.2.2.2.1 v5.2.2 ([97]:List Int) ([121]:List Int) 0 _ hv8)] (aR (aR (aR (aR (aK aN))))) ?_
 obtain ⟨v9,hv10,h⟩:=bd h
 refine V_ 6 [.bs (Et.int .u8) ([97]:List Int),.cv,.cl true [0,1,2,7] (fun _=>c19 v7.2.1 v3.2.1 v3.2.2.1 v3.2.2.2.1 v3.2.2.2.2.1 v7.2.2 ([97]:List Int) _ hv10)] (aR (aR (aK aN))) ?_
 obtain ⟨v11,hv12,h⟩:=bd h
 refine V_ 7 [.cl true [0,1,2] (fun _=>c14 F v7.2.1 v3.2.1 v3.2.2.1 v3.2.2.2.1 v3.2.2.2.2.1 v7.2.2 _ hv12)] (aK aN) ?_
 obtain ⟨v13,hv14,h⟩:=bd h
 refine V_ 7 [.bs (Et.int .u8) ([99]:List Int),.cv,.bs (Et.int .u8) ([122]:List Int),.cv,.cl true [0,1,2,9,10] (fun _=>c18 F v7.2.1 v3.2.1 v3.2.2.1 v3.2.2.2.1 v3.2.2.2.2.1 v7.2.2 ([99]:List Int) ([122]:List Int) 0 _ hv14)] (aR (aR (aR (aR (aK aN))))) ?_
 obtain ⟨v15,hv16,h⟩:=bd h
 refine V_ 4 [.bs (Et.int .u8) ([98]:List Int),.cv,.cl true [0,1,2,11] (fun _=>c20 v13.2.1 v3.2.1 v3.2.2.1 v3.2.2.2.1 v3.2.2.2.2.1 v13.2.2 ([98]:List Int) _ hv16)] (aR (aR (aK aN))) ?_
 obtain ⟨v17,hv18,h⟩:=bd h
 refine V_ 8 [.bs (Et.int .u8) ([99]:List Int),.cv,.bs (Et.int .u8) ([122]:List Int),.cv,.cl true [0,1,2,12,13] (fun _=>c18 F v15.2.1 v3.2.1 v3.2.2.1 v3.2.2.2.1 v3.2.2.2.2.1 v15.2.2 ([99]:List Int) ([122]:List Int) 1 _ hv18)] (aR (aR (aR (aR (aK aN))))) ?_
 obtain ⟨v19,hv20,h⟩:=bd h
 refine V_ 5 [.bs (Et.int .u8) ([99]:List Int),.cv,.cl true [0,1,2,14] (fun _=>c19 v17.2.1 v3.2.1 v3.2.2.1 v3.2.2.2.1 v3.2.2.2.2.1 v17.2.2 ([99]:List Int) _ hv20)] (aR (aR (aK aN))) ?_
 refine V0 7 ?_
 refine CDS h (fun h hb21=>?_) (fun h hb21=>?_)
 ·refine VL [(63,64,true)] 4 [] (aC hb21 aN) ?_
  refine CDS h (fun h hb22=>?_) (fun h hb22=>?_)
  ·refine VL [(67,68,true)] 4 [] (aC hb22 aN) ?_
   refine CDS h (fun h hb23=>?_) (fun h hb23=>?_)
   ·refine VL [(71,72,true)] 4 [] (aC hb23 aN) ?_
    refine CDS h (fun h hb24=>?_) (fun h hb24=>?_)
    ·refine VL [(75,76,true)] 4 [] (aC hb24 aN) ?_
     refine CDS h (fun h hb25=>?_) (fun h hb25=>?_)
     ·refine VL [(79,80,true)] 7 [.bs (Et.int .u8) ([97]:List Int),.cv,.bs (Et.int .u8) ([98]:List Int),.cv,.bL (Et.int .u8) 5 ([([97]:List Int),([98]:List Int)]:List (List Int))] (aC hb25 (aR (aR (aR (aR (aR (aR aN))))))) ?_
      refine G4.imp (Imp.rowL 17 (by rfl)) ?_
      obtain ⟨v26,hv27,h⟩:=bd h
      refine VL [(79,80,true)] 1 [.cl true [8,17] (fun _=>c15 F v11 ([([97]:List Int),([98]:List Int)]:List (List Int)) _ hv27)] (aK aN) ?_
      refine V0 1 ?_
      refine CDS h (fun h hb28=>?_) (fun h hb28=>?_)
      ·refine VL [(88,89,true)] 4 [] (aC hb28 aN) ?_
       refine CDS h (fun h hb29=>?_) (fun h hb29=>?_)
       ·refine VL [(92,93,true)] 4 [] (aC hb29 aN) ?_
        refine CDS h (fun h hb30=>?_) (fun h hb30=>?_)
        ·refine VL [(96,97,true)] 4 [] (aC hb30 aN) ?_
         refine CDS h (fun h hb31=>?_) (fun h hb31=>?_)
         ·refine VL [(100,101,true)] 4 [] (aC hb31 aN) ?_
          refine CDS h (fun h hb32=>?_) (fun h hb32=>?_)
          ·refine VL [(104,105,true)] 4 [] (aC hb32 aN) ?_
           refine CDS h (fun h hb33=>?_) (fun h hb33=>?_)
           ·obtain ⟨v34,hv35,h⟩:=bd h
            refine VL [(108,109,true)] 7 [.bs (Et.int .u8) ([98]:List Int),.cv,.bs (Et.int .u8) ([122]:List Int),.cv,.cl true [0,1,2,18,19] (fun _=>c18 F v17.2.1 v3.2.1 v3.2.2.1 v3.2.2.2.1 v3.2.2.2.2.1 v17.2.2 ([98]:List Int) ([122]:List Int) 2 _ hv35)] (aC hb33 (aR (aR (aR (aR (aK aN)))))) ?_
            refine VL [(108,109,true)] 3 [] aN ?_
            refine V0 0 ?_
            obtain rfl:=sj h
            exact T_ tbOk.t Tryz.results6 []
           refine VL [(108,109,false)] 7 [] (aC hb33 aN) ?_
           refine VL [(108,109,false)] 3 [] aN ?_
           refine V0 0 ?_
           obtain rfl:=sj h
           exact T_ tbOk.t Tryz.results6 []
          refine VL [(104,105,false),(108,109,false)] 11 [] (aC hb32 (aC rfl aN)) ?_
          refine VL [(108,109,false)] 3 [] aN ?_
          refine V0 0 ?_
          obtain rfl:=sj h
          exact T_ tbOk.t Tryz.results6 []
         refine VL [(100,101,false),(104,105,false),(108,109,false)] 15 [] (aC hb31 (aC rfl (aC rfl aN))) ?_
         refine VL [(108,109,false)] 3 [] aN ?_
         refine V0 0 ?_
         obtain rfl:=sj h
         exact T_ tbOk.t Tryz.results6 []
        refine VL [(96,97,false),(100,101,false),(104,105,false),(108,109,false)] 19 [] (aC hb30 (aC rfl (aC rfl (aC rfl aN)))) ?_
        refine VL [(108,109,false)] 3 [] aN ?_
        refine V0 0 ?_
        obtain rfl:=sj h
        exact T_ tbOk.t Tryz.results6 []
       refine VL [(92,93,false),(96,97,false),(100,101,false),(104,105,false),(108,109,false)] 23 [] (aC hb29 (aC rfl (aC rfl (aC rfl (aC rfl aN))))) ?_
       refine VL [(108,109,false)] 3 [] aN ?_
       refine V0 0 ?_
       obtain rfl:=sj h
       exact T_ tbOk.t Tryz.results6 []
      refine VL [(88,89,false),(92,93,false),(96,97,false),(100,101,false),(104,105,false),(108,109,false)] 27 [] (aC hb28 (aC rfl (aC rfl (aC rfl (aC rfl (aC rfl aN)))))) ?_
      refine VL [(108,109,false)] 3 [] aN ?_
      refine V0 0 ?_
      obtain rfl:=sj h
      exact T_ tbOk.t Tryz.results6 []
     refine VL [(79,80,false)] 8 [] (aC hb25 aN) ?_
     refine VL [(88,89,false),(92,93,false),(96,97,false),(100,101,false),(104,105,false),(108,109,false)] 28 [] (aC rfl (aC rfl (aC rfl (aC rfl (aC rfl (aC rfl aN)))))) ?_
     refine VL [(108,109,false)] 3 [] aN ?_
     refine V0 0 ?_
     obtain rfl:=sj h
     exact T_ tbOk.t Tryz.results6 []
    refine VL [(75,76,false),(79,80,false)] 12 [] (aC hb24 (aC rfl aN)) ?_
    refine VL [(88,89,false),(92,93,false),(96,97,false),(100,101,false),(104,105,false),(108,109,false)] 28 [] (aC rfl (aC rfl (aC rfl (aC rfl (aC rfl (aC rfl aN)))))) ?_
    refine VL [(108,109,false)] 3 [] aN ?_
    refine V0 0 ?_
    obtain rfl:=sj h
    exact T_ tbOk.t Tryz.results6 []
   refine VL [(71,72,false),(75,76,false),(79,80,false)] 16 [] (aC hb23 (aC rfl (aC rfl aN))) ?_
   refine VL [(88,89,false),(92,93,false),(96,97,false),(100,101,false),(104,105,false),(108,109,false)] 28 [] (aC rfl (aC rfl (aC rfl (aC rfl (aC rfl (aC rfl aN)))))) ?_
   refine VL [(108,109,false)] 3 [] aN ?_
   refine V0 0 ?_
   obtain rfl:=sj h
   exact T_ tbOk.t Tryz.results6 []
  refine VL [(67,68,false),(71,72,false),(75,76,false),(79,80,false)] 20 [] (aC hb22 (aC rfl (aC rfl (aC rfl aN)))) ?_
  refine VL [(88,89,false),(92,93,false),(96,97,false),(100,101,false),(104,105,false),(108,109,false)] 28 [] (aC rfl (aC rfl (aC rfl (aC rfl (aC rfl (aC rfl aN)))))) ?_
  refine VL [(108,109,false)] 3 [] aN ?_
  refine V0 0 ?_
  obtain rfl:=sj h
  exact T_ tbOk.t Tryz.results6 []
 refine VL [(63,64,false),(67,68,false),(71,72,false),(75,76,false),(79,80,false)] 24 [] (aC hb21 (aC rfl (aC rfl (aC rfl (aC rfl aN))))) ?_
 refine VL [(88,89,false),(92,93,false),(96,97,false),(100,101,false),(104,105,false),(108,109,false)] 28 [] (aC rfl (aC rfl (aC rfl (aC rfl (aC rfl (aC rfl aN)))))) ?_
 refine VL [(108,109,false)] 3 [] aN ?_
 refine V0 0 ?_
 obtain rfl:=sj h
 exact T_ tbOk.t Tryz.results6 []
def fn54 (p0:Int) (p1:Int) (p2:Int):Bool :=
 (decide (p1≤p0))&&(decide (p0≤p2))
theorem c54 (p0:Int) (p1:Int) (p2:Int) (r:Bool) (h:fn54 p0 p1 p2=r):Con Tryz.prog 54 [vi p0,vi p1,vi p2] [] 0 (.v (.bool r)) [] 0:=by
 rw [fn54] at h
 refine Con.of_body Tryz.func54 rfl Tryz.ntmps54 rfl fun w F0 ρ gl=>?_
 refine V0 10 ?_
 subst h
 exact T_ tbOk.t Tryz.results54 []
def fn25 (p0:MSpec):Int :=
 bif p0.fKind == 1 then (bif !((p0.fKey == 4)&&((fn54 p0.fValue 1 1024)&&(fn54 p0.fEntries 1 1024))) then (2) else (0)) else (bif p0.fKind == 2 then (bif !((fn54 p0.fKey 1 64)&&((fn54 p0.fValue 1 1024)&&(fn54 p0.fEntries 1 1024))) then (2) else (0)) else (bif p0.fKind == 3 then (bif !((fn54 p0.fKey 1 64)&&((fn54 p0.fValue 1 1024)&&(fn54 p0.fEntries 1 1024))) then (2) else (0)) else (bif p0.fKind == 4 then (bif !((fn54 p0.fKey 5 36)&&((fn54 p0.fValue 1 1024)&&(fn54 p0.fEntries 1 1024))) then (2) else (0)) else (bif p0.fKind == 5 then (bif !((p0.fKey == 0)&&((fn54 p0.fValue 1 1024)&&(fn54 p0.fEntries 1 1024))) then (2) else (0)) else (bif p0.fKind == 6 then (bif !((p0.fKey == 0)&&((fn54 p0.fValue 1 1024)&&(fn54 p0.fEntries 1 1024))) then (2) else (0)) else (bif p0.fKind == 7 then (bif !(((p0.fKey == 0)&&(p0.fValue == 0))&&(fn54 p0.fEntries 16 16384)) then (2) else (0)) else (bif p0.fKind == 8 then (bif !(((p0.fKey == 4)&&(p0.fValue == 8))&&(fn54 p0.fEntries 1 64)) then (2) else (0)) else (9))))))))
theorem c25 (p0:MSpec) (r:Int) (h:fn25 p0=r):Con Tryz.prog 25 [.ag [vb p0.fKind,vi p0.fKey,vi p0.fValue,vi p0.fEntries]] [] 0 (vi r) [] 0:=by
 rw [fn25] at h
 refine Con.of_body Tryz.func25 rfl Tryz.ntmps25 rfl fun w F0 ρ gl=>?_
 refine V_ 6 [.cl true [] (fun _=>c54 p0.fValue 1 1024 _ rfl)] (aK aN) ?_
 refine V_ 10 [.cl (bif (fn54 p0.fValue 1 1024) then true else false) [] (fun _=>c54 p0.fEntries 1 1024 _ rfl)] (aR (aR (aK aN))) ?_
 refine C_ h (fun h hb1=>?_) fun h hb1=>?_
 ·refine V0 9 ?_
  refine C_ h (fun h hb2=>?_) fun h hb2=>?_
  ·refine V0 1 ?_
   subst h
   exact T_ tbOk.t Tryz.results25 []
  refine V0 1 ?_
  subst h
  exact T_ tbOk.t Tryz.results25 []
 refine V0 2 ?_
 refine C_ h (fun h hb3=>?_) fun h hb3=>?_
 ·refine V0 0 ?_
  refine CDT hb3 (by rfl) ?_
  refine V_ 3 [.cl true [] (fun _=>c54 p0.fKey 1 64 _ rfl)] (aK aN) ?_
  refine V0 6 ?_
  refine C_ h (fun h hb4=>?_) fun h hb4=>?_
  ·refine V0 1 ?_
   subst h
   exact T_ tbOk.t Tryz.results25 []
  refine V0 1 ?_
  subst h
  exact T_ tbOk.t Tryz.results25 []
 refine V0 2 ?_
 refine C_ h (fun h hb5=>?_) fun h hb5=>?_
 ·refine V_ 3 [.cl true [] (fun _=>c54 p0.fKey 1 64 _ rfl)] (aK aN) ?_
  refine V0 6 ?_
  refine C_ h (fun h hb6=>?_) fun h hb6=>?_
  ·refine V0 1 ?_
   subst h
   exact T_ tbOk.t Tryz.results25 []
  refine V0 1 ?_
  subst h
  exact T_ tbOk.t Tryz.results25 []
 refine V0 2 ?_
 refine C_ h (fun h hb7=>?_) fun h hb7=>?_
 ·refine V_ 3 [.cl true [] (fun _=>c54 p0.fKey 5 36 _ rfl)] (aK aN) ?_
  refine V0 6 ?_
  refine C_ h (fun h hb8=>?_) fun h hb8=>?_
  ·refine V0 1 ?_
   subst h
   exact T_ tbOk.t Tryz.results25 []
  refine V0 1 ?_
  subst h
  exact T_ tbOk.t Tryz.results25 []
 refine V0 2 ?_
 refine C_ h (fun h hb9=>?_) fun h hb9=>?_
 ·refine V0 0 ?_
  refine CDT hb9 (by rfl) ?_
  refine V0 9 ?_
  refine C_ h (fun h hb10=>?_) fun h hb10=>?_
  ·refine V0 1 ?_
   subst h
   exact T_ tbOk.t Tryz.results25 []
  refine V0 1 ?_
  subst h
  exact T_ tbOk.t Tryz.results25 []
 refine V0 2 ?_
 refine C_ h (fun h hb11=>?_) fun h hb11=>?_
 ·refine V0 9 ?_
  refine C_ h (fun h hb12=>?_) fun h hb12=>?_
  ·refine V0 1 ?_
   subst h
   exact T_ tbOk.t Tryz.results25 []
  refine V0 1 ?_
  subst h
  exact T_ tbOk.t Tryz.results25 []
 refine V0 2 ?_
 refine C_ h (fun h hb13=>?_) fun h hb13=>?_
 ·refine V_ 16 [.cl (bif (p0.fKey == 0)&&(p0.fValue == 0) then true else false) [] (fun _=>c54 p0.fEntries 16 16384 _ rfl)] (aR (aR (aK aN))) ?_
  refine C_ h (fun h hb14=>?_) fun h hb14=>?_
  ·refine V0 1 ?_
   subst h
   exact T_ tbOk.t Tryz.results25 []
  refine V0 1 ?_
  subst h
  exact T_ tbOk.t Tryz.results25 []
 refine V0 2 ?_
 refine C_ h (fun h hb15=>?_) fun h hb15=>?_
 ·refine V_ 16 [.cl (bif (p0.fKey == 4)&&(p0.fValue == 8) then true else false) [] (fun _=>c54 p0.fEntries 1 64 _ rfl)] (aR (aR (aK aN))) ?_
  refine C_ h (fun h hb16=>?_) fun h hb16=>?_
  ·refine V0 1 ?_
   subst h
   exact T_ tbOk.t Tryz.results25 []
  refine V0 1 ?_
  subst h
  exact T_ tbOk.t Tryz.results25 []
 refine V0 1 ?_
 subst h
 exact T_ tbOk.t Tryz.results25 []
def fn8_b1 (p0:MSpec) (rl1:(List RPlace)→Int→Option ((List RPlace))) (xs6:List RPlace) (x7:Int):Option ((List RPlace)) :=
 bif decide (x7 < p0.fEntries) then (bif decide ((0:Int)≤p0.fValue)&&decide (p0.fValue≤p0.fValue)&&decide ((1:Int) * p0.fValue≤281474976710656)&&decide (p0.fValue≤9223372036854775807) then (bif decide ((xs6.length+1) * 48≤140737488355328∧xs6.length+1≤9223372036854775807) then (rl1 (xs6++[(⟨false,(⟨#[]⟩:ByteArray),List.replicate p0.fValue.toNat 0⟩:RPlace)]) (IntKind.i64.wrap (x7+1))) else none) else none) else (some xs6)
def fn8_l1 (p0:MSpec):Nat→(List RPlace)→Int→Option ((List RPlace))
 | 0,_,_=>none
 | n14+1,xs6,x7=>fn8_b1 p0 (fn8_l1 p0 n14) xs6 x7
theorem fn8_l1_s (p0:MSpec) (n14:Nat) (xs6:List RPlace) (x7:Int):fn8_l1 p0 (n14+1) xs6 x7=fn8_b1 p0 (fn8_l1 p0 n14) xs6 x7:=rfl
def fn8_k1 (p0:MSpec) (xs11:List RPlace):Option ((Int⊕(Int×Int×Int×Int×(List RPlace)×Int))) :=
 some ((.inr (p0.fKind,p0.fKey,p0.fValue,p0.fEntries,xs11,0)))
def fn8 (F:Nat) (p0:MSpec):Option (Int⊕(Int×Int×Int×Int×(List RPlace)×Int)) :=
 bif (fn25 p0) != 0 then (some ((.inl (fn25 p0)))) else (bif p0.fKind != 2 then (some ((.inl 9))) else (Option.bind (fn8_l1 p0 F ([]:List RPlace) 0) fun o12=>(fn8_k1 p0 o12)))
theorem c8 (F:Nat) (p0:MSpec) (r:Int⊕(Int×Int×Int×Int×(List RPlace)×Int)) (h:fn8 F p0=some r):ConO Tryz.prog 8 [.ag [vb p0.fKind,vi p0.fKey,vi p0.fValue,vi p0.fEntries]] [] 0 (match r with | .inl r=>.ret (.tu [.v (.pointer none),vi r]) [] 0 | .inr r=>.ret (.tu [.p 0 0,vi r.2.2.2.2.2]) [(0,.cells 69 [vb r.1,vi r.2.1,vi r.2.2.1,vi r.2.2.2.1,.sl 1]),(1,.ex (pO RPlace.D 71 r.2.2.2.2.1) [])] 2):=by
 rw [fn8] at h
 refine ConO.of_body Tryz.func8 Tryz.ntmps8 fun w F0 ρ gl=>?_
 refine V_ 5 [.cl true [] (fun _=>c25 p0 _ rfl)] (aK aN) ?_
 refine V0 3 ?_
 refine C_ h (fun h hb1=>?_) fun h hb1=>?_
 ·refine V0 3 ?_
  obtain rfl:=sj h
  exact TO_ tbOk.t Tryz.results8 []
 refine V0 3 ?_
 refine C_ h (fun h hb2=>?_) fun h hb2=>?_
 ·refine V0 2 ?_
  obtain rfl:=sj h
  exact TO_ tbOk.t Tryz.results8 []
 refine V0 5 ?_
 refine G4.imp (Imp.nilOC RPlace.D 71 1 4 (by rfl) (by rfl) (by rfl)) ?_
 obtain ⟨o12,hl13,h⟩:=bd h
 refine CT 0 ⟨[(5,.p 0 0)],[(0,.cells 69 [vb p0.fKind,vi p0.fKey,vi p0.fValue,vi p0.fEntries,.sl 1]),(1,.ex (pO RPlace.D 71 o12) [])],2⟩ ?_ ?_
 ·have h016:=h
  clear h
  refine G4.imp (I_ [0,1,2]) (LP (fun (n:Nat) (s:(List RPlace)×Int)=>fn8_l1 p0 n s.1 s.2) (fun (s:(List RPlace)×Int)=>⟨[(1,.p 0 0),(5,.p 1 0),(6,vi s.2)],[(0,.cells 24 [vb p0.fKind,vi p0.fKey,vi p0.fValue,vi p0.fEntries]),(1,.cells 69 [vb p0.fKind,vi p0.fKey,vi p0.fValue,vi p0.fEntries,.sl 2]),(2,.ex (pO RPlace.D 71 s.1) [])],3⟩) (fun _=>rfl) (s0:=(([]:List RPlace),0)) hl13 ?_)
  clear hl13
  rintro R17 n14 ⟨xs6,x7⟩ h ih15
  replace h:=(fn8_l1_s p0 n14 xs6 x7).symm.trans h
  rw [fn8_b1] at h
  refine V0 4 ?_
  refine C_ h (fun h hb18=>?_) fun h hb18=>?_
  ·refine V0 0 ?_
   obtain ⟨hk19,h⟩:=ck h
   obtain ⟨hk20,h⟩:=ck h
   refine DR tbOk hmix [] [([],[]),([],[]),([],[]),([],[]),([1],[]),([],[]),([0],[]),([],[]),([],[]),([],[]),([2,3,4,5],[]),([],[]),([],[]),([1],[1])] [.ms (Et.int .u8) 0,.s1,.ao RPlace.D 71 _ (⟨false,(⟨#[]⟩:ByteArray),[]⟩:RPlace) _ _ _ 4 3 _] (aR (aR (aC hk19 (aR (aR (aR (aR (aR (aR (aC hk20 (aR aN))))))))))) (by rfl) ?_
   refine V0 3 ?_
   exact ih15 (xs6++[(⟨false,(⟨#[]⟩:ByteArray),List.replicate p0.fValue.toNat 0⟩:RPlace)],IntKind.i64.wrap (x7+1)) h _ _ (I_ [0,1,6])
  refine V0 0 ?_
  obtain rfl:=sj h
  exact CE (I_ [1,2])
 change fn8_k1 p0 o12=_ at h
 rw [fn8_k1] at h
 refine V0 3 ?_
 obtain rfl:=sj h
 exact TO_ tbOk.t Tryz.results8 [0,1]
theorem c8_0 (F:Nat) (p0:MSpec) (r:Int) (h:fn8 F p0=some (.inl r)):Con Tryz.prog 8 [.ag [vb p0.fKind,vi p0.fKey,vi p0.fValue,vi p0.fEntries]] [] 0 (.tu [.v (.pointer none),vi r]) [] 0:=c8 F p0 _ h
theorem c8_1 (F:Nat) (p0:MSpec) (r:Int×Int×Int×Int×(List RPlace)×Int) (h:fn8 F p0=some (.inr r)):Con Tryz.prog 8 [.ag [vb p0.fKind,vi p0.fKey,vi p0.fValue,vi p0.fEntries]] [] 0 (.tu [.p 0 0,vi r.2.2.2.2.2]) [(0,.cells 69 [vb r.1,vi r.2.1,vi r.2.2.1,vi r.2.2.2.1,.sl 1]),(1,.ex (pO RPlace.D 71 r.2.2.2.2.1) [])] 2:=c8 F p0 _ h
def fn90 (p0:Int) (p1:Int):Int :=
 IntKind.i64.wrap ((IntKind.i64.wrap ((1000003:Int) * (IntKind.i64.wrap (p0+7))))+p1)
theorem c90 (p0:Int) (p1:Int) (r:Int) (h:fn90 p0 p1=r):Con Tryz.prog 90 [vi p0,vi p1] [] 0 (vi r) [] 0:=by
 rw [fn90] at h
 refine Con.of_body Tryz.func90 rfl Tryz.ntmps90 rfl fun w F0 ρ gl=>?_
 refine V0 7 ?_
 subst h
 exact T_ tbOk.t Tryz.results90 []
def fn55 (p0:Int) (p1:Int):Int :=
 IntKind.u8.wrap (ishr .u64 (IntKind.u64.wrap ((IntKind.u64.wrap (fn90 p0 p1)) * 11400714819323198485)) 56)
theorem c55 (p0:Int) (p1:Int) (r:Int) (h:fn55 p0 p1=r):Con Tryz.prog 55 [vi p0,vi p1] [] 0 (vb r) [] 0:=by
 rw [fn55] at h
 refine Con.of_body Tryz.func55 rfl Tryz.ntmps55 rfl fun w F0 ρ gl=>?_
 refine V_ 4 [.cl true [] (fun _=>c90 p0 p1 _ rfl)] (aK aN) ?_
 refine V_ 5 [] (aC rfl aN) ?_
 subst h
 exact T_ tbOk.t Tryz.results55 []
def fn26_b1 (rl1:(List Int)→Int→Option ((List Int))) (xs5:List Int) (x6:Int):Option ((List Int)) :=
 bif decide (x6 < 12) then (bif decide ((xs5.length+([(fn55 1 x6)]:List Int).length) * 1≤140737488355328∧xs5.length+([(fn55 1 x6)]:List Int).length≤9223372036854775807) then (rl1 (xs5++([(fn55 1 x6)]:List Int)) (IntKind.i64.wrap (x6+1))) else none) else (some xs5)
def fn26_l1:Nat→(List Int)→Int→Option ((List Int))
 | 0,_,_=>none
 | n12+1,xs5,x6=>fn26_b1 (fn26_l1 n12) xs5 x6
theorem fn26_l1_s (n12:Nat) (xs5:List Int) (x6:Int):fn26_l1 (n12+1) xs5 x6=fn26_b1 (fn26_l1 n12) xs5 x6:=rfl
def fn26_k1 (p0:List Int) (xs9:List Int):Option (((List Int)×Nat)) :=
 bif sliceOk ((0:Nat):Int) (p0.length:Int) xs9.length then (some ((xs9,(p0.length:Int).toNat - ((0:Nat):Int).toNat))) else none
def fn26 (F:Nat) (p0:List Int):Option ((List Int)×Nat) :=
 bif decide ((0:Int)≤0)&&decide ((0:Int)≤IntKind.i64.wrap ((p0.length:Int)+12))&&decide ((1:Int) * (IntKind.i64.wrap ((p0.length:Int)+12))≤281474976710656)&&decide ((IntKind.i64.wrap ((p0.length:Int)+12))≤9223372036854775807) then (bif decide (((List.replicate (0:Int).toNat 0).length+p0.length) * 1≤140737488355328∧(List.replicate (0:Int).toNat 0).length+p0.length≤9223372036854775807) then (Option.bind (fn26_l1 F ((List.replicate (0:Int).toNat 0)++p0) 0) fun o10=>(fn26_k1 p0 o10)) else none) else none
theorem c26 (F:Nat) (p0:List Int) (r:(List Int)×Nat) (h:fn26 F p0=some r):Con Tryz.prog 26 [.sl 0] [(0,.rd (Et.int .u8) p0)] 1 (.sl 1) [(1,.vw (.ss 2 0 1 r.2)),(2,.row (Et.int .u8) 5 r.1 r.1.length .unk)] 3:=by
 rw [fn26] at h
 refine Con.of_body Tryz.func26 rfl Tryz.ntmps26 rfl fun w F0 ρ gl=>?_
 obtain ⟨hk1,h⟩:=ck h
 obtain ⟨hk2,h⟩:=ck h
 refine V_ 11 [.ms (Et.int .u8) 0,.ap (Et.int .u8) .unk _ _] (aC hk1 (aR (aR (aR (aC hk2 (aC rfl aN)))))) ?_
 obtain ⟨o10,hl11,h⟩:=bd h
 refine CT 0 ⟨[(0,.sl 0),(3,.sl 1)],[(0,.rd (Et.int .u8) p0),(1,.row (Et.int .u8) 5 o10 o10.length .unk)],2⟩ ?_ ?_
 ·have h014:=h
  clear h
  refine G4.imp (I_ [0,2]) (LP (fun (n:Nat) (s:(List Int)×Int)=>fn26_l1 n s.1 s.2) (fun (s:(List Int)×Int)=>⟨[(0,.sl 0),(3,.sl 1),(4,vi s.2)],[(0,.rd (Et.int .u8) p0),(1,.row (Et.int .u8) 5 s.1 s.1.length .unk)],2⟩) (fun _=>rfl) (s0:=((List.replicate (0:Int).toNat 0)++p0,0)) hl11 ?_)
  clear hl11
  rintro R15 n12 ⟨xs5,x6⟩ h ih13
  replace h:=(fn26_l1_s n12 xs5 x6).symm.trans h
  rw [fn26_b1] at h
  refine V0 2 ?_
  refine C_ h (fun h hb16=>?_) fun h hb16=>?_
  ·refine V_ 3 [.cl true [] (fun _=>c55 1 x6 _ rfl)] (aK aN) ?_
   obtain ⟨hk17,h⟩:=ck h
   refine V_ 6 [.bs (Et.int .u8) ([(fn55 1 x6)]:List Int),.ap (Et.int .u8) .unk _ _] (aR (aR (aR (aR (aC hk17 (aC rfl aN)))))) ?_
   exact ih13 (xs5++([(fn55 1 x6)]:List Int),IntKind.i64.wrap (x6+1)) h _ _ (I_ [0,3])
  refine V0 0 ?_
  obtain rfl:=sj h
  exact CE (I_ [0,1])
 change fn26_k1 p0 o10=_ at h
 rw [fn26_k1] at h
 obtain ⟨hk18,h⟩:=ck h
 refine V_ 5 [.sc] (aC hk18 aN) ?_
 obtain rfl:=sj h
 refine G4.imp (Imp.vwS 2 (by rfl)) ?_
 exact T_ tbOk.t Tryz.results26 [0,2,1]
def fn27 (p0:Int) (p1:Int):Option (Int) :=
 bif decide (p1 < 1) then (some (0)) else (bif p1 != 0 then (bif decide ((p0.tmod p1) < 0) then (some (IntKind.i64.wrap ((p0.tmod p1)+p1))) else (some (p0.tmod p1))) else none)
theorem c27 (p0:Int) (p1:Int) (r:Int) (h:fn27 p0 p1=some r):Con Tryz.prog 27 [vi p0,vi p1] [] 0 (vi r) [] 0:=by
 rw [fn27] at h
 refine Con.of_body Tryz.func27 rfl Tryz.ntmps27 rfl fun w F0 ρ gl=>?_
 refine V0 3 ?_
 refine C_ h (fun h hb1=>?_) fun h hb1=>?_
 ·refine V0 1 ?_
  obtain rfl:=sj h
  exact T_ tbOk.t Tryz.results27 []
 obtain ⟨hk2,h⟩:=ck h
 refine V_ 6 [] (aC hk2 aN) ?_
 refine C_ h (fun h hb3=>?_) fun h hb3=>?_
 ·refine V0 6 ?_
  obtain rfl:=sj h
  exact T_ tbOk.t Tryz.results27 []
 refine V0 2 ?_
 obtain rfl:=sj h
 exact T_ tbOk.t Tryz.results27 []
def fn56_b1 (p0:S_hatchwayref11_Hash) (p1:List Int) (rl1:Int→Option ((Unit)⊕(Int))) (x5:Int):Option ((Unit)⊕(Int)) :=
 bif decide (x5 < (p0.fl.length:Int)) then (bif inb x5 p0.fl.length then (bif (gt p0.fl x5).fis then (bif ((gt p0.fl x5).fkey).toList == (strOfNums p1).toList then (some (.inr (x5))) else (rl1 (IntKind.i64.wrap (x5+1)))) else (rl1 (IntKind.i64.wrap (x5+1)))) else none) else (some (.inl ()))
def fn56_l1 (p0:S_hatchwayref11_Hash) (p1:List Int):Nat→Int→Option ((Unit)⊕(Int))
 | 0,_=>none
 | n12+1,x5=>fn56_b1 p0 p1 (fn56_l1 p0 p1 n12) x5
theorem fn56_l1_s (p0:S_hatchwayref11_Hash) (p1:List Int) (n12:Nat) (x5:Int):fn56_l1 p0 p1 (n12+1) x5=fn56_b1 p0 p1 (fn56_l1 p0 p1 n12) x5:=rfl
def fn56_k1:Option (Int) :=
 some ((-1))
def fn56 (F:Nat) (p0:S_hatchwayref11_Hash) (p1:List Int):Option (Int) :=
 Option.bind (fn56_l1 p0 p1 F 0) fun o10=>(match o10 with | .inl u=>fn56_k1 | .inr u=>some u)
theorem c56 (F:Nat) (p0:S_hatchwayref11_Hash) (p1:List Int) (r:Int) (h:fn56 F p0 p1=some r):Con Tryz.prog 56 [.p 0 0,.sl 2] [(0,.cells 69 [vb p0.fS.fKind,vi p0.fS.fKey,vi p0.fS.fValue,vi p0.fS.fEntries,.sl 1]),(1,.ex (pO RPlace.D 71 p0.fl) []),(2,.rd (Et.int .u8) p1)] 3 (vi r) [(0,.cells 69 [vb p0.fS.fKind,vi p0.fS.fKey,vi p0.fS.fValue,vi p0.fS.fEntries,.sl 1]),(1,.ex (pO RPlace.D 71 p0.fl) [])] 3:=by
 rw [fn56] at h
 refine Con.of_body Tryz.func56 rfl Tryz.ntmps56 rfl fun w F0 ρ gl=>?_
 refine V0 2 ?_
 obtain ⟨o10,hl11,h⟩:=bd h
 refine CTS 0 (fun u20=>⟨[],[(0,.cells 69 [vb p0.fS.fKind,vi p0.fS.fKey,vi p0.fS.fValue,vi p0.fS.fEntries,.sl 1]),(1,.ex (pO RPlace.D 71 p0.fl) []),(2,.rd (Et.int .u8) p1)],3⟩) o10 ?_ (fun u20 hu20=>?_)
 ·have h014:=h
  clear h
  refine G4.imp (I_ [0,1,2]) (LP (fun (n:Nat) (s:Int)=>fn56_l1 p0 p1 n s) (fun (s:Int)=>⟨[(0,.p 0 0),(1,.sl 2),(5,vi s)],[(0,.cells 69 [vb p0.fS.fKind,vi p0.fS.fKey,vi p0.fS.fValue,vi p0.fS.fEntries,.sl 1]),(1,.ex (pO RPlace.D 71 p0.fl) []),(2,.rd (Et.int .u8) p1)],3⟩) (fun _=>rfl) (s0:=0) hl11 ?_)
  clear hl11
  rintro R15 n12 x5 h ih13
  replace h:=(fn56_l1_s p0 p1 n12 x5).symm.trans h
  rw [fn56_b1] at h
  refine V_ 7 [.no RPlace.D 71 _ none] (aR aN) ?_
  refine C_ h (fun h hb16=>?_) fun h hb16=>?_
  ·refine V0 0 ?_
   obtain ⟨hk17,h⟩:=ck h
   refine CDS h (fun h hb18=>?_) (fun h hb18=>?_)
   ·refine DR (tbOk.lit [(22,23,true)]) hmix [35] [([],[]),([],[]),([],[]),([0],[]),([],[]),([1],[]),([],[]),([1],[]),([],[]),([],[]),([],[]),([],[]),([0],[]),([],[]),([1],[]),([],[]),([1],[]),([],[]),([2],[]),([],[]),([],[])] [.io RPlace.D 71 _ none,.lp RPlace.D 71 _,.io RPlace.D 71 _ none,.lp RPlace.D 71 _,.b2 _] (aR (aR (aR (aC hk17 (aR (aR (aC hk17 (aC hb18 (aR (aR (aR (aC hk17 (aR (aR (aC hk17 (aR (aR aN))))))))))))))))) (by rfl) ?_
    refine V0 0 ?_
    refine C_ h (fun h hb19=>?_) fun h hb19=>?_
    ·refine V0 2 ?_
     obtain rfl:=sj h
     replace h:=h014
     refine V0 0 ?_
     obtain rfl:=sj h
     exact T_ tbOk.t Tryz.results56 [0,1,2]
    refine V0 3 ?_
    exact ih13 (IntKind.i64.wrap (x5+1)) h _ _ (I_ [0,1,2])
   refine DR (tbOk.lit [(22,23,false)]) hmix [35] [([],[]),([],[]),([],[]),([0],[]),([],[]),([1],[]),([],[]),([1],[]),([],[]),([],[]),([],[]),([],[]),([],[]),([],[]),([],[]),([],[]),([],[]),([],[]),([],[]),([],[]),([],[])] [.io RPlace.D 71 _ none,.lp RPlace.D 71 _] (aR (aR (aR (aC hk17 (aR (aR (aC hk17 (aC hb18 aN)))))))) (by rfl) ?_
   refine V0 0 ?_
   refine CF ?_
   refine V0 3 ?_
   exact ih13 (IntKind.i64.wrap (x5+1)) h _ _ (I_ [0,1,2])
  refine V0 0 ?_
  obtain rfl:=sj h
  exact CES _ rfl (I_ [0,1,2])
 subst hu20
 change fn56_k1=_ at h
 rw [fn56_k1] at h
 refine V0 1 ?_
 obtain rfl:=sj h
 exact T_ tbOk.t Tryz.results56 [0,1,2]
def fn28 (F:Nat) (p0:S_hatchwayref11_Hash) (p1:List Int):Option (Int×Int) :=
 bif (p1.length:Int) != p0.fS.fKey then (some ((0,2))) else (Option.bind (fn56 F p0 p1) fun v2=>(bif decide (v2 < 0) then (some ((0,6))) else (some ((v2,0)))))
theorem c28 (F:Nat) (p0:S_hatchwayref11_Hash) (p1:List Int) (r:Int×Int) (h:fn28 F p0 p1=some r):Con Tryz.prog 28 [.p 0 0,.sl 2] [(0,.cells 69 [vb p0.fS.fKind,vi p0.fS.fKey,vi p0.fS.fValue,vi p0.fS.fEntries,.sl 1]),(1,.ex (pO RPlace.D 71 p0.fl) []),(2,.rd (Et.int .u8) p1)] 3 (.tu [vi r.1,vi r.2]) [(0,.cells 69 [vb p0.fS.fKind,vi p0.fS.fKey,vi p0.fS.fValue,vi p0.fS.fEntries,.sl 1]),(1,.ex (pO RPlace.D 71 p0.fl) [])] 3:=by
 rw [fn28] at h
 refine Con.of_body Tryz.func28 rfl Tryz.ntmps28 rfl fun w F0 ρ gl=>?_
 refine V0 10 ?_
 refine C_ h (fun h hb1=>?_) fun h hb1=>?_
 ·refine V0 2 ?_
  obtain rfl:=sj h
  exact T_ tbOk.t Tryz.results28 [0,1,2]
 obtain ⟨v2,hv3,h⟩:=bd h
 refine V_ 3 [.cl true [0,1,2] (fun _=>c56 F p0 p1 _ hv3)] (aK aN) ?_
 refine V0 3 ?_
 refine C_ h (fun h hb4=>?_) fun h hb4=>?_
 ·refine V0 2 ?_
  obtain rfl:=sj h
  exact T_ tbOk.t Tryz.results28 [0,1,2]
 refine V0 3 ?_
 obtain rfl:=sj h
 exact T_ tbOk.t Tryz.results28 [0,1,2]
def fn33_b1 (p0:List Int) (p1:List Int) (rl1:Int→Option ((Unit)⊕(Bool))) (x8:Int):Option ((Unit)⊕(Bool)) :=
 bif decide (x8 < ((cutX p0 (((0:Nat):Int).toNat) (((0:Nat):Int).toNat+((IntKind.i64.wrap ((p1.length:Int)+12)).toNat - ((0:Nat):Int).toNat))).length:Int)) then (bif bif decide (x8 < (p1.length:Int)) then (inb x8 ((IntKind.i64.wrap ((p1.length:Int)+12)).toNat - ((0:Nat):Int).toNat)) else true then (bif bif decide (x8 < (p1.length:Int)) then (inb x8 p1.length) else true then (bif bif (decide (x8 < (p1.length:Int)))&&(!((gt (cutX p0 (((0:Nat):Int).toNat) (((0:Nat):Int).toNat+((IntKind.i64.wrap ((p1.length:Int)+12)).toNat - ((0:Nat):Int).toNat))) x8) == (gt p1 x8))) then true else (bif decide ((p1.length:Int)≤x8) then (inb x8 ((IntKind.i64.wrap ((p1.length:Int)+12)).toNat - ((0:Nat):Int).toNat)) else true) then (bif ((decide (x8 < (p1.length:Int)))&&(!((gt (cutX p0 (((0:Nat):Int).toNat) (((0:Nat):Int).toNat+((IntKind.i64.wrap ((p1.length:Int)+12)).toNat - ((0:Nat):Int).toNat))) x8) == (gt p1 x8))))||((decide ((p1.length:Int)≤x8))&&(!((gt (cutX p0 (((0:Nat):Int).toNat) (((0:Nat):Int).toNat+((IntKind.i64.wrap ((p1.length:Int)+12)).toNat - ((0:Nat):Int).toNat))) x8) == (fn55 1 (IntKind.i64.wrap (x8 - (p1.length:Int))))))) then (some (.inr (false))) else (rl1 (IntKind.i64.wrap (x8+1)))) else none) else none) else none) else (some (.inl ()))
def fn33_l1 (p0:List Int) (p1:List Int):Nat→Int→Option ((Unit)⊕(Bool))
 | 0,_=>none
 | n16+1,x8=>fn33_b1 p0 p1 (fn33_l1 p0 p1 n16) x8
theorem fn33_l1_s (p0:List Int) (p1:List Int) (n16:Nat) (x8:Int):fn33_l1 p0 p1 (n16+1) x8=fn33_b1 p0 p1 (fn33_l1 p0 p1 n16) x8:=rfl
def fn33_k1:Option (Bool) :=
 some (true)
def fn33 (F:Nat) (p0:List Int) (p0_k:Nat) (p1:List Int):Option (Bool) :=
 bif ((cutX p0 0 (0+p0_k)).length:Int) != (p1.length:Int) then (some (false)) else (bif sliceOk ((0:Nat):Int) (IntKind.i64.wrap ((p1.length:Int)+12)) p0.length then (Option.bind (fn33_l1 p0 p1 F 0) fun o14=>(match o14 with | .inl u=>fn33_k1 | .inr u=>some u)) else none)
theorem c33 (F:Nat) (p0:List Int) (p0_k:Nat) (p1:List Int) (r:Bool) (h:fn33 F p0 p0_k p1=some r):Con Tryz.prog 33 [.sl 0,.sl 2] [(0,.vw (.ss 1 0 1 p0_k)),(1,.rd (Et.int .u8) p0),(2,.rd (Et.int .u8) p1)] 3 (.v (.bool r)) [(0,.vw (.ss 1 0 1 p0_k))] 3:=by
 rw [fn33] at h
 refine Con.of_body Tryz.func33 rfl Tryz.ntmps33 rfl fun w F0 ρ gl=>?_
 refine V0 6 ?_
 refine C_ h (fun h hb1=>?_) fun h hb1=>?_
 ·refine V0 1 ?_
  obtain rfl:=sj h
  exact T_ tbOk.t Tryz.results33 [0,1,2]
 obtain ⟨hk2,h⟩:=ck h
 refine V_ 7 [.sv] (aC rfl (aC hk2 aN)) ?_
 refine G4.imp (Imp.vwS 5 (by rfl)) ?_
 obtain ⟨o14,hl15,h⟩:=bd h
 refine CTS 0 (fun u25=>⟨[],[(0,.vw (.ss 1 0 1 p0_k)),(1,.rd (Et.int .u8) p0),(2,.rd (Et.int .u8) p1)],3⟩) o14 ?_ (fun u25 hu25=>?_)
 ·have h018:=h
  clear h
  refine G4.imp (I_ [0,1,2,3]) (LP (fun (n:Nat) (s:Int)=>fn33_l1 p0 p1 n s) (fun (s:Int)=>⟨[(1,.sl 2),(5,.sl 3),(6,vi s)],[(0,.vw (.ss 1 0 1 p0_k)),(1,.rd (Et.int .u8) p0),(2,.rd (Et.int .u8) p1),(3,.vw (.ss 1 (((0:Nat):Int).toNat) 1 ((IntKind.i64.wrap ((p1.length:Int)+12)).toNat - ((0:Nat):Int).toNat)))],4⟩) (fun _=>rfl) (s0:=0) hl15 ?_)
  clear hl15
  rintro R19 n16 x8 h ih17
  replace h:=(fn33_l1_s p0 p1 n16 x8).symm.trans h
  rw [fn33_b1] at h
  refine V0 4 ?_
  refine C_ h (fun h hb20=>?_) fun h hb20=>?_
  ·refine V0 0 ?_
   obtain ⟨hk21,h⟩:=ck h
   obtain ⟨hk22,h⟩:=ck h
   obtain ⟨hk23,h⟩:=ck h
   refine DR tbOk hmix [57] [([],[]),([],[]),([2],[]),([],[]),([],[]),([],[]),([],[]),([1,3],[]),([1,3],[]),([],[]),([],[]),([2],[]),([2],[]),([],[]),([],[]),([],[]),([],[]),([],[]),([],[]),([2],[]),([],[]),([],[]),([],[]),([],[]),([1,3],[]),([1,3],[]),([],[]),([],[]),([2],[]),([],[]),([],[]),([],[]),([],[]),([],[]),([],[])] [.cl (bif (decide (x8 < (p1.length:Int)))&&(!((gt (cutX p0 (((0:Nat):Int).toNat) (((0:Nat):Int).toNat+((IntKind.i64.wrap ((p1.length:Int)+12)).toNat - ((0:Nat):Int).toNat))) x8) == (gt p1 x8))) then false else (bif decide ((p1.length:Int)≤x8) then true else false)) [] (fun _=>c55 1 (IntKind.i64.wrap (x8 - (p1.length:Int))) _ rfl)] (aR (aC hk21 (aC hk22 (aC hk23 (aR (aR (aK aN))))))) (by rfl) ?_
   refine V0 0 ?_
   refine C_ h (fun h hb24=>?_) fun h hb24=>?_
   ·refine V0 1 ?_
    obtain rfl:=sj h
    replace h:=h018
    refine V0 0 ?_
    obtain rfl:=sj h
    exact T_ tbOk.t Tryz.results33 [0,1,2]
   refine V0 3 ?_
   exact ih17 (IntKind.i64.wrap (x8+1)) h _ _ (I_ [0,1,2,3])
  refine V0 0 ?_
  obtain rfl:=sj h
  exact CES _ rfl (I_ [0,1,2])
 subst hu25
 change fn33_k1=_ at h
 rw [fn33_k1] at h
 refine V0 1 ?_
 obtain rfl:=sj h
 exact T_ tbOk.t Tryz.results33 [0,1,2]
def fn39 (p0:List Int):Option ((List Int)) :=
 bif decide ((([]:List Int).length+p0.length) * 1≤140737488355328∧([]:List Int).length+p0.length≤9223372036854775807) then (some (([]:List Int)++p0)) else none
theorem c39 (p0:List Int) (r:(List Int)) (h:fn39 p0=some r):Con Tryz.prog 39 [.sl 0] [(0,.rd (Et.int .u8) p0)] 1 (.sl 1) [(1,.row (Et.int .u8) 5 r r.length .unk)] 2:=by
 rw [fn39] at h
 refine Con.of_body Tryz.func39 rfl Tryz.ntmps39 rfl fun w F0 ρ gl=>?_
 refine V0 2 ?_
 refine NT_ Tryz.runUnderlying36 (fun nb1 nz2=>?_)
 refine V0 0 ?_
 cases nb1 with
 | true=>
  have hx:=nz2 rfl
  subst hx
  replace h:some (([]:List Int))=some r:=by simpa using h
  refine CDT rfl (by rfl) ?_
  refine V0 1 ?_
  obtain rfl:=sj h
  refine G4.imp (Imp.nil (Et.int .u8) 5 2 (by rfl)) ?_
  refine G4.imp (Imp.row 1 (by rfl)) ?_
  exact T_ tbOk.t Tryz.results39 [0,1]
 | false =>
  refine CF ?_
  obtain ⟨hk3,h⟩:=ck h
  refine V_ 4 [.bs (Et.int .u8) ([]:List Int),.ap (Et.int .u8) .unk _ _] (aR (aR (aR (aR (aC hk3 (aC rfl aN)))))) ?_
  obtain rfl:=sj h
  exact T_ tbOk.t Tryz.results39 [0,2]
def fn37 (p0_0_0:List HCell) (p0_0_1:Int) (p0_0_2:Int) (p0_0_3:Int) (p0_0_4:Int) (p0_0_5:List (ByteArray×Int)) (p1:Int):Option (Int⊕((List Int))) :=
 frk2 (fn40 p0_0_0 p0_0_1 p0_0_2 p0_0_3 p0_0_4 p0_0_5 p1) (fun v1=>some ((.inl v1))) (fun v3=>bif inb v3 p0_0_0.length then (Option.bind (fn39 ((gt p0_0_0 v3).fthing)) fun v6=>(some ((.inr v6)))) else none)
theorem c37 (p0_0_0:List HCell) (p0_0_1:Int) (p0_0_2:Int) (p0_0_3:Int) (p0_0_4:Int) (p0_0_5:List (ByteArray×Int)) (p1:Int) (r:Int⊕((List Int))) (h:fn37 p0_0_0 p0_0_1 p0_0_2 p0_0_3 p0_0_4 p0_0_5 p1=some r):ConO Tryz.prog 37 [.p 0 0,.p 4 0] [(0,.cells 28 [.p 1 0]),(1,.cells 63 [.sl 2,vb p0_0_1,vi p0_0_2,vi p0_0_3,vi p0_0_4,.mp 3]),(2,.ex (pO HCell.D 65 p0_0_0) []),(3,.omap Kn.str (Vn.int .i64) p0_0_5),(4,.cells 3 [vi p1])] 5 (match r with | .inl r=>.pan (.iface 29 (.int .i64 r)) [(0,.cells 28 [.p 1 0]),(1,.cells 63 [.sl 2,vb p0_0_1,vi p0_0_2,vi p0_0_3,vi p0_0_4,.mp 3]),(2,.ex (pO HCell.D 65 p0_0_0) []),(3,.omap Kn.str (Vn.int .i64) p0_0_5),(4,.cells 3 [vi p1])] 5 | .inr r=>.ret (.sl 5) [(0,.cells 28 [.p 1 0]),(1,.cells 63 [.sl 2,vb p0_0_1,vi p0_0_2,vi p0_0_3,vi p0_0_4,.mp 3]),(2,.ex (pO HCell.D 65 p0_0_0) []),(3,.omap Kn.str (Vn.int .i64) p0_0_5),(4,.cells 3 [vi p1]),(5,.row (Et.int .u8) 5 r r.length .unk)] 6):=by
 rw [fn37] at h
 refine ConO.of_body Tryz.func37 Tryz.ntmps37 fun w F0 ρ gl=>?_
 refine V_ 3 [.cl true [1,2,3] (fun _=>c38 p0_0_0 p0_0_1 p0_0_2 p0_0_3 p0_0_4 p0_0_5 _ rfl)] (aK aN) ?_
 refine V0 0 ?_
 refine fk2 h (fun v1 hv2 h=>?_) (fun v3 hv4 h=>?_)
 ·refine DC_ tbOk hmix 4 [([0],[]),([],[]),([],[]),([4],[])] [] (aR (aR aN)) [1,2,3] (c40_0 p0_0_0 p0_0_1 p0_0_2 p0_0_3 p0_0_4 p0_0_5 p1 v1 hv2) (aK aN) [7,8] ?_
  refine V0 0 ?_
  obtain rfl:=sj h
  exact TP_ [0,1,2,3,4]
 obtain ⟨hk5,h⟩:=ck h
 obtain ⟨v6,hv7,h⟩:=bd h
 refine DR tbOk hmix [2] [([0],[]),([],[]),([],[]),([4],[]),([1,2,3],[]),([],[]),([],[]),([2],[2]),([5],[]),([],[])] [.cl true [1,2,3] (fun _=>c40_1 p0_0_0 p0_0_1 p0_0_2 p0_0_3 p0_0_4 p0_0_5 p1 v3 hv4),.lO HCell.D 65 _,.cl true [5] (fun _=>c39 ((gt p0_0_0 v3).fthing) _ hv7)] (aR (aR (aR (aK (aR (aR (aC hk5 (aR (aK aN))))))))) (by rfl) ?_
 refine V0 0 ?_
 refine G4.imp (Imp.closeS 2 5 (by rfl) (by rfl) (by rfl) rfl) ?_
 obtain rfl:=sj h
 exact TO_ tbOk.t Tryz.results37 [0,1,2,3,4,6]
theorem c37_0 (p0_0_0:List HCell) (p0_0_1:Int) (p0_0_2:Int) (p0_0_3:Int) (p0_0_4:Int) (p0_0_5:List (ByteArray×Int)) (p1:Int) (r:Int) (h:fn37 p0_0_0 p0_0_1 p0_0_2 p0_0_3 p0_0_4 p0_0_5 p1=some (.inl r)):ConX Tryz.prog 37 [.p 0 0,.p 4 0] [(0,.cells 28 [.p 1 0]),(1,.cells 63 [.sl 2,vb p0_0_1,vi p0_0_2,vi p0_0_3,vi p0_0_4,.mp 3]),(2,.ex (pO HCell.D 65 p0_0_0) []),(3,.omap Kn.str (Vn.int .i64) p0_0_5),(4,.cells 3 [vi p1])] 5 (.iface 29 (.int .i64 r)) [(0,.cells 28 [.p 1 0]),(1,.cells 63 [.sl 2,vb p0_0_1,vi p0_0_2,vi p0_0_3,vi p0_0_4,.mp 3]),(2,.ex (pO HCell.D 65 p0_0_0) []),(3,.omap Kn.str (Vn.int .i64) p0_0_5),(4,.cells 3 [vi p1])] 5:=c37 p0_0_0 p0_0_1 p0_0_2 p0_0_3 p0_0_4 p0_0_5 p1 _ h
theorem c37_1 (p0_0_0:List HCell) (p0_0_1:Int) (p0_0_2:Int) (p0_0_3:Int) (p0_0_4:Int) (p0_0_5:List (ByteArray×Int)) (p1:Int) (r:(List Int)) (h:fn37 p0_0_0 p0_0_1 p0_0_2 p0_0_3 p0_0_4 p0_0_5 p1=some (.inr r)):Con Tryz.prog 37 [.p 0 0,.p 4 0] [(0,.cells 28 [.p 1 0]),(1,.cells 63 [.sl 2,vb p0_0_1,vi p0_0_2,vi p0_0_3,vi p0_0_4,.mp 3]),(2,.ex (pO HCell.D 65 p0_0_0) []),(3,.omap Kn.str (Vn.int .i64) p0_0_5),(4,.cells 3 [vi p1])] 5 (.sl 5) [(0,.cells 28 [.p 1 0]),(1,.cells 63 [.sl 2,vb p0_0_1,vi p0_0_2,vi p0_0_3,vi p0_0_4,.mp 3]),(2,.ex (pO HCell.D 65 p0_0_0) []),(3,.omap Kn.str (Vn.int .i64) p0_0_5),(4,.cells 3 [vi p1]),(5,.row (Et.int .u8) 5 r r.length .unk)] 6:=c37 p0_0_0 p0_0_1 p0_0_2 p0_0_3 p0_0_4 p0_0_5 p1 _ h
def fn59 (p0:Int) (p1:List Int) (pe:Int):Int×(List Int) :=
 (pe,([]:List Int))
theorem c59 (p0:Int) (p1:List Int) (pe:Int) (r:Int×(List Int)) (h:fn59 p0 p1 pe=r):ConD Tryz.prog 59 [.p 0 0,.p 1 0] [(0,.cells 29 [vi p0]),(1,.cells 36 [.sl 2]),(2,.rd (Et.int .u8) p1)] 3 (.pan (.iface 29 (.int .i64 pe))) [(0,.cells 29 [vi r.1]),(1,.cells 36 [.sl 3]),(3,.row (Et.int .u8) 5 r.2 r.2.length .unk)] 4:=by
 rw [fn59] at h
 refine ConD.of_body Tryz.func59 Tryz.ntmps59 fun w F0 ρ gl=>?_
 refine V_ 2 [.ni] aN ?_
 refine CDT rfl (by rfl) ?_
 refine V_ 10 [.ta] aN ?_
 refine CF ?_
 refine V0 3 ?_
 subst h
 refine G4.imp (Imp.nilC (Et.int .u8) 5 1 0 (by rfl) (by rfl) (by rfl)) ?_
 refine G4.imp (Imp.row 3 (by rfl)) ?_
 exact TQN_ Tryz.results59 [0,1,2,3]
def fn59v1 (p0:Int) (p1:List Int):Unit :=
 ()
theorem c59v1 (p0:Int) (p1:List Int) (r:Unit) (h:fn59v1 p0 p1=r):ConD Tryz.prog 59 [.p 0 0,.p 1 0] [(0,.cells 29 [vi p0]),(1,.cells 36 [.sl 2]),(2,.rd (Et.int .u8) p1)] 3 .ret [(0,.cells 29 [vi p0]),(1,.cells 36 [.sl 2])] 3:=by
 rw [fn59v1] at h
 refine ConD.of_body Tryz.func59 Tryz.ntmps59 fun w F0 ρ gl=>?_
 refine V_ 2 [.ni] aN ?_
 refine CF ?_
 refine V0 0 ?_
 subst h
 exact TQN_ Tryz.results59 [0,1,2]
def fn36 (p0c0_0_0:List HCell) (p0c0_0_1:Int) (p0c0_0_2:Int) (p0c0_0_3:Int) (p0c0_0_4:Int) (p0c0_0_5:List (ByteArray×Int)) (p0c1:Int):Option ((List Int)×Int) :=
 frk2 (fn37 p0c0_0_0 p0c0_0_1 p0c0_0_2 p0c0_0_3 p0c0_0_4 p0c0_0_5 p0c1) (fun v2=>some (((fn59 0 ([]:List Int) v2).2,(fn59 0 ([]:List Int) v2).1))) (fun v4=>some ((v4,0)))
theorem c36 (p0c0_0_0:List HCell) (p0c0_0_1:Int) (p0c0_0_2:Int) (p0c0_0_3:Int) (p0c0_0_4:Int) (p0c0_0_5:List (ByteArray×Int)) (p0c1:Int) (r:(List Int)×Int) (h:fn36 p0c0_0_0 p0c0_0_1 p0c0_0_2 p0c0_0_3 p0c0_0_4 p0c0_0_5 p0c1=some r):ConO Tryz.prog 36 [.fn (.func 37) [] [.p 0 0,.p 4 0]] [(0,.cells 28 [.p 1 0]),(1,.cells 63 [.sl 2,vb p0c0_0_1,vi p0c0_0_2,vi p0c0_0_3,vi p0c0_0_4,.mp 3]),(2,.ex (pO HCell.D 65 p0c0_0_0) []),(3,.omap Kn.str (Vn.int .i64) p0c0_0_5),(4,.cells 3 [vi p0c1])] 5 (.ret (.tu [.sl 5,vi r.2]) [(0,.cells 28 [.p 1 0]),(1,.cells 63 [.sl 2,vb p0c0_0_1,vi p0c0_0_2,vi p0c0_0_3,vi p0c0_0_4,.mp 3]),(2,.ex (pO HCell.D 65 p0c0_0_0) []),(3,.omap Kn.str (Vn.int .i64) p0c0_0_5),(4,.cells 3 [vi p0c1]),(5,.row (Et.int .u8) 5 r.1 r.1.length .unk)] 6):=by
 rw [fn36] at h
 refine ConO.of_body Tryz.func36 Tryz.ntmps36 fun w F0 ρ gl=>?_
 refine V0 3 ?_
 refine DF_ (fun vs1=>?_)
 refine V0 1 ?_
 refine fk2 h (fun v2 hv3 h=>?_) (fun v4 hv5 h=>?_)
 ·refine V0 0 ?_
  refine CX_ tbOk [0,1,2,3,4] (c37_0 p0c0_0_0 p0c0_0_1 p0c0_0_2 p0c0_0_3 p0c0_0_4 p0c0_0_5 p0c1 v2 hv3) (aK aN) ?_
  refine V0 0 ?_
  refine G4.imp (Imp.nilC (Et.int .u8) 5 5 0 (by rfl) (by rfl) (by rfl)) ?_
  obtain rfl:=sj h
  exact TDP_ tbOk Tryz.results36 7 [6,5,8] (c59 0 ([]:List Int) v2 _ rfl) [0,1,2,3,4,9]
 refine V_ 1 [.cl true [0,1,2,3,4] (fun _=>c37_1 p0c0_0_0 p0c0_0_1 p0c0_0_2 p0c0_0_3 p0c0_0_4 p0c0_0_5 p0c1 v4 hv5)] (aK aN) ?_
 refine V0 2 ?_
 obtain rfl:=sj h
 exact TD_ tbOk Tryz.results36 7 [6,5,8] (c59v1 0 v4 _ rfl) [0,1,2,3,4,8]
theorem c36_0 (p0c0_0_0:List HCell) (p0c0_0_1:Int) (p0c0_0_2:Int) (p0c0_0_3:Int) (p0c0_0_4:Int) (p0c0_0_5:List (ByteArray×Int)) (p0c1:Int) (r:(List Int)×Int) (h:fn36 p0c0_0_0 p0c0_0_1 p0c0_0_2 p0c0_0_3 p0c0_0_4 p0c0_0_5 p0c1=some r):Con Tryz.prog 36 [.fn (.func 37) [] [.p 0 0,.p 4 0]] [(0,.cells 28 [.p 1 0]),(1,.cells 63 [.sl 2,vb p0c0_0_1,vi p0c0_0_2,vi p0c0_0_3,vi p0c0_0_4,.mp 3]),(2,.ex (pO HCell.D 65 p0c0_0_0) []),(3,.omap Kn.str (Vn.int .i64) p0c0_0_5),(4,.cells 3 [vi p0c1])] 5 (.tu [.sl 5,vi r.2]) [(0,.cells 28 [.p 1 0]),(1,.cells 63 [.sl 2,vb p0c0_0_1,vi p0c0_0_2,vi p0c0_0_3,vi p0c0_0_4,.mp 3]),(2,.ex (pO HCell.D 65 p0c0_0_0) []),(3,.omap Kn.str (Vn.int .i64) p0c0_0_5),(4,.cells 3 [vi p0c1]),(5,.row (Et.int .u8) 5 r.1 r.1.length .unk)] 6:=c36 p0c0_0_0 p0c0_0_1 p0c0_0_2 p0c0_0_3 p0c0_0_4 p0c0_0_5 p0c1 _ h
def fn10 (p0_0:List HCell) (p0_1:Int) (p0_2:Int) (p0_3:Int) (p0_4:Int) (p0_5:List (ByteArray×Int)) (p1:Int):Option ((List Int)×Int) :=
 frk1 (fn36 p0_0 p0_1 p0_2 p0_3 p0_4 p0_5 p1) (fun v1=>some ((v1.1,v1.2)))
theorem c10 (p0_0:List HCell) (p0_1:Int) (p0_2:Int) (p0_3:Int) (p0_4:Int) (p0_5:List (ByteArray×Int)) (p1:Int) (r:(List Int)×Int) (h:fn10 p0_0 p0_1 p0_2 p0_3 p0_4 p0_5 p1=some r):Con Tryz.prog 10 [.p 0 0,vi p1] [(0,.cells 63 [.sl 1,vb p0_1,vi p0_2,vi p0_3,vi p0_4,.mp 2]),(1,.ex (pO HCell.D 65 p0_0) []),(2,.omap Kn.str (Vn.int .i64) p0_5)] 3 (.tu [.sl 3,vi r.2]) [(0,.cells 63 [.sl 1,vb p0_1,vi p0_2,vi p0_3,vi p0_4,.mp 2]),(1,.ex (pO HCell.D 65 p0_0) []),(2,.omap Kn.str (Vn.int .i64) p0_5),(3,.row (Et.int .u8) 5 r.1 r.1.length .unk)] 4:=by
 rw [fn10] at h
 refine Con.of_body Tryz.func10 rfl Tryz.ntmps10 rfl fun w F0 ρ gl=>?_
 refine V0 5 ?_
 refine fk1 h (fun v1 hv2 h=>?_)
 refine V_ 1 [.cl true [3,0,1,2,4] (fun _=>c36_0 p0_0 p0_1 p0_2 p0_3 p0_4 p0_5 p1 v1 hv2)] (aK aN) ?_
 refine V0 4 ?_
 obtain rfl:=sj h
 exact T_ tbOk.t Tryz.results10 [0,1,2,5]
def fn11 (p0:S_hatchwayref11_Hash) (p1:Int):Option ((List Int)×Int) :=
 bif decide (p1 < 0) then (some ((([]:List Int),6))) else (bif decide ((p0.fl.length:Int)≤p1) then (some ((([]:List Int),6))) else (bif inb p1 p0.fl.length then (bif decide ((([]:List Int).length+((gt p0.fl p1).fb).length) * 1≤140737488355328∧([]:List Int).length+((gt p0.fl p1).fb).length≤9223372036854775807) then (some ((([]:List Int)++((gt p0.fl p1).fb),0))) else none) else none))
theorem c11 (p0:S_hatchwayref11_Hash) (p1:Int) (r:(List Int)×Int) (h:fn11 p0 p1=some r):Con Tryz.prog 11 [.p 0 0,vi p1] [(0,.cells 69 [vb p0.fS.fKind,vi p0.fS.fKey,vi p0.fS.fValue,vi p0.fS.fEntries,.sl 1]),(1,.ex (pO RPlace.D 71 p0.fl) [])] 2 (.tu [.sl 2,vi r.2]) [(0,.cells 69 [vb p0.fS.fKind,vi p0.fS.fKey,vi p0.fS.fValue,vi p0.fS.fEntries,.sl 1]),(1,.ex (pO RPlace.D 71 p0.fl) []),(2,.row (Et.int .u8) 5 r.1 r.1.length .unk)] 3:=by
 rw [fn11] at h
 refine Con.of_body Tryz.func11 rfl Tryz.ntmps11 rfl fun w F0 ρ gl=>?_
 refine V0 4 ?_
 refine CDS h (fun h hb1=>?_) (fun h hb1=>?_)
 ·refine VL [(7,8,true)] 9 [] (aC hb1 aN) ?_
  refine V0 0 ?_
  refine CDT rfl (by rfl) ?_
  refine V0 2 ?_
  obtain rfl:=sj h
  refine G4.imp (Imp.nil (Et.int .u8) 5 4 (by rfl)) ?_
  refine G4.imp (Imp.row 2 (by rfl)) ?_
  exact T_ tbOk.t Tryz.results11 [0,1,2]
 refine VL [(7,8,false)] 9 [.no RPlace.D 71 _ none] (aC hb1 (aR aN)) ?_
 refine V0 0 ?_
 refine C_ h (fun h hb2=>?_) fun h hb2=>?_
 ·refine V0 2 ?_
  obtain rfl:=sj h
  refine G4.imp (Imp.nil (Et.int .u8) 5 4 (by rfl)) ?_
  refine G4.imp (Imp.row 2 (by rfl)) ?_
  exact T_ tbOk.t Tryz.results11 [0,1,2]
 obtain ⟨hk3,h⟩:=ck h
 obtain ⟨hk4,h⟩:=ck h
 refine V_ 12 [.bs (Et.int .u8) ([]:List Int),.io RPlace.D 71 _ none,.lO RPlace.D 71 _,.ap (Et.int .u8) .unk _ _] (aR (aR (aR (aC hk3 (aR (aC hk3 (aR (aR (aC hk4 (aC rfl aN)))))))))) ?_
 refine G4.imp (Imp.closeS 1 3 (by rfl) (by rfl) (by rfl) rfl) ?_
 obtain rfl:=sj h
 exact T_ tbOk.t Tryz.results11 [0,1,4]
def fn57 (p0_0_0:List HCell) (p0_0_1:Int) (p0_0_2:Int) (p0_0_3:Int) (p0_0_4:Int) (p0_0_5:List (ByteArray×Int)) (p1:Int) (p2:Int) (p3:List Int):Option (((List HCell)×Int)⊕(Int×(List HCell))) :=
 frk2 (fn40 p0_0_0 p0_0_1 p0_0_2 p0_0_3 p0_0_4 p0_0_5 p1) (fun v1=>some ((.inl (p0_0_0,v1)))) (fun v3=>bif inb v3 p0_0_0.length then (frk2 (fn24 (((decide ((0:Int)≤p2))&&(decide (p2≤(((gt p0_0_0 v3).fthing).length:Int))))&&(decide ((p3.length:Int)≤(IntKind.i64.wrap ((((gt p0_0_0 v3).fthing).length:Int) - p2))))) 32) (fun v6=>some ((.inl (p0_0_0,v6)))) (fun v8=>bif sliceOk p2 ((((gt p0_0_0 v3).fthing).length:Nat):Int) (((gt p0_0_0 v3).fthing).length) then (some ((.inr (((min p3.length ((p2.toNat+(((((gt p0_0_0 v3).fthing).length:Nat):Int).toNat - p2.toNat)) - p2.toNat):Nat):Int),p0_0_0.set v3.toNat (⟨(gt p0_0_0 v3).fused,pasteX ((gt p0_0_0 v3).fthing) p2.toNat (p3.take ((p2.toNat+(((((gt p0_0_0 v3).fthing).length:Nat):Int).toNat - p2.toNat)) - p2.toNat))⟩:HCell))))) else none)) else none)
theorem c57 (p0_0_0:List HCell) (p0_0_1:Int) (p0_0_2:Int) (p0_0_3:Int) (p0_0_4:Int) (p0_0_5:List (ByteArray×Int)) (p1:Int) (p2:Int) (p3:List Int) (r:((List HCell)×Int)⊕(Int×(List HCell))) (h:fn57 p0_0_0 p0_0_1 p0_0_2 p0_0_3 p0_0_4 p0_0_5 p1 p2 p3=some r):ConO Tryz.prog 57 [.p 0 0,.p 4 0,.p 5 0,.p 6 0] [(0,.cells 28 [.p 1 0]),(1,.cells 63 [.sl 2,vb p0_0_1,vi p0_0_2,vi p0_0_3,vi p0_0_4,.mp 3]),(2,.ex (pO HCell.D 65 p0_0_0) []),(3,.omap Kn.str (Vn.int .i64) p0_0_5),(4,.cells 3 [vi p1]),(5,.cells 3 [vi p2]),(6,.cells 36 [.sl 7]),(7,.rd (Et.int .u8) p3)] 8 (match r with | .inl r=>.pan (.iface 29 (.int .i64 r.2)) [(0,.cells 28 [.p 1 0]),(1,.cells 63 [.sl 2,vb p0_0_1,vi p0_0_2,vi p0_0_3,vi p0_0_4,.mp 3]),(2,.ex (pO HCell.D 65 r.1) []),(3,.omap Kn.str (Vn.int .i64) p0_0_5),(4,.cells 3 [vi p1]),(5,.cells 3 [vi p2]),(6,.cells 36 [.sl 7])] 8 | .inr r=>.ret (vi r.1) [(0,.cells 28 [.p 1 0]),(1,.cells 63 [.sl 2,vb p0_0_1,vi p0_0_2,vi p0_0_3,vi p0_0_4,.mp 3]),(2,.ex (pO HCell.D 65 r.2) []),(3,.omap Kn.str (Vn.int .i64) p0_0_5),(4,.cells 3 [vi p1]),(5,.cells 3 [vi p2]),(6,.cells 36 [.sl 7])] 8):=by
 rw [fn57] at h
 refine ConO.of_body Tryz.func57 Tryz.ntmps57 fun w F0 ρ gl=>?_
 refine V_ 3 [.cl true [1,2,3] (fun _=>c38 p0_0_0 p0_0_1 p0_0_2 p0_0_3 p0_0_4 p0_0_5 _ rfl)] (aK aN) ?_
 refine V0 0 ?_
 refine fk2 h (fun v1 hv2 h=>?_) (fun v3 hv4 h=>?_)
 ·refine DC_ tbOk hmix 4 [([0],[]),([],[]),([],[]),([4],[])] [] (aR (aR aN)) [1,2,3] (c40_0 p0_0_0 p0_0_1 p0_0_2 p0_0_3 p0_0_4 p0_0_5 p1 v1 hv2) (aK aN) [10,11] ?_
  refine V0 0 ?_
  obtain rfl:=sj h
  exact TP_ [0,1,2,3,4,5,6,7]
 obtain ⟨hk5,h⟩:=ck h
 refine DR tbOk hmix [5] [([0],[]),([],[]),([],[]),([4],[]),([1,2,3],[]),([],[]),([],[]),([2],[2]),([],[])] [.cl true [1,2,3] (fun _=>c40_1 p0_0_0 p0_0_1 p0_0_2 p0_0_3 p0_0_4 p0_0_5 p1 v3 hv4),.lO HCell.D 65 _] (aR (aR (aR (aK (aR (aR (aC hk5 aN))))))) (by rfl) ?_
 refine V0 17 ?_
 refine fk2 h (fun v6 hv7 h=>?_) (fun v8 hv9 h=>?_)
 ·refine V0 0 ?_
  refine G4.imp Imp.refl ?_
  refine CX_ tbOk [] (c24_0 (((decide ((0:Int)≤p2))&&(decide (p2≤(((gt p0_0_0 v3).fthing).length:Int))))&&(decide ((p3.length:Int)≤(IntKind.i64.wrap ((((gt p0_0_0 v3).fthing).length:Int) - p2))))) 32 v6 hv7) (aK aN) ?_
  refine V0 0 ?_
  obtain rfl:=sj h
  refine G4.imp (Imp.closeS 2 8 (by rfl) (by rfl) (by rfl) rfl) ?_
  exact TP_ [0,1,2,3,4,5,6,7]
 refine V_ 1 [.cl true [] (fun _=>c24_1 (((decide ((0:Int)≤p2))&&(decide (p2≤(((gt p0_0_0 v3).fthing).length:Int))))&&(decide ((p3.length:Int)≤(IntKind.i64.wrap ((((gt p0_0_0 v3).fthing).length:Int) - p2))))) 32 v8 hv9)] (aK aN) ?_
 obtain ⟨hk10,h⟩:=ck h
 refine DR tbOk hmix [4] [([],[]),([5],[]),([8],[]),([6],[]),([7,8],[8]),([],[])] [.sc,.co (Et.int .u8) 8 _ _] (aR (aR (aC hk10 (aR (aR (aR (aR (aC (ssB hk10) aN)))))))) (by rfl) ?_
 refine V0 0 ?_
 refine G4.imp (Imp.closeO 2 8 (by rfl) (by rfl) (by rfl)) ?_
 obtain rfl:=sj h
 exact TO_ tbOk.t Tryz.results57 [0,1,2,3,4,5,6,7]
theorem c57_0 (p0_0_0:List HCell) (p0_0_1:Int) (p0_0_2:Int) (p0_0_3:Int) (p0_0_4:Int) (p0_0_5:List (ByteArray×Int)) (p1:Int) (p2:Int) (p3:List Int) (r:(List HCell)×Int) (h:fn57 p0_0_0 p0_0_1 p0_0_2 p0_0_3 p0_0_4 p0_0_5 p1 p2 p3=some (.inl r)):ConX Tryz.prog 57 [.p 0 0,.p 4 0,.p 5 0,.p 6 0] [(0,.cells 28 [.p 1 0]),(1,.cells 63 [.sl 2,vb p0_0_1,vi p0_0_2,vi p0_0_3,vi p0_0_4,.mp 3]),(2,.ex (pO HCell.D 65 p0_0_0) []),(3,.omap Kn.str (Vn.int .i64) p0_0_5),(4,.cells 3 [vi p1]),(5,.cells 3 [vi p2]),(6,.cells 36 [.sl 7]),(7,.rd (Et.int .u8) p3)] 8 (.iface 29 (.int .i64 r.2)) [(0,.cells 28 [.p 1 0]),(1,.cells 63 [.sl 2,vb p0_0_1,vi p0_0_2,vi p0_0_3,vi p0_0_4,.mp 3]),(2,.ex (pO HCell.D 65 r.1) []),(3,.omap Kn.str (Vn.int .i64) p0_0_5),(4,.cells 3 [vi p1]),(5,.cells 3 [vi p2]),(6,.cells 36 [.sl 7])] 8:=c57 p0_0_0 p0_0_1 p0_0_2 p0_0_3 p0_0_4 p0_0_5 p1 p2 p3 _ h
theorem c57_1 (p0_0_0:List HCell) (p0_0_1:Int) (p0_0_2:Int) (p0_0_3:Int) (p0_0_4:Int) (p0_0_5:List (ByteArray×Int)) (p1:Int) (p2:Int) (p3:List Int) (r:Int×(List HCell)) (h:fn57 p0_0_0 p0_0_1 p0_0_2 p0_0_3 p0_0_4 p0_0_5 p1 p2 p3=some (.inr r)):Con Tryz.prog 57 [.p 0 0,.p 4 0,.p 5 0,.p 6 0] [(0,.cells 28 [.p 1 0]),(1,.cells 63 [.sl 2,vb p0_0_1,vi p0_0_2,vi p0_0_3,vi p0_0_4,.mp 3]),(2,.ex (pO HCell.D 65 p0_0_0) []),(3,.omap Kn.str (Vn.int .i64) p0_0_5),(4,.cells 3 [vi p1]),(5,.cells 3 [vi p2]),(6,.cells 36 [.sl 7]),(7,.rd (Et.int .u8) p3)] 8 (vi r.1) [(0,.cells 28 [.p 1 0]),(1,.cells 63 [.sl 2,vb p0_0_1,vi p0_0_2,vi p0_0_3,vi p0_0_4,.mp 3]),(2,.ex (pO HCell.D 65 r.2) []),(3,.omap Kn.str (Vn.int .i64) p0_0_5),(4,.cells 3 [vi p1]),(5,.cells 3 [vi p2]),(6,.cells 36 [.sl 7])] 8:=c57 p0_0_0 p0_0_1 p0_0_2 p0_0_3 p0_0_4 p0_0_5 p1 p2 p3 _ h
def fn45v2 (p0c0_0_0:List HCell) (p0c0_0_1:Int) (p0c0_0_2:Int) (p0c0_0_3:Int) (p0c0_0_4:Int) (p0c0_0_5:List (ByteArray×Int)) (p0c1:Int) (p0c2:Int) (p0c3:List Int):Option (Int×Int×(List HCell)) :=
 frk2 (fn57 p0c0_0_0 p0c0_0_1 p0c0_0_2 p0c0_0_3 p0c0_0_4 p0c0_0_5 p0c1 p0c2 p0c3) (fun v2=>some (((fn87 0 0 v2.2).2,(fn87 0 0 v2.2).1,v2.1))) (fun v4=>some ((v4.1,0,v4.2)))
theorem c45v2 (p0c0_0_0:List HCell) (p0c0_0_1:Int) (p0c0_0_2:Int) (p0c0_0_3:Int) (p0c0_0_4:Int) (p0c0_0_5:List (ByteArray×Int)) (p0c1:Int) (p0c2:Int) (p0c3:List Int) (r:Int×Int×(List HCell)) (h:fn45v2 p0c0_0_0 p0c0_0_1 p0c0_0_2 p0c0_0_3 p0c0_0_4 p0c0_0_5 p0c1 p0c2 p0c3=some r):ConO Tryz.prog 45 [.fn (.func 57) [] [.p 0 0,.p 4 0,.p 5 0,.p 6 0]] [(0,.cells 28 [.p 1 0]),(1,.cells 63 [.sl 2,vb p0c0_0_1,vi p0c0_0_2,vi p0c0_0_3,vi p0c0_0_4,.mp 3]),(2,.ex (pO HCell.D 65 p0c0_0_0) []),(3,.omap Kn.str (Vn.int .i64) p0c0_0_5),(4,.cells 3 [vi p0c1]),(5,.cells 3 [vi p0c2]),(6,.cells 36 [.sl 7]),(7,.rd (Et.int .u8) p0c3)] 8 (.ret (.tu [vi r.1,vi r.2.1]) [(0,.cells 28 [.p 1 0]),(1,.cells 63 [.sl 2,vb p0c0_0_1,vi p0c0_0_2,vi p0c0_0_3,vi p0c0_0_4,.mp 3]),(2,.ex (pO HCell.D 65 r.2.2) []),(3,.omap Kn.str (Vn.int .i64) p0c0_0_5),(4,.cells 3 [vi p0c1]),(5,.cells 3 [vi p0c2]),(6,.cells 36 [.sl 7])] 8):=by
 rw [fn45v2] at h
 refine ConO.of_body Tryz.func45 Tryz.ntmps45 fun w F0 ρ gl=>?_
 refine V0 3 ?_
 refine DF_ (fun vs1=>?_)
 refine V0 1 ?_
 refine fk2 h (fun v2 hv3 h=>?_) (fun v4 hv5 h=>?_)
 ·refine V0 0 ?_
  refine CX_ tbOk [0,1,2,3,4,5,6,7] (c57_0 p0c0_0_0 p0c0_0_1 p0c0_0_2 p0c0_0_3 p0c0_0_4 p0c0_0_5 p0c1 p0c2 p0c3 v2 hv3) (aK aN) ?_
  refine V0 0 ?_
  obtain rfl:=sj h
  exact TDP_ tbOk Tryz.results45 10 [9,8] (c87 0 0 v2.2 _ rfl) [0,1,2,3,4,5,6,7]
 refine V_ 1 [.cl true [0,1,2,3,4,5,6,7] (fun _=>c57_1 p0c0_0_0 p0c0_0_1 p0c0_0_2 p0c0_0_3 p0c0_0_4 p0c0_0_5 p0c1 p0c2 p0c3 v4 hv5)] (aK aN) ?_
 refine V0 2 ?_
 obtain rfl:=sj h
 exact TD_ tbOk Tryz.results45 10 [9,8] (c87v1 0 v4.1 _ rfl) [0,1,2,3,4,5,6,7]
theorem c45v2_0 (p0c0_0_0:List HCell) (p0c0_0_1:Int) (p0c0_0_2:Int) (p0c0_0_3:Int) (p0c0_0_4:Int) (p0c0_0_5:List (ByteArray×Int)) (p0c1:Int) (p0c2:Int) (p0c3:List Int) (r:Int×Int×(List HCell)) (h:fn45v2 p0c0_0_0 p0c0_0_1 p0c0_0_2 p0c0_0_3 p0c0_0_4 p0c0_0_5 p0c1 p0c2 p0c3=some r):Con Tryz.prog 45 [.fn (.func 57) [] [.p 0 0,.p 4 0,.p 5 0,.p 6 0]] [(0,.cells 28 [.p 1 0]),(1,.cells 63 [.sl 2,vb p0c0_0_1,vi p0c0_0_2,vi p0c0_0_3,vi p0c0_0_4,.mp 3]),(2,.ex (pO HCell.D 65 p0c0_0_0) []),(3,.omap Kn.str (Vn.int .i64) p0c0_0_5),(4,.cells 3 [vi p0c1]),(5,.cells 3 [vi p0c2]),(6,.cells 36 [.sl 7]),(7,.rd (Et.int .u8) p0c3)] 8 (.tu [vi r.1,vi r.2.1]) [(0,.cells 28 [.p 1 0]),(1,.cells 63 [.sl 2,vb p0c0_0_1,vi p0c0_0_2,vi p0c0_0_3,vi p0c0_0_4,.mp 3]),(2,.ex (pO HCell.D 65 r.2.2) []),(3,.omap Kn.str (Vn.int .i64) p0c0_0_5),(4,.cells 3 [vi p0c1]),(5,.cells 3 [vi p0c2]),(6,.cells 36 [.sl 7])] 8:=c45v2 p0c0_0_0 p0c0_0_1 p0c0_0_2 p0c0_0_3 p0c0_0_4 p0c0_0_5 p0c1 p0c2 p0c3 _ h
def fn29 (p0_0:List HCell) (p0_1:Int) (p0_2:Int) (p0_3:Int) (p0_4:Int) (p0_5:List (ByteArray×Int)) (p1:Int) (p2:Int) (p3:List Int):Option (Int×(List HCell)) :=
 frk1 (fn45v2 p0_0 p0_1 p0_2 p0_3 p0_4 p0_5 p1 p2 p3) (fun v1=>some ((v1.2.1,v1.2.2)))
theorem c29 (p0_0:List HCell) (p0_1:Int) (p0_2:Int) (p0_3:Int) (p0_4:Int) (p0_5:List (ByteArray×Int)) (p1:Int) (p2:Int) (p3:List Int) (r:Int×(List HCell)) (h:fn29 p0_0 p0_1 p0_2 p0_3 p0_4 p0_5 p1 p2 p3=some r):Con Tryz.prog 29 [.p 0 0,vi p1,vi p2,.sl 3] [(0,.cells 63 [.sl 1,vb p0_1,vi p0_2,vi p0_3,vi p0_4,.mp 2]),(1,.ex (pO HCell.D 65 p0_0) []),(2,.omap Kn.str (Vn.int .i64) p0_5),(3,.rd (Et.int .u8) p3)] 4 (vi r.1) [(0,.cells 63 [.sl 1,vb p0_1,vi p0_2,vi p0_3,vi p0_4,.mp 2]),(1,.ex (pO HCell.D 65 r.2) []),(2,.omap Kn.str (Vn.int .i64) p0_5)] 4:=by
 rw [fn29] at h
 refine Con.of_body Tryz.func29 rfl Tryz.ntmps29 rfl fun w F0 ρ gl=>?_
 refine V0 6 ?_
 refine fk1 h (fun v1 hv2 h=>?_)
 refine V_ 1 [.cl true [4,0,1,2,5,6,7,3] (fun _=>c45v2_0 p0_0 p0_1 p0_2 p0_3 p0_4 p0_5 p1 p2 p3 v1 hv2)] (aK aN) ?_
 refine V0 7 ?_
 obtain rfl:=sj h
 exact T_ tbOk.t Tryz.results29 [0,1,2,3]
def fn30 (p0:S_hatchwayref11_Hash) (p1:Int) (p2:Int) (p3:List Int):Option (Int×(List RPlace)) :=
 bif decide (p1 < 0) then (some ((6,p0.fl))) else (bif decide ((p0.fl.length:Int)≤p1) then (some ((6,p0.fl))) else (bif ((decide (p2 < 0))||(decide (p0.fS.fValue < p2)))||(decide ((IntKind.i64.wrap (p0.fS.fValue - p2)) < (p3.length:Int))) then (some ((32,p0.fl))) else (bif inb p1 p0.fl.length then (bif sliceOk p2 ((((gt p0.fl p1).fb).length:Nat):Int) (((gt p0.fl p1).fb).length) then (some ((0,p0.fl.set p1.toNat (⟨(gt p0.fl p1).fis,(gt p0.fl p1).fkey,pasteX ((gt p0.fl p1).fb) p2.toNat (p3.take ((p2.toNat+(((((gt p0.fl p1).fb).length:Nat):Int).toNat - p2.toNat)) - p2.toNat))⟩:RPlace)))) else none) else none)))
theorem c30 (p0:S_hatchwayref11_Hash) (p1:Int) (p2:Int) (p3:List Int) (r:Int×(List RPlace)) (h:fn30 p0 p1 p2 p3=some r):Con Tryz.prog 30 [.p 0 0,vi p1,vi p2,.sl 2] [(0,.cells 69 [vb p0.fS.fKind,vi p0.fS.fKey,vi p0.fS.fValue,vi p0.fS.fEntries,.sl 1]),(1,.ex (pO RPlace.D 71 p0.fl) []),(2,.rd (Et.int .u8) p3)] 3 (vi r.1) [(0,.cells 69 [vb p0.fS.fKind,vi p0.fS.fKey,vi p0.fS.fValue,vi p0.fS.fEntries,.sl 1]),(1,.ex (pO RPlace.D 71 r.2) [])] 3:=by
 rw [fn30] at h
 refine Con.of_body Tryz.func30 rfl Tryz.ntmps30 rfl fun w F0 ρ gl=>?_
 refine V0 3 ?_
 refine CDS h (fun h hb1=>?_) (fun h hb1=>?_)
 ·refine VL [(10,11,true)] 9 [] (aC hb1 aN) ?_
  refine V0 0 ?_
  refine CDT rfl (by rfl) ?_
  refine V0 1 ?_
  obtain rfl:=sj h
  exact T_ tbOk.t Tryz.results30 [0,1,2]
 refine VL [(10,11,false)] 9 [.no RPlace.D 71 _ none] (aC hb1 (aR aN)) ?_
 refine V0 0 ?_
 refine C_ h (fun h hb2=>?_) fun h hb2=>?_
 ·refine V0 1 ?_
  obtain rfl:=sj h
  exact T_ tbOk.t Tryz.results30 [0,1,2]
 refine V0 23 ?_
 refine C_ h (fun h hb3=>?_) fun h hb3=>?_
 ·refine V0 1 ?_
  obtain rfl:=sj h
  exact T_ tbOk.t Tryz.results30 [0,1,2]
 obtain ⟨hk4,h⟩:=ck h
 obtain ⟨hk5,h⟩:=ck h
 refine V_ 13 [.io RPlace.D 71 _ none,.lO RPlace.D 71 _,.sc,.co (Et.int .u8) 3 _ _] (aR (aC hk4 (aR (aC hk4 (aC hk5 (aR (aR (aC (ssB hk5) aN)))))))) ?_
 refine G4.imp (Imp.closeO 1 3 (by rfl) (by rfl) (by rfl)) ?_
 obtain rfl:=sj h
 exact T_ tbOk.t Tryz.results30 [0,1,2]
def fn31 (F:Nat) (p0:S_hatchwayref11_Hash) (p1:List Int):Option (Int×(List RPlace)) :=
 Option.bind (fn28 F p0 p1) fun v1=>(bif v1.2 != 0 then (some ((v1.2,p0.fl))) else (bif inb v1.1 p0.fl.length then (some ((0,p0.fl.set v1.1.toNat (⟨(⟨false,(⟨#[]⟩:ByteArray),(gt p0.fl v1.1).fb⟩:RPlace).fis,(⟨false,(⟨#[]⟩:ByteArray),(gt p0.fl v1.1).fb⟩:RPlace).fkey,(gt p0.fl v1.1).fb⟩:RPlace)))) else none))
theorem c31 (F:Nat) (p0:S_hatchwayref11_Hash) (p1:List Int) (r:Int×(List RPlace)) (h:fn31 F p0 p1=some r):Con Tryz.prog 31 [.p 0 0,.sl 2] [(0,.cells 69 [vb p0.fS.fKind,vi p0.fS.fKey,vi p0.fS.fValue,vi p0.fS.fEntries,.sl 1]),(1,.ex (pO RPlace.D 71 p0.fl) []),(2,.rd (Et.int .u8) p1)] 3 (vi r.1) [(0,.cells 69 [vb p0.fS.fKind,vi p0.fS.fKey,vi p0.fS.fValue,vi p0.fS.fEntries,.sl 1]),(1,.ex (pO RPlace.D 71 r.2) [])] 3:=by
 rw [fn31] at h
 refine Con.of_body Tryz.func31 rfl Tryz.ntmps31 rfl fun w F0 ρ gl=>?_
 obtain ⟨v1,hv2,h⟩:=bd h
 refine V_ 4 [.cl true [0,1,2] (fun _=>c28 F p0 p1 _ hv2)] (aK aN) ?_
 refine V0 7 ?_
 refine C_ h (fun h hb3=>?_) fun h hb3=>?_
 ·refine V0 2 ?_
  obtain rfl:=sj h
  exact T_ tbOk.t Tryz.results31 [0,1,2]
 refine V0 0 ?_
 obtain ⟨hk4,h⟩:=ck h
 refine DRL tbOk hmix [29,30] [([],[]),([],[]),([],[]),([0],[]),([],[]),([],[]),([],[]),([],[]),([0],[]),([],[]),([1],[]),([],[]),([1],[1]),([],[]),([1],[])] [.io RPlace.D 71 _ none,.lO RPlace.D 71 _,.io RPlace.D 71 _ (some (v1.1,gt p0.fl v1.1,3))] (aR (aR (aR (aR (aC hk4 (aR (aR (aC hk4 (aR (aR (aC hk4 aN))))))))))) (by rfl) (by rfl) (by rfl) (by rfl) (by rfl) rfl rfl ?_
 refine V_ 2 [.sh RPlace.D 71 _ _ (gt p0.fl v1.1) (⟨false,(⟨#[]⟩:ByteArray),(gt p0.fl v1.1).fb⟩:RPlace) 3 _ _ _] (aR (aR (aR (aR aN)))) ?_
 refine G4.imp (Imp.closeO 1 3 (by rfl) (by rfl) (by rfl)) ?_
 obtain rfl:=sj h
 exact T_ tbOk.t Tryz.results31 [0,1,2]
def fn32_b1 (p0:S_hatchwayref11_Hash) (rl1:Int→Int→Option (Int)) (x9:Int) (x10:Int):Option (Int) :=
 bif (decide (x10 < (p0.fl.length:Int)))&&(decide (x9 < 0)) then (bif inb x10 p0.fl.length then (bif !((gt p0.fl x10).fis) then (rl1 x10 (IntKind.i64.wrap (x10+1))) else (rl1 x9 (IntKind.i64.wrap (x10+1)))) else none) else (some x9)
def fn32_l1 (p0:S_hatchwayref11_Hash):Nat→Int→Int→Option (Int)
 | 0,_,_=>none
 | n17+1,x9,x10=>fn32_b1 p0 (fn32_l1 p0 n17) x9 x10
theorem fn32_l1_s (p0:S_hatchwayref11_Hash) (n17:Nat) (x9:Int) (x10:Int):fn32_l1 p0 (n17+1) x9 x10=fn32_b1 p0 (fn32_l1 p0 n17) x9 x10:=rfl
def fn32_k1 (p0:S_hatchwayref11_Hash) (p1:List Int) (p2:List Int) (x14:Int):Option ((Int×(List RPlace))) :=
 bif decide (x14 < 0) then (some ((8,p0.fl))) else (bif decide ((([]:List Int).length+p2.length) * 1≤140737488355328∧([]:List Int).length+p2.length≤9223372036854775807) then (bif inb x14 p0.fl.length then (some ((0,p0.fl.set x14.toNat (⟨(⟨true,strOfNums p1,(gt p0.fl x14).fb⟩:RPlace).fis,(⟨true,strOfNums p1,(gt p0.fl x14).fb⟩:RPlace).fkey,([]:List Int)++p2⟩:RPlace)))) else none) else none)
def fn32 (F:Nat) (p0:S_hatchwayref11_Hash) (p1:List Int) (p2:List Int) (p3:Int):Option (Int×(List RPlace)) :=
 bif (((p1.length:Int) != p0.fS.fKey)||((p2.length:Int) != p0.fS.fValue))||(decide ((2:Int) < p3)) then (some ((2,p0.fl))) else (Option.bind (fn56 F p0 p1) fun v2=>(bif (decide ((0:Int)≤v2))&&(p3 == 1) then (some ((7,p0.fl))) else (bif (decide (v2 < 0))&&(p3 == 2) then (some ((6,p0.fl))) else (Option.bind (fn32_l1 p0 F v2 0) fun o15=>(fn32_k1 p0 p1 p2 o15)))))
theorem c32 (F:Nat) (p0:S_hatchwayref11_Hash) (p1:List Int) (p2:List Int) (p3:Int) (r:Int×(List RPlace)) (h:fn32 F p0 p1 p2 p3=some r):Con Tryz.prog 32 [.p 0 0,.sl 2,.sl 3,.v (.int .u64 p3)] [(0,.cells 69 [vb p0.fS.fKind,vi p0.fS.fKey,vi p0.fS.fValue,vi p0.fS.fEntries,.sl 1]),(1,.ex (pO RPlace.D 71 p0.fl) []),(2,.rd (Et.int .u8) p1),(3,.rd (Et.int .u8) p2)] 4 (vi r.1) [(0,.cells 69 [vb p0.fS.fKind,vi p0.fS.fKey,vi p0.fS.fValue,vi p0.fS.fEntries,.sl 1]),(1,.ex (pO RPlace.D 71 r.2) [])] 4:=by
 rw [fn32] at h
 refine Con.of_body Tryz.func32 rfl Tryz.ntmps32 rfl fun w F0 ρ gl=>?_
 refine V0 23 ?_
 refine C_ h (fun h hb1=>?_) fun h hb1=>?_
 ·refine V0 1 ?_
  obtain rfl:=sj h
  exact T_ tbOk.t Tryz.results32 [0,1,2,3]
 obtain ⟨v2,hv3,h⟩:=bd h
 refine V_ 3 [.cl true [0,1,2] (fun _=>c56 F p0 p1 _ hv3)] (aK aN) ?_
 refine V0 7 ?_
 refine C_ h (fun h hb4=>?_) fun h hb4=>?_
 ·refine V0 1 ?_
  obtain rfl:=sj h
  exact T_ tbOk.t Tryz.results32 [0,1,2,3]
 refine V0 6 ?_
 refine C_ h (fun h hb5=>?_) fun h hb5=>?_
 ·refine V0 1 ?_
  obtain rfl:=sj h
  exact T_ tbOk.t Tryz.results32 [0,1,2,3]
 refine V0 1 ?_
 obtain ⟨o15,hl16,h⟩:=bd h
 refine CT 0 ⟨[(0,.p 0 0),(1,.sl 2),(2,.sl 3),(9,vi o15)],[(0,.cells 69 [vb p0.fS.fKind,vi p0.fS.fKey,vi p0.fS.fValue,vi p0.fS.fEntries,.sl 1]),(1,.ex (pO RPlace.D 71 p0.fl) []),(2,.rd (Et.int .u8) p1),(3,.rd (Et.int .u8) p2)],4⟩ ?_ ?_
 ·have h019:=h
  clear h
  refine G4.imp (I_ [0,1,2,3]) (LP (fun (n:Nat) (s:Int×Int)=>fn32_l1 p0 n s.1 s.2) (fun (s:Int×Int)=>⟨[(0,.p 0 0),(1,.sl 2),(2,.sl 3),(9,vi s.1),(10,vi s.2)],[(0,.cells 69 [vb p0.fS.fKind,vi p0.fS.fKey,vi p0.fS.fValue,vi p0.fS.fEntries,.sl 1]),(1,.ex (pO RPlace.D 71 p0.fl) []),(2,.rd (Et.int .u8) p1),(3,.rd (Et.int .u8) p2)],4⟩) (fun _=>rfl) (s0:=(v2,0)) hl16 ?_)
  clear hl16
  rintro R20 n17 ⟨x9,x10⟩ h ih18
  replace h:=(fn32_l1_s p0 n17 x9 x10).symm.trans h
  rw [fn32_b1] at h
  refine V_ 11 [.no RPlace.D 71 _ none] (aR aN) ?_
  refine C_ h (fun h hb21=>?_) fun h hb21=>?_
  ·obtain ⟨hk22,h⟩:=ck h
   refine V_ 9 [.io RPlace.D 71 _ none,.lp RPlace.D 71 _] (aR (aC hk22 (aR (aC hk22 aN)))) ?_
   refine C_ h (fun h hb23=>?_) fun h hb23=>?_
   ·refine V0 5 ?_
    exact ih18 (x10,IntKind.i64.wrap (x10+1)) h _ _ (I_ [0,1,2,3])
   refine V0 3 ?_
   exact ih18 (x9,IntKind.i64.wrap (x10+1)) h _ _ (I_ [0,1,2,3])
  refine V0 0 ?_
  obtain rfl:=sj h
  exact CE (I_ [0,1,2,3])
 change fn32_k1 p0 p1 p2 o15=_ at h
 rw [fn32_k1] at h
 refine V0 2 ?_
 refine C_ h (fun h hb24=>?_) fun h hb24=>?_
 ·refine V0 1 ?_
  obtain rfl:=sj h
  exact T_ tbOk.t Tryz.results32 [0,1,2,3]
 refine V0 0 ?_
 obtain ⟨hk25,h⟩:=ck h
 obtain ⟨hk26,h⟩:=ck h
 refine DRL tbOk hmix [83,84] [([],[]),([],[]),([],[]),([0],[]),([],[]),([],[]),([2],[]),([],[]),([],[]),([3,4],[]),([],[]),([1],[])] [.b2 _,.bs (Et.int .u8) ([]:List Int),.ap (Et.int .u8) .unk _ _,.io RPlace.D 71 _ none] (aR (aR (aR (aR (aR (aR (aR (aR (aC hk25 (aC rfl (aR (aR (aC hk26 aN))))))))))))) (by rfl) (by rfl) (by rfl) (by rfl) (by rfl) rfl rfl ?_
 refine V0 0 ?_
 refine G4.imp (Imp.openO 1 o15 hk26 (by rfl)) ?_
 refine V_ 2 [.sh RPlace.D 71 _ _ (gt p0.fl o15) (⟨true,strOfNums p1,(gt p0.fl o15).fb⟩:RPlace) 5 _ _ _] (aR (aR (aR (aR aN)))) ?_
 refine G4.imp (Imp.closeO 1 5 (by rfl) (by rfl) (by rfl)) ?_
 obtain rfl:=sj h
 exact T_ tbOk.t Tryz.results32 [0,1,2,3]
def fn9 (F:Nat) (p0_0:List HCell) (p0_1:Int) (p0_2:Int) (p0_3:Int) (p0_4:Int) (p0_5:List (ByteArray×Int)) (p1:S_hatchwayref11_Hash) (p2:Do):Option (Bool×(List HCell)×(List (ByteArray×Int))×(List RPlace)) :=
 Option.bind (fn26 F p2.fKey) fun v1=>(Option.bind (fn26 F p2.fB) fun v3=>(Option.bind (fn27 p2.fWhat 6) fun v5=>(bif v5 == 2 then (Option.bind (fn19 p0_0 p0_1 p0_2 p0_3 p0_4 p0_5 (cutX v1.1 0 (0+v1.2))) fun v8=>(Option.bind (fn28 F p1 p2.fKey) fun v10=>(Option.bind (bif bif (v8.1 == v10.1)&&(v8.2 == v10.2) then true else false then fn33 F v1.1 v1.2 p2.fKey else some false) fun v12=>(Option.bind (bif bif ((v8.1 == v10.1)&&(v8.2 == v10.2))&&v12 then true else false then fn33 F v3.1 v3.2 p2.fB else some false) fun v14=>(Option.bind (fn34 v1.1 v1.2) fun v16=>(Option.bind (fn34 v3.1 v3.2) fun v18=>(Option.bind (fn10 p0_0 p0_1 p0_2 p0_3 p0_4 p0_5 p2.fPlace) fun v20=>(Option.bind (fn11 p1 p2.fPlace) fun v22=>(Option.bind (fn10 p0_0 p0_1 p0_2 p0_3 p0_4 p0_5 p2.fPlace) fun v24=>(bif (((v8.1 == v10.1)&&(v8.2 == v10.2))&&v12)&&v14 then (bif v20.2 == v22.2 then (Option.bind (fn12 F v20.1 v22.1) fun v32=>(bif v32 then (Option.bind (fn35 ([v20.1,v24.1]:List (List Int))) fun v35=>(bif v35 then (Option.bind (fn14 F p0_0 p0_1 p0_2 p0_3 p0_4 p0_5) fun v38=>(Option.bind (fn16 p1) fun v40=>(Option.bind (fn15 F v38 v40) fun v42=>(some ((v42,p0_0,p0_5,p1.fl)))))) else (some ((false,p0_0,p0_5,p1.fl))))) else (some ((false,p0_0,p0_5,p1.fl))))) else (some ((false,p0_0,p0_5,p1.fl)))) else (some ((false,p0_0,p0_5,p1.fl))))))))))))) else (bif v5 == 3 then (Option.bind (fn29 p0_0 p0_1 p0_2 p0_3 p0_4 p0_5 p2.fPlace p2.fOff (cutX v3.1 0 (0+v3.2))) fun v45=>(Option.bind (fn30 p1 p2.fPlace p2.fOff p2.fB) fun v47=>(Option.bind (bif bif v45.1 == v47.1 then true else false then fn33 F v1.1 v1.2 p2.fKey else some false) fun v49=>(Option.bind (bif bif (v45.1 == v47.1)&&v49 then true else false then fn33 F v3.1 v3.2 p2.fB else some false) fun v51=>(Option.bind (fn34 v1.1 v1.2) fun v53=>(Option.bind (fn34 v3.1 v3.2) fun v55=>(Option.bind (fn10 v45.2 p0_1 p0_2 p0_3 p0_4 p0_5 p2.fPlace) fun v57=>(Option.bind (fn11 (⟨p1.fS,v47.2⟩:S_hatchwayref11_Hash) p2.fPlace) fun v59=>(Option.bind (fn10 v45.2 p0_1 p0_2 p0_3 p0_4 p0_5 p2.fPlace) fun v61=>(bif ((v45.1 == v47.1)&&v49)&&v51 then (bif v57.2 == v59.2 then (Option.bind (fn12 F v57.1 v59.1) fun v69=>(bif v69 then (Option.bind (fn35 ([v57.1,v61.1]:List (List Int))) fun v72=>(bif v72 then (Option.bind (fn14 F v45.2 p0_1 p0_2 p0_3 p0_4 p0_5) fun v75=>(Option.bind (fn16 (⟨p1.fS,v47.2⟩:S_hatchwayref11_Hash)) fun v77=>(Option.bind (fn15 F v75 v77) fun v79=>(some ((v79,v45.2,p0_5,v47.2)))))) else (some ((false,v45.2,p0_5,v47.2))))) else (some ((false,v45.2,p0_5,v47.2))))) else (some ((false,v45.2,p0_5,v47.2)))) else (some ((false,v45.2,p0_5,v47.2))))))))))))) else (bif v5 == 4 then (Option.bind (fn20 p0_0 p0_1 p0_2 p0_3 p0_4 p0_5 (cutX v1.1 0 (0+v1.2))) fun v82=>(Option.bind (fn31 F p1 p2.fKey) fun v84=>(Option.bind (bif bif v82.1 == v84.1 then true else false then fn33 F v1.1 v1.2 p2.fKey else some false) fun v86=>(Option.bind (bif bif (v82.1 == v84.1)&&v86 then true else false then fn33 F v3.1 v3.2 p2.fB else some false) fun v88=>(Option.bind (fn34 v1.1 v1.2) fun v90=>(Option.bind (fn34 v3.1 v3.2) fun v92=>(Option.bind (fn10 v82.2.1 p0_1 p0_2 p0_3 p0_4 v82.2.2 p2.fPlace) fun v94=>(Option.bind (fn11 (⟨p1.fS,v84.2⟩:S_hatchwayref11_Hash) p2.fPlace) fun v96=>(Option.bind (fn10 v82.2.1 p0_1 p0_2 p0_3 p0_4 v82.2.2 p2.fPlace) fun v98=>(bif ((v82.1 == v84.1)&&v86)&&v88 then (bif v94.2 == v96.2 then (Option.bind (fn12 F v94.1 v96.1) fun v106=>(bif v106 then (Option.bind (fn35 ([v94.1,v98.1]:List (List Int))) fun v109=>(bif v109 then (Option.bind (fn14 F v82.2.1 p0_1 p0_2 p0_3 p0_4 v82.2.2) fun v112=>(Option.bind (fn16 (⟨p1.fS,v84.2⟩:S_hatchwayref11_Hash)) fun v114=>(Option.bind (fn15 F v112 v114) fun v116=>(some ((v116,v82.2.1,v82.2.2,v84.2)))))) else (some ((false,v82.2.1,v82.2.2,v84.2))))) else (some ((false,v82.2.1,v82.2.2,v84.2))))) else (some ((false,v82.2.1,v82.2.2,v84.2)))) else (some ((false,v82.2.1,v82.2.2,v84.2))))))))))))) else (bif v5 == 5 then (Option.bind (fn20 p0_0 p0_1 p0_2 p0_3 p0_4 p0_5 (cutX v1.1 0 (0+v1.2))) fun v119=>(Option.bind (fn31 F p1 p2.fKey) fun v121=>(Option.bind (bif bif v119.1 == v121.1 then true else false then fn33 F v1.1 v1.2 p2.fKey else some false) fun v123=>(Option.bind (bif bif (v119.1 == v121.1)&&v123 then true else false then fn33 F v3.1 v3.2 p2.fB else some false) fun v125=>(Option.bind (fn34 v1.1 v1.2) fun v127=>(Option.bind (fn34 v3.1 v3.2) fun v129=>(Option.bind (fn10 v119.2.1 p0_1 p0_2 p0_3 p0_4 v119.2.2 p2.fPlace) fun v131=>(Option.bind (fn11 (⟨p1.fS,v121.2⟩:S_hatchwayref11_Hash) p2.fPlace) fun v133=>(Option.bind (fn10 v119.2.1 p0_1 p0_2 p0_3 p0_4 v119.2.2 p2.fPlace) fun v135=>(bif ((v119.1 == v121.1)&&v123)&&v125 then (bif v131.2 == v133.2 then (Option.bind (fn12 F v131.1 v133.1) fun v143=>(bif v143 then (Option.bind (fn35 ([v131.1,v135.1]:List (List Int))) fun v146=>(bif v146 then (Option.bind (fn14 F v119.2.1 p0_1 p0_2 p0_3 p0_4 v119.2.2) fun v149=>(Option.bind (fn16 (⟨p1.fS,v121.2⟩:S_hatchwayref11_Hash)) fun v151=>(Option.bind (fn15 F v149 v151) fun v153=>(some ((v153,v119.2.1,v119.2.2,v121.2)))))) else (some ((false,v119.2.1,v119.2.2,v121.2))))) else (some ((false,v119.2.1,v119.2.2,v121.2))))) else (some ((false,v119.2.1,v119.2.2,v121.2)))) else (some ((false,v119.2.1,v119.2.2,v121.2))))))))))))) else (Option.bind (fn18 F p0_0 p0_1 p0_2 p0_3 p0_4 p0_5 (cutX v1.1 0 (0+v1.2)) (cutX v3.1 0 (0+v3.2)) p2.fFlags) fun v155=>(Option.bind (fn32 F p1 p2.fKey p2.fB p2.fFlags) fun v157=>(Option.bind (bif bif v155.1 == v157.1 then true else false then fn33 F v1.1 v1.2 p2.fKey else some false) fun v159=>(Option.bind (bif bif (v155.1 == v157.1)&&v159 then true else false then fn33 F v3.1 v3.2 p2.fB else some false) fun v161=>(Option.bind (fn34 v1.1 v1.2) fun v163=>(Option.bind (fn34 v3.1 v3.2) fun v165=>(Option.bind (fn10 v155.2.1 p0_1 p0_2 p0_3 p0_4 v155.2.2 p2.fPlace) fun v167=>(Option.bind (fn11 (⟨p1.fS,v157.2⟩:S_hatchwayref11_Hash) p2.fPlace) fun v169=>(Option.bind (fn10 v155.2.1 p0_1 p0_2 p0_3 p0_4 v155.2.2 p2.fPlace) fun v171=>(bif ((v155.1 == v157.1)&&v159)&&v161 then (bif v167.2 == v169.2 then (Option.bind (fn12 F v167.1 v169.1) fun v179=>(bif v179 then (Option.bind (fn35 ([v167.1,v171.1]:List (List Int))) fun v182=>(bif v182 then (Option.bind (fn14 F v155.2.1 p0_1 p0_2 p0_3 p0_4 v155.2.2) fun v185=>(Option.bind (fn16 (⟨p1.fS,v157.2⟩:S_hatchwayref11_Hash)) fun v187=>(Option.bind (fn15 F v185 v187) fun v189=>(some ((v189,v155.2.1,v155.2.2,v157.2)))))) else (some ((false,v155.2.1,v155.2.2,v157.2))))) else (some ((false,v155.2.1,v155.2.2,v157.2))))) else (some ((false,v155.2.1,v155.2.2,v157.2)))) else (some ((false,v155.2.1,v155.2.2,v157.2)))))))))))))))))))
theorem c9 (F:Nat) (p0_0:List HCell) (p0_1:Int) (p0_2:Int) (p0_3:Int) (p0_4:Int) (p0_5:List (ByteArray×Int)) (p1:S_hatchwayref11_Hash) (p2:Do) (r:Bool×(List HCell)×(List (ByteArray×Int))×(List RPlace)) (h:fn9 F p0_0 p0_1 p0_2 p0_3 p0_4 p0_5 p1 p2=some r):Con Tryz.prog 9 [.p 0 0,.p 3 0,.ag [vi p2.fWhat,.sl 5,.sl 6,.v (.int .u64 p2.fFlags),vi p2.fPlace,vi p2.fOff]] [(0,.cells 63 [.sl 1,vb p0_1,vi p0_2,vi p0_3,vi p0_4,.mp 2]),(1,.ex (pO HCell.D 65 p0_0) []),(2,.omap Kn.str (Vn.int .i64) p0_5),(3,.cells 69 [vb p1.fS.fKind,vi p1.fS.fKey,vi p1.fS.fValue,vi p1.fS.fEntries,.sl 4]),(4,.ex (pO RPlace.D 71 p1.fl) []),(5,.rd (Et.int .u8) p2.fKey),(6,.rd (Et.int .u8) p2.fB)] 7 (.v (.bool r.1)) [(0,.cells 63 [.sl 1,vb p0_1,vi p0_2,vi p0_3,vi p0_4,.mp 2]),(1,.ex (pO HCell.D 65 r.2.1) []),(2,.omap Kn.str (Vn.int .i64) r.2.2.1),(3,.cells 69 [vb p1.fS.fKind,vi p1.fS.fKey,vi p1.fS.fValue,vi p1.fS.fEntries,.sl 4]),(4,.ex (pO RPlace.D 71 r.2.2.2) [])] 7:=by
 rw [fn9] at h
 refine Con.of_body Tryz.func9 rfl Tryz.ntmps9 rfl fun w F0 ρ gl=>?_
 refine V0 2 ?_
 obtain ⟨v1,hv2,h⟩:=bd h
 obtain ⟨v3,hv4,h⟩:=bd h
 refine DR tbOk hmix [7,8] [([],[]),([7],[]),([5],[]),([],[]),([7],[]),([6],[]),([],[]),([],[])] [.cl true [5] (fun _=>c26 F p2.fKey _ hv2),.cl true [6] (fun _=>c26 F p2.fB _ hv4)] (aR (aR (aK (aR (aR (aK aN)))))) (by rfl) ?_
 obtain ⟨v5,hv6,h⟩:=bd h
 refine V_ 4 [.cl true [] (fun _=>c27 p2.fWhat 6 _ hv6)] (aK aN) ?_
 refine V0 2 ?_
 refine C_ h (fun h hb7=>?_) fun h hb7=>?_
 ·obtain ⟨v8,hv9,h⟩:=bd h
  refine V_ 3 [.cl true [0,1,2,8] (fun _=>c19 p0_0 p0_1 p0_2 p0_3 p0_4 p0_5 (cutX v1.1 0 (0+v1.2)) _ hv9)] (aK aN) ?_
  obtain ⟨v10,hv11,h⟩:=bd h
  refine V_ 9 [.cl true [3,4,5] (fun _=>c28 F p1 p2.fKey _ hv11)] (aK aN) ?_
  obtain ⟨v12,hv13,h⟩:=bd h
  obtain ⟨v14,hv15,h⟩:=bd h
  obtain ⟨v16,hv17,h⟩:=bd h
  refine V_ 30 [.cl (bif (v8.1 == v10.1)&&(v8.2 == v10.2) then true else false) [8,9,5] (fun hg=>c33 F v1.1 v1.2 p2.fKey _ (gcl hg hv13)),.cl (bif ((v8.1 == v10.1)&&(v8.2 == v10.2))&&v12 then true else false) [10,11,6] (fun hg=>c33 F v3.1 v3.2 p2.fB _ (gcl hg hv15)),.cl true [8,9] (fun _=>c34 v1.1 v1.2 _ hv17)] (aR (aR (aK (aR (aR (aK (aK aN))))))) ?_
  obtain ⟨v18,hv19,h⟩:=bd h
  refine V_ 2 [.cl true [10,11] (fun _=>c34 v3.1 v3.2 _ hv19)] (aK aN) ?_
  obtain ⟨v20,hv21,h⟩:=bd h
  refine V_ 4 [.cl true [0,1,2] (fun _=>c10 p0_0 p0_1 p0_2 p0_3 p0_4 p0_5 p2.fPlace _ hv21)] (aK aN) ?_
  obtain ⟨v22,hv23,h⟩:=bd h
  refine V_ 9 [.cl true [3,4] (fun _=>c11 p1 p2.fPlace _ hv23)] (aK aN) ?_
  obtain ⟨v24,hv25,h⟩:=bd h
  refine V_ 9 [.cl true [0,1,2] (fun _=>c10 p0_0 p0_1 p0_2 p0_3 p0_4 p0_5 p2.fPlace _ hv25)] (aK aN) ?_
  refine V0 6 ?_
  refine CDS h (fun h hb28=>?_) (fun h hb28=>?_)
  ·refine VL [(134,135,true)] 5 [] (aC hb28 aN) ?_
   refine CDS h (fun h hb31=>?_) (fun h hb31=>?_)
   ·obtain ⟨v32,hv33,h⟩:=bd h
    refine VL [(139,140,true)] 4 [.cl true [12,13] (fun _=>c12 F v20.1 v22.1 _ hv33)] (aC hb31 (aK aN)) ?_
    refine V0 1 ?_
    refine CDS h (fun h hb34=>?_) (fun h hb34=>?_)
    ·refine VL [(144,145,true)] 4 [.bL (Et.int .u8) 5 ([v20.1,v24.1]:List (List Int))] (aC hb34 (aR (aR aN))) ?_
     refine G4.imp (Imp.rowL 15 (by rfl)) ?_
     obtain ⟨v35,hv36,h⟩:=bd h
     refine VL [(144,145,true)] 1 [.cl true [15] (fun _=>c35 ([v20.1,v24.1]:List (List Int)) _ hv36)] (aK aN) ?_
     refine V0 1 ?_
     refine CDS h (fun h hb37=>?_) (fun h hb37=>?_)
     ·obtain ⟨v38,hv39,h⟩:=bd h
      refine VL [(150,151,true)] 3 [.cl true [0,1,2] (fun _=>c14 F p0_0 p0_1 p0_2 p0_3 p0_4 p0_5 _ hv39)] (aC hb37 (aK aN)) ?_
      obtain ⟨v40,hv41,h⟩:=bd h
      refine VL [(150,151,true)] 2 [.cl true [3,4] (fun _=>c16 p1 _ hv41)] (aK aN) ?_
      obtain ⟨v42,hv43,h⟩:=bd h
      refine VL [(150,151,true)] 1 [.cl true [16,17] (fun _=>c15 F v38 v40 _ hv43)] (aK aN) ?_
      refine V0 2 ?_
      refine V0 0 ?_
      obtain rfl:=sj h
      exact T_ tbOk.t Tryz.results9 [0,1,2,3,4,5,6]
     refine VL [(150,151,false)] 3 [] (aC hb37 aN) ?_
     refine VL [(150,151,false)] 2 [] aN ?_
     refine VL [(150,151,false)] 1 [] aN ?_
     refine V0 2 ?_
     refine V0 0 ?_
     obtain rfl:=sj h
     exact T_ tbOk.t Tryz.results9 [0,1,2,3,4,5,6]
    refine VL [(144,145,false)] 5 [] (aC hb34 aN) ?_
    refine VL [(150,151,false)] 4 [] (aC rfl aN) ?_
    refine VL [(150,151,false)] 2 [] aN ?_
    refine VL [(150,151,false)] 1 [] aN ?_
    refine V0 2 ?_
    refine V0 0 ?_
    obtain rfl:=sj h
    exact T_ tbOk.t Tryz.results9 [0,1,2,3,4,5,6]
   refine VL [(139,140,false)] 4 [] (aC hb31 aN) ?_
   refine VL [(144,145,false)] 6 [] (aC rfl aN) ?_
   refine VL [(150,151,false)] 4 [] (aC rfl aN) ?_
   refine VL [(150,151,false)] 2 [] aN ?_
   refine VL [(150,151,false)] 1 [] aN ?_
   refine V0 2 ?_
   refine V0 0 ?_
   obtain rfl:=sj h
   exact T_ tbOk.t Tryz.results9 [0,1,2,3,4,5,6]
  refine VL [(134,135,false),(139,140,false)] 9 [] (aC hb28 (aC rfl aN)) ?_
  refine VL [(144,145,false)] 6 [] (aC rfl aN) ?_
  refine VL [(150,151,false)] 4 [] (aC rfl aN) ?_
  refine VL [(150,151,false)] 2 [] aN ?_
  refine VL [(150,151,false)] 1 [] aN ?_
  refine V0 2 ?_
  refine V0 0 ?_
  obtain rfl:=sj h
  exact T_ tbOk.t Tryz.results9 [0,1,2,3,4,5,6]
 refine V0 2 ?_
 refine C_ h (fun h hb44=>?_) fun h hb44=>?_
 ·refine V0 0 ?_
  obtain ⟨v45,hv46,h⟩:=bd h
  obtain ⟨v47,hv48,h⟩:=bd h
  refine DR tbOk hmix [9] [([],[]),([],[]),([7],[]),([],[]),([7],[]),([],[]),([0,1,2,10,11],[1]),([],[]),([],[]),([7],[]),([],[]),([7],[]),([],[]),([7],[]),([3,4,6],[4]),([],[]),([],[])] [.cl true [0,1,2,10] (fun _=>c29 p0_0 p0_1 p0_2 p0_3 p0_4 p0_5 p2.fPlace p2.fOff (cutX v3.1 0 (0+v3.2)) _ hv46),.cl true [3,4,6] (fun _=>c30 p1 p2.fPlace p2.fOff p2.fB _ hv48)] (aR (aR (aR (aK (aR (aR (aR (aR (aK aN))))))))) (by rfl) ?_
  obtain ⟨v49,hv50,h⟩:=bd h
  obtain ⟨v51,hv52,h⟩:=bd h
  obtain ⟨v53,hv54,h⟩:=bd h
  refine V_ 16 [.cl (bif v45.1 == v47.1 then true else false) [8,9,5] (fun hg=>c33 F v1.1 v1.2 p2.fKey _ (gcl hg hv50)),.cl (bif (v45.1 == v47.1)&&v49 then true else false) [10,11,6] (fun hg=>c33 F v3.1 v3.2 p2.fB _ (gcl hg hv52)),.cl true [8,9] (fun _=>c34 v1.1 v1.2 _ hv54)] (aR (aR (aK (aR (aR (aK (aK aN))))))) ?_
  obtain ⟨v55,hv56,h⟩:=bd h
  refine V_ 2 [.cl true [10,11] (fun _=>c34 v3.1 v3.2 _ hv56)] (aK aN) ?_
  obtain ⟨v57,hv58,h⟩:=bd h
  refine V_ 4 [.cl true [0,1,2] (fun _=>c10 v45.2 p0_1 p0_2 p0_3 p0_4 p0_5 p2.fPlace _ hv58)] (aK aN) ?_
  obtain ⟨v59,hv60,h⟩:=bd h
  refine V_ 9 [.cl true [3,4] (fun _=>c11 (⟨p1.fS,v47.2⟩:S_hatchwayref11_Hash) p2.fPlace _ hv60)] (aK aN) ?_
  obtain ⟨v61,hv62,h⟩:=bd h
  refine V_ 9 [.cl true [0,1,2] (fun _=>c10 v45.2 p0_1 p0_2 p0_3 p0_4 p0_5 p2.fPlace _ hv62)] (aK aN) ?_
  refine V0 6 ?_
  refine CDS h (fun h hb65=>?_) (fun h hb65=>?_)
  ·refine VL [(134,135,true)] 5 [] (aC hb65 aN) ?_
   refine CDS h (fun h hb68=>?_) (fun h hb68=>?_)
   ·obtain ⟨v69,hv70,h⟩:=bd h
    refine VL [(139,140,true)] 4 [.cl true [12,13] (fun _=>c12 F v57.1 v59.1 _ hv70)] (aC hb68 (aK aN)) ?_
    refine V0 1 ?_
    refine CDS h (fun h hb71=>?_) (fun h hb71=>?_)
    ·refine VL [(144,145,true)] 4 [.bL (Et.int .u8) 5 ([v57.1,v61.1]:List (List Int))] (aC hb71 (aR (aR aN))) ?_
     refine G4.imp (Imp.rowL 15 (by rfl)) ?_
     obtain ⟨v72,hv73,h⟩:=bd h
     refine VL [(144,145,true)] 1 [.cl true [15] (fun _=>c35 ([v57.1,v61.1]:List (List Int)) _ hv73)] (aK aN) ?_
     refine V0 1 ?_
     refine CDS h (fun h hb74=>?_) (fun h hb74=>?_)
     ·obtain ⟨v75,hv76,h⟩:=bd h
      refine VL [(150,151,true)] 3 [.cl true [0,1,2] (fun _=>c14 F v45.2 p0_1 p0_2 p0_3 p0_4 p0_5 _ hv76)] (aC hb74 (aK aN)) ?_
      obtain ⟨v77,hv78,h⟩:=bd h
      refine VL [(150,151,true)] 2 [.cl true [3,4] (fun _=>c16 (⟨p1.fS,v47.2⟩:S_hatchwayref11_Hash) _ hv78)] (aK aN) ?_
      obtain ⟨v79,hv80,h⟩:=bd h
      refine VL [(150,151,true)] 1 [.cl true [16,17] (fun _=>c15 F v75 v77 _ hv80)] (aK aN) ?_
      refine V0 2 ?_
      refine V0 0 ?_
      obtain rfl:=sj h
      exact T_ tbOk.t Tryz.results9 [0,1,2,3,4,5,6]
     refine VL [(150,151,false)] 3 [] (aC hb74 aN) ?_
     refine VL [(150,151,false)] 2 [] aN ?_
     refine VL [(150,151,false)] 1 [] aN ?_
     refine V0 2 ?_
     refine V0 0 ?_
     obtain rfl:=sj h
     exact T_ tbOk.t Tryz.results9 [0,1,2,3,4,5,6]
    refine VL [(144,145,false)] 5 [] (aC hb71 aN) ?_
    refine VL [(150,151,false)] 4 [] (aC rfl aN) ?_
    refine VL [(150,151,false)] 2 [] aN ?_
    refine VL [(150,151,false)] 1 [] aN ?_
    refine V0 2 ?_
    refine V0 0 ?_
    obtain rfl:=sj h
    exact T_ tbOk.t Tryz.results9 [0,1,2,3,4,5,6]
   refine VL [(139,140,false)] 4 [] (aC hb68 aN) ?_
   refine VL [(144,145,false)] 6 [] (aC rfl aN) ?_
   refine VL [(150,151,false)] 4 [] (aC rfl aN) ?_
   refine VL [(150,151,false)] 2 [] aN ?_
   refine VL [(150,151,false)] 1 [] aN ?_
   refine V0 2 ?_
   refine V0 0 ?_
   obtain rfl:=sj h
   exact T_ tbOk.t Tryz.results9 [0,1,2,3,4,5,6]
  refine VL [(134,135,false),(139,140,false)] 9 [] (aC hb65 (aC rfl aN)) ?_
  refine VL [(144,145,false)] 6 [] (aC rfl aN) ?_
  refine VL [(150,151,false)] 4 [] (aC rfl aN) ?_
  refine VL [(150,151,false)] 2 [] aN ?_
  refine VL [(150,151,false)] 1 [] aN ?_
  refine V0 2 ?_
  refine V0 0 ?_
  obtain rfl:=sj h
  exact T_ tbOk.t Tryz.results9 [0,1,2,3,4,5,6]
 refine V0 2 ?_
 refine C_ h (fun h hb81=>?_) fun h hb81=>?_
 ·refine V0 0 ?_
  refine CDT hb81 (by rfl) ?_
  refine V0 0 ?_
  obtain ⟨v82,hv83,h⟩:=bd h
  obtain ⟨v84,hv85,h⟩:=bd h
  refine DR tbOk hmix [9] [([],[]),([],[]),([0,1,2,8,9],[1,2]),([],[]),([],[]),([7],[]),([3,4,5],[4]),([],[]),([],[])] [.cl true [0,1,2,8] (fun _=>c20 p0_0 p0_1 p0_2 p0_3 p0_4 p0_5 (cutX v1.1 0 (0+v1.2)) _ hv83),.cl true [3,4,5] (fun _=>c31 F p1 p2.fKey _ hv85)] (aR (aK (aR (aR (aK aN))))) (by rfl) ?_
  obtain ⟨v86,hv87,h⟩:=bd h
  obtain ⟨v88,hv89,h⟩:=bd h
  obtain ⟨v90,hv91,h⟩:=bd h
  refine V_ 16 [.cl (bif v82.1 == v84.1 then true else false) [8,9,5] (fun hg=>c33 F v1.1 v1.2 p2.fKey _ (gcl hg hv87)),.cl (bif (v82.1 == v84.1)&&v86 then true else false) [10,11,6] (fun hg=>c33 F v3.1 v3.2 p2.fB _ (gcl hg hv89)),.cl true [8,9] (fun _=>c34 v1.1 v1.2 _ hv91)] (aR (aR (aK (aR (aR (aK (aK aN))))))) ?_
  obtain ⟨v92,hv93,h⟩:=bd h
  refine V_ 2 [.cl true [10,11] (fun _=>c34 v3.1 v3.2 _ hv93)] (aK aN) ?_
  obtain ⟨v94,hv95,h⟩:=bd h
  refine V_ 4 [.cl true [0,1,2] (fun _=>c10 v82.2.1 p0_1 p0_2 p0_3 p0_4 v82.2.2 p2.fPlace _ hv95)] (aK aN) ?_
  obtain ⟨v96,hv97,h⟩:=bd h
  refine V_ 9 [.cl true [3,4] (fun _=>c11 (⟨p1.fS,v84.2⟩:S_hatchwayref11_Hash) p2.fPlace _ hv97)] (aK aN) ?_
  obtain ⟨v98,hv99,h⟩:=bd h
  refine V_ 9 [.cl true [0,1,2] (fun _=>c10 v82.2.1 p0_1 p0_2 p0_3 p0_4 v82.2.2 p2.fPlace _ hv99)] (aK aN) ?_
  refine V0 6 ?_
  refine CDS h (fun h hb102=>?_) (fun h hb102=>?_)
  ·refine VL [(134,135,true)] 5 [] (aC hb102 aN) ?_
   refine CDS h (fun h hb105=>?_) (fun h hb105=>?_)
   ·obtain ⟨v106,hv107,h⟩:=bd h
    refine VL [(139,140,true)] 4 [.cl true [12,13] (fun _=>c12 F v94.1 v96.1 _ hv107)] (aC hb105 (aK aN)) ?_
    refine V0 1 ?_
    refine CDS h (fun h hb108=>?_) (fun h hb108=>?_)
    ·refine VL [(144,145,true)] 4 [.bL (Et.int .u8) 5 ([v94.1,v98.1]:List (List Int))] (aC hb108 (aR (aR aN))) ?_
     refine G4.imp (Imp.rowL 15 (by rfl)) ?_
     obtain ⟨v109,hv110,h⟩:=bd h
     refine VL [(144,145,true)] 1 [.cl true [15] (fun _=>c35 ([v94.1,v98.1]:List (List Int)) _ hv110)] (aK aN) ?_
     refine V0 1 ?_
     refine CDS h (fun h hb111=>?_) (fun h hb111=>?_)
     ·obtain ⟨v112,hv113,h⟩:=bd h
      refine VL [(150,151,true)] 3 [.cl true [0,1,2] (fun _=>c14 F v82.2.1 p0_1 p0_2 p0_3 p0_4 v82.2.2 _ hv113)] (aC hb111 (aK aN)) ?_
      obtain ⟨v114,hv115,h⟩:=bd h
      refine VL [(150,151,true)] 2 [.cl true [3,4] (fun _=>c16 (⟨p1.fS,v84.2⟩:S_hatchwayref11_Hash) _ hv115)] (aK aN) ?_
      obtain ⟨v116,hv117,h⟩:=bd h
      refine VL [(150,151,true)] 1 [.cl true [16,17] (fun _=>c15 F v112 v114 _ hv117)] (aK aN) ?_
      refine V0 2 ?_
      refine V0 0 ?_
      obtain rfl:=sj h
      exact T_ tbOk.t Tryz.results9 [0,1,2,3,4,5,6]
     refine VL [(150,151,false)] 3 [] (aC hb111 aN) ?_
     refine VL [(150,151,false)] 2 [] aN ?_
     refine VL [(150,151,false)] 1 [] aN ?_
     refine V0 2 ?_
     refine V0 0 ?_
     obtain rfl:=sj h
     exact T_ tbOk.t Tryz.results9 [0,1,2,3,4,5,6]
    refine VL [(144,145,false)] 5 [] (aC hb108 aN) ?_
    refine VL [(150,151,false)] 4 [] (aC rfl aN) ?_
    refine VL [(150,151,false)] 2 [] aN ?_
    refine VL [(150,151,false)] 1 [] aN ?_
    refine V0 2 ?_
    refine V0 0 ?_
    obtain rfl:=sj h
    exact T_ tbOk.t Tryz.results9 [0,1,2,3,4,5,6]
   refine VL [(139,140,false)] 4 [] (aC hb105 aN) ?_
   refine VL [(144,145,false)] 6 [] (aC rfl aN) ?_
   refine VL [(150,151,false)] 4 [] (aC rfl aN) ?_
   refine VL [(150,151,false)] 2 [] aN ?_
   refine VL [(150,151,false)] 1 [] aN ?_
   refine V0 2 ?_
   refine V0 0 ?_
   obtain rfl:=sj h
   exact T_ tbOk.t Tryz.results9 [0,1,2,3,4,5,6]
  refine VL [(134,135,false),(139,140,false)] 9 [] (aC hb102 (aC rfl aN)) ?_
  refine VL [(144,145,false)] 6 [] (aC rfl aN) ?_
  refine VL [(150,151,false)] 4 [] (aC rfl aN) ?_
  refine VL [(150,151,false)] 2 [] aN ?_
  refine VL [(150,151,false)] 1 [] aN ?_
  refine V0 2 ?_
  refine V0 0 ?_
  obtain rfl:=sj h
  exact T_ tbOk.t Tryz.results9 [0,1,2,3,4,5,6]
 refine V0 2 ?_
 refine C_ h (fun h hb118=>?_) fun h hb118=>?_
 ·refine V0 0 ?_
  obtain ⟨v119,hv120,h⟩:=bd h
  obtain ⟨v121,hv122,h⟩:=bd h
  refine DR tbOk hmix [9] [([],[]),([],[]),([0,1,2,8,9],[1,2]),([],[]),([],[]),([7],[]),([3,4,5],[4]),([],[]),([],[])] [.cl true [0,1,2,8] (fun _=>c20 p0_0 p0_1 p0_2 p0_3 p0_4 p0_5 (cutX v1.1 0 (0+v1.2)) _ hv120),.cl true [3,4,5] (fun _=>c31 F p1 p2.fKey _ hv122)] (aR (aK (aR (aR (aK aN))))) (by rfl) ?_
  obtain ⟨v123,hv124,h⟩:=bd h
  obtain ⟨v125,hv126,h⟩:=bd h
  obtain ⟨v127,hv128,h⟩:=bd h
  refine V_ 16 [.cl (bif v119.1 == v121.1 then true else false) [8,9,5] (fun hg=>c33 F v1.1 v1.2 p2.fKey _ (gcl hg hv124)),.cl (bif (v119.1 == v121.1)&&v123 then true else false) [10,11,6] (fun hg=>c33 F v3.1 v3.2 p2.fB _ (gcl hg hv126)),.cl true [8,9] (fun _=>c34 v1.1 v1.2 _ hv128)] (aR (aR (aK (aR (aR (aK (aK aN))))))) ?_
  obtain ⟨v129,hv130,h⟩:=bd h
  refine V_ 2 [.cl true [10,11] (fun _=>c34 v3.1 v3.2 _ hv130)] (aK aN) ?_
  obtain ⟨v131,hv132,h⟩:=bd h
  refine V_ 4 [.cl true [0,1,2] (fun _=>c10 v119.2.1 p0_1 p0_2 p0_3 p0_4 v119.2.2 p2.fPlace _ hv132)] (aK aN) ?_
  obtain ⟨v133,hv134,h⟩:=bd h
  refine V_ 9 [.cl true [3,4] (fun _=>c11 (⟨p1.fS,v121.2⟩:S_hatchwayref11_Hash) p2.fPlace _ hv134)] (aK aN) ?_
  obtain ⟨v135,hv136,h⟩:=bd h
  refine V_ 9 [.cl true [0,1,2] (fun _=>c10 v119.2.1 p0_1 p0_2 p0_3 p0_4 v119.2.2 p2.fPlace _ hv136)] (aK aN) ?_
  refine V0 6 ?_
  refine CDS h (fun h hb139=>?_) (fun h hb139=>?_)
  ·refine VL [(134,135,true)] 5 [] (aC hb139 aN) ?_
   refine CDS h (fun h hb142=>?_) (fun h hb142=>?_)
   ·obtain ⟨v143,hv144,h⟩:=bd h
    refine VL [(139,140,true)] 4 [.cl true [12,13] (fun _=>c12 F v131.1 v133.1 _ hv144)] (aC hb142 (aK aN)) ?_
    refine V0 1 ?_
    refine CDS h (fun h hb145=>?_) (fun h hb145=>?_)
    ·refine VL [(144,145,true)] 4 [.bL (Et.int .u8) 5 ([v131.1,v135.1]:List (List Int))] (aC hb145 (aR (aR aN))) ?_
     refine G4.imp (Imp.rowL 15 (by rfl)) ?_
     obtain ⟨v146,hv147,h⟩:=bd h
     refine VL [(144,145,true)] 1 [.cl true [15] (fun _=>c35 ([v131.1,v135.1]:List (List Int)) _ hv147)] (aK aN) ?_
     refine V0 1 ?_
     refine CDS h (fun h hb148=>?_) (fun h hb148=>?_)
     ·obtain ⟨v149,hv150,h⟩:=bd h
      refine VL [(150,151,true)] 3 [.cl true [0,1,2] (fun _=>c14 F v119.2.1 p0_1 p0_2 p0_3 p0_4 v119.2.2 _ hv150)] (aC hb148 (aK aN)) ?_
      obtain ⟨v151,hv152,h⟩:=bd h
      refine VL [(150,151,true)] 2 [.cl true [3,4] (fun _=>c16 (⟨p1.fS,v121.2⟩:S_hatchwayref11_Hash) _ hv152)] (aK aN) ?_
      obtain ⟨v153,hv154,h⟩:=bd h
      refine VL [(150,151,true)] 1 [.cl true [16,17] (fun _=>c15 F v149 v151 _ hv154)] (aK aN) ?_
      refine V0 2 ?_
      refine V0 0 ?_
      obtain rfl:=sj h
      exact T_ tbOk.t Tryz.results9 [0,1,2,3,4,5,6]
     refine VL [(150,151,false)] 3 [] (aC hb148 aN) ?_
     refine VL [(150,151,false)] 2 [] aN ?_
     refine VL [(150,151,false)] 1 [] aN ?_
     refine V0 2 ?_
     refine V0 0 ?_
     obtain rfl:=sj h
     exact T_ tbOk.t Tryz.results9 [0,1,2,3,4,5,6]
    refine VL [(144,145,false)] 5 [] (aC hb145 aN) ?_
    refine VL [(150,151,false)] 4 [] (aC rfl aN) ?_
    refine VL [(150,151,false)] 2 [] aN ?_
    refine VL [(150,151,false)] 1 [] aN ?_
    refine V0 2 ?_
    refine V0 0 ?_
    obtain rfl:=sj h
    exact T_ tbOk.t Tryz.results9 [0,1,2,3,4,5,6]
   refine VL [(139,140,false)] 4 [] (aC hb142 aN) ?_
   refine VL [(144,145,false)] 6 [] (aC rfl aN) ?_
   refine VL [(150,151,false)] 4 [] (aC rfl aN) ?_
   refine VL [(150,151,false)] 2 [] aN ?_
   refine VL [(150,151,false)] 1 [] aN ?_
   refine V0 2 ?_
   refine V0 0 ?_
   obtain rfl:=sj h
   exact T_ tbOk.t Tryz.results9 [0,1,2,3,4,5,6]
  refine VL [(134,135,false),(139,140,false)] 9 [] (aC hb139 (aC rfl aN)) ?_
  refine VL [(144,145,false)] 6 [] (aC rfl aN) ?_
  refine VL [(150,151,false)] 4 [] (aC rfl aN) ?_
  refine VL [(150,151,false)] 2 [] aN ?_
  refine VL [(150,151,false)] 1 [] aN ?_
  refine V0 2 ?_
  refine V0 0 ?_
  obtain rfl:=sj h
  exact T_ tbOk.t Tryz.results9 [0,1,2,3,4,5,6]
 refine V0 0 ?_
 obtain ⟨v155,hv156,h⟩:=bd h
 obtain ⟨v157,hv158,h⟩:=bd h
 refine DR tbOk hmix [9] [([],[]),([],[]),([],[]),([],[]),([7],[]),([0,1,2,8,9,10,11],[1,2]),([],[]),([],[]),([7],[]),([],[]),([7],[]),([],[]),([7],[]),([3,4,5,6],[4]),([],[]),([],[])] [.cl true [0,1,2,8,10] (fun _=>c18 F p0_0 p0_1 p0_2 p0_3 p0_4 p0_5 (cutX v1.1 0 (0+v1.2)) (cutX v3.1 0 (0+v3.2)) p2.fFlags _ hv156),.cl true [3,4,5,6] (fun _=>c32 F p1 p2.fKey p2.fB p2.fFlags _ hv158)] (aR (aR (aK (aR (aR (aR (aR (aK aN)))))))) (by rfl) ?_
 obtain ⟨v159,hv160,h⟩:=bd h
 obtain ⟨v161,hv162,h⟩:=bd h
 obtain ⟨v163,hv164,h⟩:=bd h
 refine V_ 16 [.cl (bif v155.1 == v157.1 then true else false) [8,9,5] (fun hg=>c33 F v1.1 v1.2 p2.fKey _ (gcl hg hv160)),.cl (bif (v155.1 == v157.1)&&v159 then true else false) [10,11,6] (fun hg=>c33 F v3.1 v3.2 p2.fB _ (gcl hg hv162)),.cl true [8,9] (fun _=>c34 v1.1 v1.2 _ hv164)] (aR (aR (aK (aR (aR (aK (aK aN))))))) ?_
 obtain ⟨v165,hv166,h⟩:=bd h
 refine V_ 2 [.cl true [10,11] (fun _=>c34 v3.1 v3.2 _ hv166)] (aK aN) ?_
 obtain ⟨v167,hv168,h⟩:=bd h
 refine V_ 4 [.cl true [0,1,2] (fun _=>c10 v155.2.1 p0_1 p0_2 p0_3 p0_4 v155.2.2 p2.fPlace _ hv168)] (aK aN) ?_
 obtain ⟨v169,hv170,h⟩:=bd h
 refine V_ 9 [.cl true [3,4] (fun _=>c11 (⟨p1.fS,v157.2⟩:S_hatchwayref11_Hash) p2.fPlace _ hv170)] (aK aN) ?_
 obtain ⟨v171,hv172,h⟩:=bd h
 refine V_ 9 [.cl true [0,1,2] (fun _=>c10 v155.2.1 p0_1 p0_2 p0_3 p0_4 v155.2.2 p2.fPlace _ hv172)] (aK aN) ?_
 refine V0 6 ?_
 refine CDS h (fun h hb175=>?_) (fun h hb175=>?_)
 ·refine VL [(134,135,true)] 5 [] (aC hb175 aN) ?_
  refine CDS h (fun h hb178=>?_) (fun h hb178=>?_)
  ·obtain ⟨v179,hv180,h⟩:=bd h
   refine VL [(139,140,true)] 4 [.cl true [12,13] (fun _=>c12 F v167.1 v169.1 _ hv180)] (aC hb178 (aK aN)) ?_
   refine V0 1 ?_
   refine CDS h (fun h hb181=>?_) (fun h hb181=>?_)
   ·refine VL [(144,145,true)] 4 [.bL (Et.int .u8) 5 ([v167.1,v171.1]:List (List Int))] (aC hb181 (aR (aR aN))) ?_
    refine G4.imp (Imp.rowL 15 (by rfl)) ?_
    obtain ⟨v182,hv183,h⟩:=bd h
    refine VL [(144,145,true)] 1 [.cl true [15] (fun _=>c35 ([v167.1,v171.1]:List (List Int)) _ hv183)] (aK aN) ?_
    refine V0 1 ?_
    refine CDS h (fun h hb184=>?_) (fun h hb184=>?_)
    ·obtain ⟨v185,hv186,h⟩:=bd h
     refine VL [(150,151,true)] 3 [.cl true [0,1,2] (fun _=>c14 F v155.2.1 p0_1 p0_2 p0_3 p0_4 v155.2.2 _ hv186)] (aC hb184 (aK aN)) ?_
     obtain ⟨v187,hv188,h⟩:=bd h
     refine VL [(150,151,true)] 2 [.cl true [3,4] (fun _=>c16 (⟨p1.fS,v157.2⟩:S_hatchwayref11_Hash) _ hv188)] (aK aN) ?_
     obtain ⟨v189,hv190,h⟩:=bd h
     refine VL [(150,151,true)] 1 [.cl true [16,17] (fun _=>c15 F v185 v187 _ hv190)] (aK aN) ?_
     refine V0 2 ?_
     refine V0 0 ?_
     obtain rfl:=sj h
     exact T_ tbOk.t Tryz.results9 [0,1,2,3,4,5,6]
    refine VL [(150,151,false)] 3 [] (aC hb184 aN) ?_
    refine VL [(150,151,false)] 2 [] aN ?_
    refine VL [(150,151,false)] 1 [] aN ?_
    refine V0 2 ?_
    refine V0 0 ?_
    obtain rfl:=sj h
    exact T_ tbOk.t Tryz.results9 [0,1,2,3,4,5,6]
   refine VL [(144,145,false)] 5 [] (aC hb181 aN) ?_
   refine VL [(150,151,false)] 4 [] (aC rfl aN) ?_
   refine VL [(150,151,false)] 2 [] aN ?_
   refine VL [(150,151,false)] 1 [] aN ?_
   refine V0 2 ?_
   refine V0 0 ?_
   obtain rfl:=sj h
   exact T_ tbOk.t Tryz.results9 [0,1,2,3,4,5,6]
  refine VL [(139,140,false)] 4 [] (aC hb178 aN) ?_
  refine VL [(144,145,false)] 6 [] (aC rfl aN) ?_
  refine VL [(150,151,false)] 4 [] (aC rfl aN) ?_
  refine VL [(150,151,false)] 2 [] aN ?_
  refine VL [(150,151,false)] 1 [] aN ?_
  refine V0 2 ?_
  refine V0 0 ?_
  obtain rfl:=sj h
  exact T_ tbOk.t Tryz.results9 [0,1,2,3,4,5,6]
 refine VL [(134,135,false),(139,140,false)] 9 [] (aC hb175 (aC rfl aN)) ?_
 refine VL [(144,145,false)] 6 [] (aC rfl aN) ?_
 refine VL [(150,151,false)] 4 [] (aC rfl aN) ?_
 refine VL [(150,151,false)] 2 [] aN ?_
 refine VL [(150,151,false)] 1 [] aN ?_
 refine V0 2 ?_
 refine V0 0 ?_
 obtain rfl:=sj h
 exact T_ tbOk.t Tryz.results9 [0,1,2,3,4,5,6]
def fn3_b2 (F:Nat) (p0:MSpec) (v16:(List HCell)×Int×Int×Int×Int×(List (ByteArray×Int))×Int) (v20:Int×Int×Int×Int×(List RPlace)×Int) (xs38:List HCell) (xs39:List (ByteArray×Int)) (xs40:List RPlace) (rl2:Int→Option ((Unit)⊕(Bool))) (x60:Int):Option ((Unit)⊕(Bool)) :=
 bif decide (x60 < p0.fEntries) then (Option.bind (fn10 xs38 v16.2.1 v16.2.2.1 v16.2.2.2.1 v16.2.2.2.2.1 xs39 x60) fun v76=>(Option.bind (fn11 (⟨(⟨v20.1,v20.2.1,v20.2.2.1,v20.2.2.2.1⟩:MSpec),xs40⟩:S_hatchwayref11_Hash) x60) fun v78=>(Option.bind (fn12 F v76.1 v78.1) fun v80=>(bif !v80 then (some (.inr (false))) else (rl2 (IntKind.i64.wrap (x60+1))))))) else (some (.inl ()))
def fn3_l2 (F:Nat) (p0:MSpec) (v16:(List HCell)×Int×Int×Int×Int×(List (ByteArray×Int))×Int) (v20:Int×Int×Int×Int×(List RPlace)×Int) (xs38:List HCell) (xs39:List (ByteArray×Int)) (xs40:List RPlace):Nat→Int→Option ((Unit)⊕(Bool))
 | 0,_=>none
 | n71+1,x60=>fn3_b2 F p0 v16 v20 xs38 xs39 xs40 (fn3_l2 F p0 v16 v20 xs38 xs39 xs40 n71) x60
theorem fn3_l2_s (F:Nat) (p0:MSpec) (v16:(List HCell)×Int×Int×Int×Int×(List (ByteArray×Int))×Int) (v20:Int×Int×Int×Int×(List RPlace)×Int) (xs38:List HCell) (xs39:List (ByteArray×Int)) (xs40:List RPlace) (n71:Nat) (x60:Int):fn3_l2 F p0 v16 v20 xs38 xs39 xs40 (n71+1) x60=fn3_b2 F p0 v16 v20 xs38 xs39 xs40 (fn3_l2 F p0 v16 v20 xs38 xs39 xs40 n71) x60:=rfl
def fn3_k2 (F:Nat) (v16:(List HCell)×Int×Int×Int×Int×(List (ByteArray×Int))×Int) (v20:Int×Int×Int×Int×(List RPlace)×Int) (xs38:List HCell) (xs39:List (ByteArray×Int)) (xs40:List RPlace):Option (Bool) :=
 Option.bind (fn14 F xs38 v16.2.1 v16.2.2.1 v16.2.2.2.1 v16.2.2.2.2.1 xs39) fun v83=>(Option.bind (fn14 F xs38 v16.2.1 v16.2.2.1 v16.2.2.2.1 v16.2.2.2.2.1 xs39) fun v85=>(Option.bind (fn13 v83 v85) fun v87=>(bif v87 then (Option.bind (fn14 F xs38 v16.2.1 v16.2.2.1 v16.2.2.2.1 v16.2.2.2.2.1 xs39) fun v90=>(Option.bind (fn16 (⟨(⟨v20.1,v20.2.1,v20.2.2.1,v20.2.2.2.1⟩:MSpec),xs40⟩:S_hatchwayref11_Hash)) fun v92=>(Option.bind (fn15 F v90 v92) fun v94=>(Option.bind (bif bif v94 then true else false then fn6 F else some false) fun v96=>(some (v94&&v96)))))) else (some (false)))))
def fn3_b1 (F:Nat) (p1:List DoK) (v16:(List HCell)×Int×Int×Int×Int×(List (ByteArray×Int))×Int) (v20:Int×Int×Int×Int×(List RPlace)×Int) (rl1:(List HCell)→(List (ByteArray×Int))→(List RPlace)→Int→Option (((List HCell)×(List (ByteArray×Int))×(List RPlace))⊕(Bool))) (xs29:List HCell) (xs30:List (ByteArray×Int)) (xs31:List RPlace) (x32:Int):Option (((List HCell)×(List (ByteArray×Int))×(List RPlace))⊕(Bool)) :=
 bif decide (x32 < (p1.length:Int)) then (bif inb x32 p1.length then (Option.bind (fn9 F xs29 v16.2.1 v16.2.2.1 v16.2.2.2.1 v16.2.2.2.2.1 xs30 (⟨(⟨v20.1,v20.2.1,v20.2.2.1,v20.2.2.2.1⟩:MSpec),xs31⟩:S_hatchwayref11_Hash) (⟨(gt p1 x32).fWhat,(gt p1 x32).fKey.2,(gt p1 x32).fB.2,(gt p1 x32).fFlags,(gt p1 x32).fPlace,(gt p1 x32).fOff⟩:Do)) fun v49=>(bif !v49.1 then (some (.inr (false))) else (rl1 v49.2.1 v49.2.2.1 v49.2.2.2 (IntKind.i64.wrap (x32+1))))) else none) else (some (.inl (xs29,xs30,xs31)))
def fn3_l1 (F:Nat) (p1:List DoK) (v16:(List HCell)×Int×Int×Int×Int×(List (ByteArray×Int))×Int) (v20:Int×Int×Int×Int×(List RPlace)×Int):Nat→(List HCell)→(List (ByteArray×Int))→(List RPlace)→Int→Option (((List HCell)×(List (ByteArray×Int))×(List RPlace))⊕(Bool))
 | 0,_,_,_,_=>none
 | n43+1,xs29,xs30,xs31,x32=>fn3_b1 F p1 v16 v20 (fn3_l1 F p1 v16 v20 n43) xs29 xs30 xs31 x32
theorem fn3_l1_s (F:Nat) (p1:List DoK) (v16:(List HCell)×Int×Int×Int×Int×(List (ByteArray×Int))×Int) (v20:Int×Int×Int×Int×(List RPlace)×Int) (n43:Nat) (xs29:List HCell) (xs30:List (ByteArray×Int)) (xs31:List RPlace) (x32:Int):fn3_l1 F p1 v16 v20 (n43+1) xs29 xs30 xs31 x32=fn3_b1 F p1 v16 v20 (fn3_l1 F p1 v16 v20 n43) xs29 xs30 xs31 x32:=rfl
def fn3_k1 (F:Nat) (p0:MSpec) (v16:(List HCell)×Int×Int×Int×Int×(List (ByteArray×Int))×Int) (v20:Int×Int×Int×Int×(List RPlace)×Int) (xs38:List HCell) (xs39:List (ByteArray×Int)) (xs40:List RPlace):Option (Bool) :=
 Option.bind (fn3_l2 F p0 v16 v20 xs38 xs39 xs40 F 0) fun o69=>(match o69 with | .inl u=>fn3_k2 F v16 v20 xs38 xs39 xs40 | .inr u=>some u)
def fn3 (F:Nat) (p0:MSpec) (p1:List DoK):Option (Bool) :=
 Option.bind (fn5 F p0 p1) fun v1=>(bif v1 then (Option.bind (fn6 F) fun v4=>(some (v4))) else (frk2 (fn7 F p0) (fun v6=>frk2 (fn8 F p0) (fun v8=>bif v6 != v8 then (some (false)) else (bif true != true then (some (false)) else (Option.bind (fn6 F) fun v12=>(some (v12))))) (fun v14=>none)) (fun v16=>frk2 (fn8 F p0) (fun v18=>none) (fun v20=>bif v16.2.2.2.2.2.2 != v20.2.2.2.2.2 then (some (false)) else (bif false != false then (some (false)) else (Option.bind (fn3_l1 F p1 v16 v20 F v16.1 v16.2.2.2.2.2.1 v20.2.2.2.2.1 0) fun o41=>(match o41 with | .inl u=>fn3_k1 F p0 v16 v20 u.1 u.2.1 u.2.2 | .inr u=>some u)))))))
theorem c3 (F:Nat) (p0:MSpec) (p1:List DoK) (r:Bool) (h:fn3 F p0 p1=some r):Con Tryz.prog 3 [.ag [vb p0.fKind,vi p0.fKey,vi p0.fValue,vi p0.fEntries],.sl 0] [(0,.rds DoK.E DoK.K p1)] 1 (.v (.bool r)) [] 1:=by
 rw [fn3] at h
 refine Con.of_body Tryz.func3 rfl Tryz.ntmps3 rfl fun w F0 ρ gl=>?_
 obtain ⟨v1,hv2,h⟩:=bd h
 refine V_ 5 [.cl true [0] (fun _=>c5 F p0 p1 _ hv2)] (aK aN) ?_
 refine V0 0 ?_
 refine C_ h (fun h hb3=>?_) fun h hb3=>?_
 ·obtain ⟨v4,hv5,h⟩:=bd h
  refine V_ 1 [.cl true [] (fun _=>c6 F _ hv5)] (aK aN) ?_
  refine V0 1 ?_
  obtain rfl:=sj h
  exact T_ tbOk.t Tryz.results3 [0]
 refine V0 1 ?_
 refine fk2 h (fun v6 hv7 h=>?_) (fun v16 hv17 h=>?_)
 ·refine V_ 1 [.cl true [] (fun _=>c7_0 F p0 v6 hv7)] (aK aN) ?_
  refine V0 6 ?_
  refine fk2 h (fun v8 hv9 h=>?_) (fun v14 hv15 h=>?_)
  ·refine V_ 1 [.cl true [] (fun _=>c8_0 F p0 v8 hv9)] (aK aN) ?_
   refine V0 8 ?_
   refine CDS h (fun h hb10=>?_) (fun h hb10=>?_)
   ·refine VL [(31,32,true)] 7 [] (aC hb10 aN) ?_
    refine V0 0 ?_
    refine CDT rfl (by rfl) ?_
    refine V0 1 ?_
    obtain rfl:=sj h
    exact T_ tbOk.t Tryz.results3 [0]
   refine VL [(31,32,false)] 7 [.pn,.pn] (aC hb10 aN) ?_
   refine V0 0 ?_
   refine C_ h (fun h hb11=>?_) fun h hb11=>?_
   ·refine V0 1 ?_
    obtain rfl:=sj h
    exact T_ tbOk.t Tryz.results3 [0]
   refine V_ 2 [.pn] aN ?_
   refine CDT rfl (by rfl) ?_
   obtain ⟨v12,hv13,h⟩:=bd h
   refine V_ 1 [.cl true [] (fun _=>c6 F _ hv13)] (aK aN) ?_
   refine V0 1 ?_
   obtain rfl:=sj h
   exact T_ tbOk.t Tryz.results3 [0]
  cases h
 refine V_ 1 [.cl true [] (fun _=>c7_1 F p0 v16 hv17)] (aK aN) ?_
 refine V0 6 ?_
 refine fk2 h (fun v18 hv19 h=>?_) (fun v20 hv21 h=>?_)
 ·cases h
 refine V_ 1 [.cl true [] (fun _=>c8_1 F p0 v20 hv21)] (aK aN) ?_
 refine V0 8 ?_
 refine CDS h (fun h hb22=>?_) (fun h hb22=>?_)
 ·refine VL [(31,32,true)] 7 [] (aC hb22 aN) ?_
  refine V0 0 ?_
  refine CDT rfl (by rfl) ?_
  refine V0 1 ?_
  obtain rfl:=sj h
  exact T_ tbOk.t Tryz.results3 [0]
 refine VL [(31,32,false)] 7 [.pn,.pn] (aC hb22 aN) ?_
 refine V0 0 ?_
 refine C_ h (fun h hb23=>?_) fun h hb23=>?_
 ·refine V0 1 ?_
  obtain rfl:=sj h
  exact T_ tbOk.t Tryz.results3 [0]
 refine V_ 2 [.pn] aN ?_
 refine CF ?_
 refine V0 1 ?_
 obtain ⟨o41,hl42,h⟩:=bd h
 refine CTS 0 (fun u99=>⟨[(2,.p 1 0),(5,.p 2 0),(7,.p 5 0)],[(0,.rds DoK.E DoK.K p1),(1,.cells 24 [vb p0.fKind,vi p0.fKey,vi p0.fValue,vi p0.fEntries]),(2,.cells 63 [.sl 3,vb v16.2.1,vi v16.2.2.1,vi v16.2.2.2.1,vi v16.2.2.2.2.1,.mp 4]),(3,.ex (pO HCell.D 65 u99.1) []),(4,.omap Kn.str (Vn.int .i64) u99.2.1),(5,.cells 69 [vb v20.1,vi v20.2.1,vi v20.2.2.1,vi v20.2.2.2.1,.sl 6]),(6,.ex (pO RPlace.D 71 u99.2.2) [])],7⟩) o41 ?_ (fun u99 hu99=>?_)
 ·have h045:=h
  clear h
  refine G4.imp (I_ [0,1,2,3,4,5,6]) (LP (fun (n:Nat) (s:(List HCell)×(List (ByteArray×Int))×(List RPlace)×Int)=>fn3_l1 F p1 v16 v20 n s.1 s.2.1 s.2.2.1 s.2.2.2) (fun (s:(List HCell)×(List (ByteArray×Int))×(List RPlace)×Int)=>⟨[(1,.sl 0),(2,.p 1 0),(5,.p 2 0),(7,.p 5 0),(9,vi s.2.2.2)],[(0,.rds DoK.E DoK.K p1),(1,.cells 24 [vb p0.fKind,vi p0.fKey,vi p0.fValue,vi p0.fEntries]),(2,.cells 63 [.sl 3,vb v16.2.1,vi v16.2.2.1,vi v16.2.2.2.1,vi v16.2.2.2.2.1,.mp 4]),(3,.ex (pO HCell.D 65 s.1) []),(4,.omap Kn.str (Vn.int .i64) s.2.1),(5,.cells 69 [vb v20.1,vi v20.2.1,vi v20.2.2.1,vi v20.2.2.2.1,.sl 6]),(6,.ex (pO RPlace.D 71 s.2.2.1) [])],7⟩) (fun _=>rfl) (s0:=(v16.1,v16.2.2.2.2.2.1,v20.2.2.2.2.1,0)) hl42 ?_)
  clear hl42
  rintro R46 n43 ⟨xs29,xs30,xs31,x32⟩ h ih44
  replace h:=(fn3_l1_s F p1 v16 v20 n43 xs29 xs30 xs31 x32).symm.trans h
  rw [fn3_b1] at h
  refine V0 4 ?_
  refine C_ h (fun h hb47=>?_) fun h hb47=>?_
  ·obtain ⟨hk48,h⟩:=ck h
   obtain ⟨v49,hv50,h⟩:=bd h
   refine V_ 7 [.kw DoK.E DoK.K _ [vi ((gt p1 x32).fWhat)] [] [.v (.int .u64 ((gt p1 x32).fFlags)),vi ((gt p1 x32).fPlace),vi ((gt p1 x32).fOff)] ⟨(Et.int .u8),(gt p1 x32).fKey.1,(gt p1 x32).fKey.2⟩ ⟨(Et.int .u8),(gt p1 x32).fB.1,(gt p1 x32).fB.2⟩,.cl true [2,3,4,5,6,7,8] (fun _=>c9 F xs29 v16.2.1 v16.2.2.1 v16.2.2.2.1 v16.2.2.2.2.1 xs30 (⟨(⟨v20.1,v20.2.1,v20.2.2.1,v20.2.2.2.1⟩:MSpec),xs31⟩:S_hatchwayref11_Hash) (⟨(gt p1 x32).fWhat,(gt p1 x32).fKey.2,(gt p1 x32).fB.2,(gt p1 x32).fFlags,(gt p1 x32).fPlace,(gt p1 x32).fOff⟩:Do) _ hv50)] (aC hk48 (aR (aC hk48 (aR (aR (aR (aK aN))))))) ?_
   refine V0 1 ?_
   refine C_ h (fun h hb51=>?_) fun h hb51=>?_
   ·refine V0 1 ?_
    obtain rfl:=sj h
    replace h:=h045
    refine V0 0 ?_
    obtain rfl:=sj h
    exact T_ tbOk.t Tryz.results3 [0]
   refine V0 3 ?_
   exact ih44 (v49.2.1,v49.2.2.1,v49.2.2.2,IntKind.i64.wrap (x32+1)) h _ _ (I_ [0,1,2,3,4,5,6])
  refine V0 0 ?_
  obtain rfl:=sj h
  exact CES _ rfl (I_ [0,1,2,3,4,5,6])
 subst hu99
 change fn3_k1 F p0 v16 v20 u99.1 u99.2.1 u99.2.2=_ at h
 rw [fn3_k1] at h
 refine V0 1 ?_
 obtain ⟨o69,hl70,h⟩:=bd h
 refine CTS 2 (fun u98=>⟨[(5,.p 1 0),(7,.p 4 0)],[(0,.rds DoK.E DoK.K p1),(1,.cells 63 [.sl 2,vb v16.2.1,vi v16.2.2.1,vi v16.2.2.2.1,vi v16.2.2.2.2.1,.mp 3]),(2,.ex (pO HCell.D 65 u99.1) []),(3,.omap Kn.str (Vn.int .i64) u99.2.1),(4,.cells 69 [vb v20.1,vi v20.2.1,vi v20.2.2.1,vi v20.2.2.2.1,.sl 5]),(5,.ex (pO RPlace.D 71 u99.2.2) [])],6⟩) o69 ?_ (fun u98 hu98=>?_)
 ·have h073:=h
  clear h
  refine G4.imp (I_ [0,1,2,3,4,5,6]) (LP (fun (n:Nat) (s:Int)=>fn3_l2 F p0 v16 v20 u99.1 u99.2.1 u99.2.2 n s) (fun (s:Int)=>⟨[(2,.p 1 0),(5,.p 2 0),(7,.p 5 0),(10,vi s)],[(0,.rds DoK.E DoK.K p1),(1,.cells 24 [vb p0.fKind,vi p0.fKey,vi p0.fValue,vi p0.fEntries]),(2,.cells 63 [.sl 3,vb v16.2.1,vi v16.2.2.1,vi v16.2.2.2.1,vi v16.2.2.2.2.1,.mp 4]),(3,.ex (pO HCell.D 65 u99.1) []),(4,.omap Kn.str (Vn.int .i64) u99.2.1),(5,.cells 69 [vb v20.1,vi v20.2.1,vi v20.2.2.1,vi v20.2.2.2.1,.sl 6]),(6,.ex (pO RPlace.D 71 u99.2.2) [])],7⟩) (fun _=>rfl) (s0:=0) hl70 ?_)
  clear hl70
  rintro R74 n71 x60 h ih72
  replace h:=(fn3_l2_s F p0 v16 v20 u99.1 u99.2.1 u99.2.2 n71 x60).symm.trans h
  rw [fn3_b2] at h
  refine V0 4 ?_
  refine C_ h (fun h hb75=>?_) fun h hb75=>?_
  ·obtain ⟨v76,hv77,h⟩:=bd h
   refine V_ 3 [.cl true [2,3,4] (fun _=>c10 u99.1 v16.2.1 v16.2.2.1 v16.2.2.2.1 v16.2.2.2.2.1 u99.2.1 x60 _ hv77)] (aK aN) ?_
   obtain ⟨v78,hv79,h⟩:=bd h
   refine V_ 8 [.cl true [5,6] (fun _=>c11 (⟨(⟨v20.1,v20.2.1,v20.2.2.1,v20.2.2.2.1⟩:MSpec),u99.2.2⟩:S_hatchwayref11_Hash) x60 _ hv79)] (aK aN) ?_
   obtain ⟨v80,hv81,h⟩:=bd h
   refine V_ 8 [.cl true [7,8] (fun _=>c12 F v76.1 v78.1 _ hv81)] (aK aN) ?_
   refine V0 1 ?_
   refine C_ h (fun h hb82=>?_) fun h hb82=>?_
   ·refine V0 1 ?_
    obtain rfl:=sj h
    replace h:=h073
    refine V0 0 ?_
    obtain rfl:=sj h
    exact T_ tbOk.t Tryz.results3 [0]
   refine V0 3 ?_
   exact ih72 (IntKind.i64.wrap (x60+1)) h _ _ (I_ [0,1,2,3,4,5,6])
  refine V0 0 ?_
  obtain rfl:=sj h
  exact CES _ rfl (I_ [0,2,3,4,5,6])
 subst hu98
 change fn3_k2 F v16 v20 u99.1 u99.2.1 u99.2.2=_ at h
 rw [fn3_k2] at h
 obtain ⟨v83,hv84,h⟩:=bd h
 refine V_ 2 [.cl true [1,2,3] (fun _=>c14 F u99.1 v16.2.1 v16.2.2.1 v16.2.2.2.1 v16.2.2.2.2.1 u99.2.1 _ hv84)] (aK aN) ?_
 obtain ⟨v85,hv86,h⟩:=bd h
 refine V_ 2 [.cl true [1,2,3] (fun _=>c14 F u99.1 v16.2.1 v16.2.2.1 v16.2.2.2.1 v16.2.2.2.2.1 u99.2.1 _ hv86)] (aK aN) ?_
 obtain ⟨v87,hv88,h⟩:=bd h
 refine V_ 2 [.sx,.cl true [9,8,6,7] (fun _=>c13 v83 v85 _ hv88)] (aK aN) ?_
 refine V0 0 ?_
 refine CDS h (fun h hb89=>?_) (fun h hb89=>?_)
 ·obtain ⟨v90,hv91,h⟩:=bd h
  refine VL [(83,84,true)] 3 [.cl true [1,2,3] (fun _=>c14 F u99.1 v16.2.1 v16.2.2.1 v16.2.2.2.1 v16.2.2.2.2.1 u99.2.1 _ hv91)] (aC hb89 (aK aN)) ?_
  obtain ⟨v92,hv93,h⟩:=bd h
  refine VL [(83,84,true)] 2 [.cl true [4,5] (fun _=>c16 (⟨(⟨v20.1,v20.2.1,v20.2.2.1,v20.2.2.2.1⟩:MSpec),u99.2.2⟩:S_hatchwayref11_Hash) _ hv93)] (aK aN) ?_
  obtain ⟨v94,hv95,h⟩:=bd h
  refine VL [(83,84,true)] 1 [.cl true [10,11] (fun _=>c15 F v90 v92 _ hv95)] (aK aN) ?_
  obtain ⟨v96,hv97,h⟩:=bd h
  refine V_ 5 [.cl (bif v94 then true else false) [] (fun hg=>c6 F _ (gcl hg hv97))] (aR (aR (aK aN))) ?_
  refine V0 0 ?_
  obtain rfl:=sj h
  exact T_ tbOk.t Tryz.results3 [0]
 refine VL [(83,84,false)] 3 [] (aC hb89 aN) ?_
 refine VL [(83,84,false)] 2 [] aN ?_
 refine VL [(83,84,false)] 1 [] aN ?_
 refine VL [(90,91,false)] 3 [] (aC rfl aN) ?_
 refine V0 2 ?_
 refine V0 0 ?_
 obtain rfl:=sj h
 exact T_ tbOk.t Tryz.results3 [0]
end Go.Proofs.YteicbpfkljnemaaGreat
namespace Go.Proofs.YteicbpfkljnemaaGreat
open Go Go.HW
set_option maxRecDepth 8000
theorem w64 {n:Int} (h:-9223372036854775808≤n∧n≤9223372036854775807):IntKind.i64.wrap n=n:=by rw [IntKind.wrap_i64];omega
theorem inb_iff {i:Int} {n:Nat}:inb i n=true↔0≤i∧i < (n:Int):=by simp [inb]
theorem gt_set {α:Type} [Inhabited α] {xs:List α} {i j:Int} {v:α} (hi:inb i xs.length=true) (hj:0≤j):gt (xs.set i.toNat v) j=if i=j then v else gt xs j:=by
 have h:=inb_iff.1 hi
 unfold gt
 by_cases he:i=j
 ·subst he
  rw [if_pos rfl,List.getD_eq_getElem?_getD,List.getElem?_set_self (by omega)];rfl
 rw [if_neg he,List.getD_eq_getElem?_getD,List.getElem?_set_ne (by omega),← List.getD_eq_getElem?_getD]
theorem gt_mem {α:Type} [Inhabited α] {xs:List α} {i:Int} (hi:inb i xs.length=true):gt xs i∈xs:=by
 have h:=inb_iff.1 hi
 unfold gt
 rw [List.getD_eq_getElem?_getD,List.getElem?_eq_getElem (by omega)]
 exact List.getElem_mem _
section
variable {κ α:Type} [DecidableEq κ]
theorem mget_put (z v:α) (k t:κ):∀xs:List (κ×α),mget (mput xs k v) t z=if k=t then v else mget xs t z
 | []=>by by_cases h:k=t <;> simp [mget,mput,mfind,h]
 | p::xs=>by
  have ih:=mget_put z v k t xs
  simp only [mget] at ih ⊢
  by_cases hp:p.1=k
  ·by_cases h:k=t
   ·simp [mput,mfind,hp,h]
   have:¬p.1=t:=by rw [hp];exact h
   simp [mput,mfind,hp,h]
  by_cases h:p.1=t
  ·have:¬k=t:=by intro e;exact hp (h.trans e.symm)
   have h2:¬t=k:=fun e=>this e.symm
   simp [mput,mfind,h,this,h2]
  simp only [mput,hp,decide_false,cond_false,mfind,h]
  exact ih
theorem mhas_put (k:κ) (v:α) (t:κ):∀xs:List (κ×α),mhas (mput xs k v) t=(decide (k=t)||mhas xs t)
 | []=>by by_cases h:k=t <;> simp [mhas,mput,mfind,h]
 | p::xs=>by
  have ih:=mhas_put k v t xs
  simp only [mhas] at ih ⊢
  by_cases hp:p.1=k
  ·by_cases h:k=t
   ·simp [mput,mfind,hp,h]
   have:¬p.1=t:=by rw [hp];exact h
   simp [mput,mfind,hp,h]
  by_cases h:p.1=t
  ·have:¬k=t:=by intro e;exact hp (h.trans e.symm)
   have h2:¬t=k:=fun e=>this e.symm
   simp [mput,mfind,h,this,h2]
  simp only [mput,hp,decide_false,cond_false,mfind,h]
  exact ih
theorem mhas_iff (xs:List (κ×α)) (k:κ):mhas xs k=true↔∃q∈xs,q.1=k:=by
 induction xs with
 | nil=>simp [mhas,mfind]
 | cons p xs ih =>
  by_cases h:p.1=k
  ·constructor
   ·intro _;exact ⟨p,by simp,h⟩
   intro _;simp [mhas,mfind,h]
  have e:mhas (p::xs) k=mhas xs k:=by simp [mhas,mfind,h]
  rw [e,ih]
  constructor
  ·rintro ⟨q,h1,h2⟩;exact ⟨q,by simp [h1],h2⟩
  rintro ⟨q,h1,h2⟩
  rcases List.mem_cons.1 h1 with rfl | h1
  ·exact absurd h2 h
  exact ⟨q,h1,h2⟩
theorem mput_new:∀(xs:List (κ×α)) (k:κ) (v:α),mhas xs k=false→mput xs k v=xs++[(k,v)]
 | [],k,v,_=>rfl
 | p::xs,k,v,h=>by
  by_cases hp:p.1=k
  ·simp [mhas,mfind,hp] at h
  have:mhas xs k=false:=by simpa [mhas,mfind,hp] using h
  simp [mput,hp,mput_new xs k v this]
theorem mput_old:∀(xs:List (κ×α)) (k:κ) (v:α),mhas xs k=true→(mput xs k v).map (·.1)=xs.map (·.1)
 | [],k,v,h=>by simp [mhas,mfind] at h
 | p::xs,k,v,h=>by
  by_cases hp:p.1=k
  ·simp [mput,hp]
  have h':mhas xs k=true:=by simpa [mhas,mfind,hp] using h
  simp [mput,hp,mput_old xs k v h']
def KND (xs:List (κ×α)):Prop:=(xs.map (·.1)).Nodup
theorem KND.push {xs:List (κ×α)} {k:κ} {v:α} (h:KND xs) (hk:mhas xs k=false):KND (mput xs k v):=by
 rw [mput_new xs k v hk,KND,List.map_append,List.nodup_append]
 refine ⟨h,by simp,fun a ha b hb=>?_⟩
 simp at hb;subst hb
 obtain ⟨q,h1,rfl⟩:=List.mem_map.1 ha
 intro e
 have:=(mhas_iff xs b).2 ⟨q,h1,e⟩
 rw [hk] at this;cases this
theorem KND.put {xs:List (κ×α)} {k:κ} {v:α} (h:KND xs):KND (mput xs k v):=by
 cases hm:mhas xs k with
 | false=>exact h.push hm
 | true=>unfold KND;rw [mput_old xs k v hm];exact h
theorem mdel_sub:∀(xs:List (κ×α)) (k:κ),(mdel xs k).Sublist xs
 | [],_=>List.Sublist.refl _
 | p::xs,k=>by
  by_cases h:p.1=k
  ·simp [mdel,h]
  simp only [mdel,h,decide_false,cond_false];exact (mdel_sub xs k).cons_cons p
theorem KND.del {xs:List (κ×α)} {k:κ} (h:KND xs):KND (mdel xs k):=((mdel_sub xs k).map _).nodup h
theorem mfind_del:∀(xs:List (κ×α)) (k t:κ),KND xs→mfind (mdel xs k) t=if k=t then none else mfind xs t
 | [],k,t,_=>by simp [mdel,mfind]
 | p::xs,k,t,h=>by
  have hn:=List.nodup_cons.1 (show (p.1::xs.map (·.1)).Nodup from h)
  by_cases hp:p.1=k
  ·have e:mdel (p::xs) k=xs:=by simp [mdel,hp]
   rw [e]
   by_cases ht:k=t
   ·subst ht
    have:mhas xs k=false:=by
     cases hh:mhas xs k with
     | false=>rfl
     | true=>obtain ⟨q,h1,h2⟩:=(mhas_iff xs k).1 hh;exact absurd (List.mem_map.2 ⟨q,h1,h2.trans hp.symm⟩) hn.1
    rw [if_pos rfl];simpa [mhas] using this
   have:¬p.1=t:=by rw [hp];exact ht
   rw [if_neg ht];simp [mfind,this]
  have e:mdel (p::xs) k=p::mdel xs k:=by simp [mdel,hp]
  rw [e]
  have ih:=mfind_del xs k t hn.2
  by_cases ht:p.1=t
  ·have:¬k=t:=fun e=>hp (ht.trans e.symm)
   rw [if_neg this];simp [mfind,ht]
  simp only [mfind,ht,decide_false,cond_false];exact ih
theorem mhas_del {xs:List (κ×α)} (k t:κ) (h:KND xs):mhas (mdel xs k) t=(!decide (k=t)&&mhas xs t):=by
 unfold mhas;rw [mfind_del xs k t h]
 by_cases ht:k=t <;> simp [ht]
theorem mget_del {xs:List (κ×α)} (k t:κ) (z:α) (h:KND xs) (ht:k≠t):mget (mdel xs k) t z=mget xs t z:=by
 unfold mget;rw [mfind_del xs k t h,if_neg ht]
end
def ffree:List HCell→Nat→Option Nat
 | [],_=>none
 | c::l,i=>bif c.fused then ffree l (i+1) else some i
theorem ffree_some:∀{l:List HCell} {i n:Nat},ffree l i=some n→i≤n∧∃c,l[n - i]?=some c∧c.fused=false
 | [],i,n,h=>by cases h
 | c::l,i,n,h=>by
  simp only [ffree] at h
  cases hc:c.fused with
  | true =>
   rw [hc,cond_true] at h
   obtain ⟨h1,d,h2,h3⟩:=ffree_some h
   refine ⟨by omega,d,?_,h3⟩
   rw [show n - i=(n - (i+1))+1 from by omega];exact h2
  | false=>rw [hc,cond_false] at h;cases h;exact ⟨Nat.le_refl _,c,by simp,hc⟩
theorem free_l (cells:List HCell) (hl:cells.length≤100000):∀(m n i:Nat),m+i=cells.length→m < n →
  fn120_l1 (stepR (fun (s:Int) (y:Int)=>fn48_r1 s y)) goR cells n ((0,0):Int×Nat) (i:Int)=(match ffree (cells.drop i) i with | none=>some (.inl (0,0)) | some j=>some (.inr ((j:Int),1)))
 | 0,n+1,i,h,hn=>by
  have e1:cells.drop i=[]:=List.drop_eq_nil_of_le (by omega)
  have e2:decide ((i:Int) < (cells.length:Int))=false:=by simp;omega
  simp only [fn120_l1,fn120_b1,e1,e2,cond_false,ffree]
 | m+1,n+1,i,h,hn=>by
  have hi:i < cells.length:=by omega
  have e1:cells.drop i=cells[i]::cells.drop (i+1):=List.drop_eq_getElem_cons hi
  have e2:decide ((i:Int) < (cells.length:Int))=true:=by simp;omega
  have e3:inb (i:Int) cells.length=true:=inb_iff.2 ⟨by omega,by omega⟩
  have e4:gt cells (i:Int)=cells[i]:=by unfold gt;simp [hi]
  simp only [fn120_l1,fn120_b1,e1,e2,e3,e4,cond_true,ffree]
  cases hc:cells[i].fused with
  | false=>rfl
  | true =>
   have e5:IntKind.i64.wrap ((i:Int)+1)=((i+1:Nat):Int):=by rw [w64 (by omega)];rfl
   simp only [Bool.not_true,cond_false,cond_true,e5]
   exact free_l cells hl m n (i+1) (by omega) (by omega)
theorem first_eq {F:Nat} {cells:List HCell} (hl:cells.length≤100000) (hF:cells.length < F) (a K V E:Int) (keys:List (ByteArray×Int)) :
  fn48 F cells a K V E keys=some (match ffree cells 0 with | none=>.inl 8 | some j=>.inr (j:Int)):=by
 have h:=free_l cells hl cells.length F 0 (by omega) hF
 rw [List.drop_zero] at h
 simp only [fn48,fn120]
 rw [show ((0:Nat):Int)=0 from rfl] at h
 rw [h]
 cases ffree cells 0 <;> rfl
section
variable {F:Nat} {cells:List HCell} {a K V E:Int} {keys:List (ByteArray×Int)} {k v:List Int}
theorem look_eq (hk:(k.length:Int)=K):fn19 cells a K V E keys k=some (bif mhas keys (strOfNums k) then (mget keys (strOfNums k) 0,0) else (0,6)):=by
 simp only [fn19,fn45v1,fn49,fn47,fn24,hk,beq_self_eq_true,Bool.not_true,cond_false,frk1,frk2]
 cases mhas keys (strOfNums k) <;> rfl
theorem look_len (hk:(k.length:Int)≠K):fn19 cells a K V E keys k=some (0,2):=by
 have:((k.length:Int) == K)=false:=by simpa using hk
 simp only [fn19,fn45v1,fn49,fn47,fn24,this,Bool.not_false,cond_true,frk1,frk2];rfl
theorem at_eq {n:Int} (h:inb n cells.length=true):fn40 cells a K V E keys n=some (.inr n):=by
 have h':=inb_iff.1 h
 have e1:decide ((0:Int)≤n)=true:=by simpa using h'.1
 have e2:decide (n < (cells.length:Int))=true:=by simpa using h'.2
 simp only [fn40,fn24,e1,e2,h,cond_true,Bool.not_true,cond_false,frk2]
theorem at_out {n:Int} (h:inb n cells.length=false):fn40 cells a K V E keys n=some (.inl 6):=by
 by_cases e1:(0:Int)≤n
 ·have e2:¬n < (cells.length:Int):=fun h2=>by rw [inb_iff.2 ⟨e1,h2⟩] at h;cases h
  have e3:decide ((0:Int)≤n)=true:=by simpa using e1
  have e4:decide (n < (cells.length:Int))=false:=by simpa using e2
  simp only [fn40,fn24,e3,e4,cond_true,Bool.not_false,frk2]
 have e3:decide ((0:Int)≤n)=false:=by simpa using e1
 simp only [fn40,fn24v2,e3,cond_false,frk1]
theorem del_none (hk:(k.length:Int)=K) (hm:mhas keys (strOfNums k)=false):fn20 cells a K V E keys k=some (6,cells,keys):=by
 simp only [fn20,fn50,fn51,fn47,fn24,hk,beq_self_eq_true,Bool.not_true,cond_false,frk1,frk2,hm,Bool.not_false,cond_true];rfl
theorem del_some (hk:(k.length:Int)=K) (hm:mhas keys (strOfNums k)=true) (hn:inb (mget keys (strOfNums k) 0) cells.length=true) :
  fn20 cells a K V E keys k=some (0,cells.set (mget keys (strOfNums k) 0).toNat ⟨false,(gt cells (mget keys (strOfNums k) 0)).fthing⟩,mdel keys (strOfNums k)):=by
 simp only [fn20,fn50,fn51,fn47,fn24,hk,beq_self_eq_true,Bool.not_true,cond_false,frk1,frk2,hm,at_eq hn,hn,cond_true]
theorem paste_all {xs ys:List Int} (h:xs.length=ys.length):pasteX xs 0 (ys.take (xs.length - 0))=ys:=by
 simp only [pasteX,List.take_zero,List.nil_append,Nat.sub_zero,Nat.zero_add]
 rw [List.take_of_length_le (by omega),List.drop_eq_nil_of_le (by omega),List.append_nil]
theorem val_eq {n:Int} (hn:inb n cells.length=true) (hb:(gt cells n).fthing.length≤1000000):fn10 cells a K V E keys n=some ((gt cells n).fthing,0):=by
 have e:decide ((([]:List Int).length+(gt cells n).fthing.length) * 1≤140737488355328∧([]:List Int).length+(gt cells n).fthing.length≤9223372036854775807)=true:=by
  simp;omega
 simp only [fn10,fn36,fn37,at_eq hn,hn,fn39,frk1,frk2,e,cond_true,Option.bind_some,List.nil_append]
end
theorem pick_ok (x n:Int) (h0:0 < n) (h1:n≤100000):∃v,fn27 x n=some v∧0≤v∧v < n:=by
 have e1:decide (n < 1)=false:=by simp;omega
 have e2:(n != 0)=true:=by simp;omega
 have b1:x.tmod n < n:=Int.tmod_lt_of_pos x h0
 have b2:-n < x.tmod n:=Int.lt_tmod_of_pos x h0
 simp only [fn27,e1,e2,cond_false,cond_true]
 by_cases hc:x.tmod n < 0
 ·have e3:decide (x.tmod n < 0)=true:=by simpa using hc
  rw [e3,cond_true,w64 (by omega)]
  exact ⟨_,rfl,by omega,by omega⟩
 have e3:decide (x.tmod n < 0)=false:=by simpa using hc
 rw [e3,cond_false]
 exact ⟨_,rfl,by omega,by omega⟩
theorem new_l (p:MSpec) (hE:p.fEntries≤10000) (hV:0≤p.fValue) (hV2:p.fValue≤10000):∀(m n i:Nat) (xs:List HCell),((m+i:Nat):Int)=p.fEntries→m < n→xs.length=i →
  fn22_l1 p n xs (i:Int)=some (xs++List.replicate m ⟨false,List.replicate p.fValue.toNat 0⟩)
 | 0,n+1,i,xs,h,hn,hx=>by
  have e2:decide ((i:Int) < p.fEntries)=false:=by simp;omega
  simp only [fn22_l1,fn22_b1,e2,cond_false,List.replicate_zero,List.append_nil]
 | m+1,n+1,i,xs,h,hn,hx=>by
  have e2:decide ((i:Int) < p.fEntries)=true:=by simp;omega
  have e3:(decide ((0:Int)≤p.fValue)&&decide (p.fValue≤p.fValue)&&decide ((1:Int) * p.fValue≤281474976710656)&&decide (p.fValue≤9223372036854775807))=true:=by simp;omega
  have e4:decide ((xs.length+1) * 32≤140737488355328∧xs.length+1≤9223372036854775807)=true:=by simp;omega
  have e5:IntKind.i64.wrap ((i:Int)+1)=((i+1:Nat):Int):=by rw [w64 (by omega)];rfl
  simp only [fn22_l1,fn22_b1,e2,e3,e4,e5,cond_true]
  rw [new_l p hE hV hV2 m n (i+1) _ (by omega) (by omega) (by simp [hx]),List.append_assoc]
  rfl
theorem spec_hash (K V E:Int):fn23 ⟨2,K,V,E⟩=(bif !(decide (1≤K)&&decide (K≤64)) then 2 else bif !(decide (1≤V)&&decide (V≤1024)) then 2 else bif !(decide (1≤E)&&decide (E≤1024)) then 2 else 0):=rfl
theorem new_ok {F:Nat} (hF:2000≤F) {K V E:Int} (hK:1≤K∧K≤64) (hV:1≤V∧V≤1024) (hE:1≤E∧E≤1024) :
  fn7 F ⟨2,K,V,E⟩=some (.inr (List.replicate E.toNat ⟨false,List.replicate V.toNat 0⟩,2,K,V,E,[],0)):=by
 have e0:fn23 ⟨2,K,V,E⟩=0:=by
  rw [spec_hash];simp [hK.1,hK.2,hV.1,hV.2,hE.1,hE.2]
 have e1:=new_l ⟨2,K,V,E⟩ (by show E≤_;omega) (by show 0≤V;omega) (by show V≤_;omega) E.toNat F 0 [] (by show _=E;omega) (by omega) rfl
 rw [show ((0:Nat):Int)=0 from rfl] at e1
 simp only [fn7,fn21,fn22,e0,fn24,e1,frk2,beq_self_eq_true,Bool.not_true,cond_false,Option.bind_some,fn22_k1,List.nil_append]
theorem less_of:∀{x y:List UInt8},x≤y→x≠y→Op.bytesLess x y=true
 | [],[],_,h=>absurd rfl h
 | [],b::y,_,_=>by simp [Op.bytesLess]
 | a::x,[],h,_=>by exact absurd h (by simp)
 | a::x,b::y,h,hn=>by
  rcases List.cons_le_cons_iff.1 h with h1 | ⟨rfl,h1⟩
  ·simp [Op.bytesLess,h1]
  have:x≠y:=fun e=>hn (by rw [e])
  simp [Op.bytesLess,less_of h1 this]
theorem srt_perm (l:List ByteArray):(srt l).Perm l:=by
 have h:=(sortL_perm (l.map (·.data.toList))).map (fun x:List UInt8=>(⟨x.toArray⟩:ByteArray))
 rw [List.map_map] at h
 have e:l.map ((fun x:List UInt8=>(⟨x.toArray⟩:ByteArray)) ∘ fun x=>x.data.toList)=l:=by
  conv=>rhs;rw [← List.map_id l]
  exact List.map_congr_left fun x _=>by simp
 rw [e] at h;exact h
theorem srt_less {l:List ByteArray} (hn:l.Nodup):(srt l).Pairwise fun x y=>Op.bytesLess x.toList y.toList=true:=by
 have h1:=sortL_sorted (l.map (·.data.toList))
 have h2:(sortL (l.map (·.data.toList))).Nodup:=(sortL_perm _).nodup_iff.2 (List.pairwise_map.2 (hn.imp fun {x y} h e=>h (Go.WideShapes.bytes_inj e)))
 unfold srt
 rw [List.pairwise_map]
 refine (h1.and h2).imp fun {x y} h=>?_
 rw [ByteArray.toList_eq,ByteArray.toList_eq]
 exact less_of (by simpa using h.1) h.2
theorem keys_l (S:List ByteArray) (hl:S.length≤10000) (hs:∀s∈S,s.size≤100000):∀(m n i:Nat) (xs:List (List Int)),m+i=S.length→m < n→xs.length=i →
  fn14_l1 S n xs (i:Int)=some (xs++(S.drop i).map numsOf)
 | 0,n+1,i,xs,h,hn,hx=>by
  have e1:S.drop i=[]:=List.drop_eq_nil_of_le (by omega)
  have e2:decide ((i:Int) < (S.length:Int))=false:=by simp;omega
  simp only [fn14_l1,fn14_b1,e1,e2,cond_false,List.map_nil,List.append_nil]
 | m+1,n+1,i,xs,h,hn,hx=>by
  have hi:i < S.length:=by omega
  have e1:S.drop i=S[i]::S.drop (i+1):=List.drop_eq_getElem_cons hi
  have e2:decide ((i:Int) < (S.length:Int))=true:=by simp;omega
  have e3:inb (i:Int) S.length=true:=inb_iff.2 ⟨by omega,by omega⟩
  have e4:gt S (i:Int)=S[i]:=by unfold gt;simp [hi]
  have e6:decide (S[i].size≤9223372036854775807)=true:=by have:=hs S[i] (List.getElem_mem _);simp;omega
  have e7:decide ((xs.length+1) * 24≤140737488355328∧xs.length+1≤9223372036854775807)=true:=by simp;omega
  have e5:IntKind.i64.wrap ((i:Int)+1)=((i+1:Nat):Int):=by rw [w64 (by omega)];rfl
  simp only [fn14_l1,fn14_b1,e1,e2,e3,e4,e5,e6,e7,cond_true]
  rw [keys_l S hl hs m n (i+1) _ (by omega) (by omega) (by simp [hx]),List.append_assoc];rfl
theorem keys_ok {F:Nat} {cells:List HCell} {a K V E:Int} {keys:List (ByteArray×Int)} (hF:20000≤F) (hl:keys.length≤10000) (hs:∀p∈keys,p.1.size≤100000) :
  fn14 F cells a K V E keys=some ((srt (keys.map (·.1))).map numsOf):=by
 have e1:(decide ((keys.length:Int)≤8796093022208)&&keys.all (fun p=>decide (p.1.size≤9223372036854775807)))=true:=by
  rw [Bool.and_eq_true]
  refine ⟨by simp;omega,List.all_eq_true.2 fun p hp=>?_⟩
  have:=hs p hp;simp;omega
 have hp:=srt_perm (keys.map (·.1))
 have hlen:(srt (keys.map (·.1))).length=keys.length:=by simpa using hp.length_eq
 have e2:=keys_l (srt (keys.map (·.1))) (by omega) (fun s h=>by
  obtain ⟨p,h1,rfl⟩:=List.mem_map.1 (hp.subset h);exact hs p h1) (srt (keys.map (·.1))).length F 0 [] (by omega) (by omega) rfl
 rw [show ((0:Nat):Int)=0 from rfl] at e2
 simp only [fn14,fn43,e1,cond_true,Option.bind_some,e2,fn14_k1,List.nil_append,List.drop_zero]
theorem eqL (a b:ByteArray):(a.toList == b.toList)=decide (a=b):=by
 by_cases h:a=b
 ·subst h;simp
 have:¬a.toList=b.toList:=fun e=>h (by
  rw [ByteArray.toList_eq,ByteArray.toList_eq] at e
  exact Go.WideShapes.bytes_inj e)
 simp [h,this]
structure Rl (E V:Nat) (K:Int) (cells:List HCell) (keys:List (ByteArray×Int)) (fl:List RPlace):Prop where
 len:cells.length=E
 flen:fl.length=E
 same:∀i:Int,inb i E=true→(gt fl i).fis=(gt cells i).fused∧(gt fl i).fb=(gt cells i).fthing
 th:∀i:Int,inb i E=true→(gt cells i).fthing.length=V
 nd:KND keys
 key:∀k,mhas keys k=true→inb (mget keys k 0) E=true∧(gt fl (mget keys k 0)).fis=true∧(gt fl (mget keys k 0)).fkey=k
 back:∀i:Int,inb i E=true→(gt fl i).fis=true→mhas keys (gt fl i).fkey=true∧mget keys (gt fl i).fkey 0=i
 siz:∀k,mhas keys k=true→(k.size:Int)=K
 fz:∀i:Int,inb i E=true→(gt fl i).fkey.size≤1000
 kb:K≤1000
section
variable {F E V:Nat} {K a:Int} {cells:List HCell} {keys:List (ByteArray×Int)} {fl:List RPlace} {k v:List Int} {S:MSpec}
theorem find_l (h:Rl E V K cells keys fl) (hE:E≤100000):∀(m n i:Nat),m+i=E→m < n→(∀j:Nat,j < i→(gt fl (j:Int)).fis=true→(gt fl (j:Int)).fkey≠strOfNums k) →
  fn56_l1 ⟨S,fl⟩ k n (i:Int)=some (bif mhas keys (strOfNums k) then .inr (mget keys (strOfNums k) 0) else .inl ())
 | 0,n+1,i,hm,hn,hi=>by
  have e2:decide ((i:Int) < (fl.length:Int))=false:=by rw [h.flen];simp;omega
  have e3:mhas keys (strOfNums k)=false:=by
   cases hc:mhas keys (strOfNums k) with
   | false=>rfl
   | true =>
    obtain ⟨h1,h2,h3⟩:=h.key _ hc
    have h4:=inb_iff.1 h1
    have:=hi (mget keys (strOfNums k) 0).toNat (by omega)
    rw [show ((mget keys (strOfNums k) 0).toNat:Int)=mget keys (strOfNums k) 0 from by omega] at this
    exact absurd h3 (this h2)
  simp only [fn56_l1,fn56_b1,e2,e3,cond_false]
 | m+1,n+1,i,hm,hn,hi=>by
  have e2:decide ((i:Int) < (fl.length:Int))=true:=by rw [h.flen];simp;omega
  have e3:inb (i:Int) fl.length=true:=inb_iff.2 ⟨by omega,by rw [h.flen];omega⟩
  have e5:IntKind.i64.wrap ((i:Int)+1)=((i+1:Nat):Int):=by rw [w64 (by omega)];rfl
  have hin:inb (i:Int) E=true:=inb_iff.2 ⟨by omega,by omega⟩
  simp only [fn56_l1,fn56_b1,e2,e3,e5,eqL,cond_true]
  cases hs:(gt fl (i:Int)).fis with
  | false =>
   rw [cond_false]
   refine find_l h hE m n (i+1) (by omega) (by omega) fun j hj hji=>?_
   rcases Nat.lt_or_ge j i with h1 | h1
   ·exact hi j h1 hji
   obtain rfl:j=i:=by omega
   rw [hs] at hji;cases hji
  | true =>
   rw [cond_true]
   by_cases hk:(gt fl (i:Int)).fkey=strOfNums k
   ·obtain ⟨b1,b2⟩:=h.back _ hin hs
    rw [hk] at b1 b2
    rw [decide_eq_true hk,cond_true,b1,b2,cond_true]
   rw [decide_eq_false hk,cond_false]
   refine find_l h hE m n (i+1) (by omega) (by omega) fun j hj hji=>?_
   rcases Nat.lt_or_ge j i with h1 | h1
   ·exact hi j h1 hji
   obtain rfl:j=i:=by omega
   exact hk
theorem find_eq (h:Rl E V K cells keys fl) (hE:E≤20000) (hF:30000≤F):fn56 F ⟨S,fl⟩ k=some (bif mhas keys (strOfNums k) then mget keys (strOfNums k) 0 else -1):=by
 have h1:=find_l (S:=S) (k:=k) h (by omega) E F 0 (by omega) (by omega) (fun j hj=>absurd hj (by omega))
 rw [show ((0:Nat):Int)=0 from rfl] at h1
 simp only [fn56,h1,Option.bind_some]
 cases mhas keys (strOfNums k) <;> rfl
theorem mget_nn (h:Rl E V K cells keys fl) {z:ByteArray} (hm:mhas keys z=true):0≤mget keys z 0:=(inb_iff.1 (h.key z hm).1).1
theorem ref_look (h:Rl E V K cells keys fl) (hS:S.fKey=K) (hE:E≤20000) (hF:30000≤F):fn28 F ⟨S,fl⟩ k=some (bif (k.length:Int) != K then (0,2) else bif mhas keys (strOfNums k) then (mget keys (strOfNums k) 0,0) else (0,6)):=by
 simp only [fn28,hS,find_eq h hE hF,Option.bind_some]
 cases (k.length:Int) != K with
 | true=>rfl
 | false =>
  simp only [cond_false]
  cases hm:mhas keys (strOfNums k) with
  | false=>rfl
  | true =>
   have:=mget_nn h hm
   have e:decide (mget keys (strOfNums k) 0 < 0)=false:=by simp;omega
   simp only [cond_true,e,cond_false]
theorem look_all (VV EE:Int):fn19 cells a K VV EE keys k=some (bif (k.length:Int) != K then (0,2) else bif mhas keys (strOfNums k) then (mget keys (strOfNums k) 0,0) else (0,6)):=by
 by_cases hk:(k.length:Int)=K
 ·rw [look_eq hk];simp [hk]
 have e:((k.length:Int) != K)=true:=by simpa using hk
 rw [look_len hk,e];rfl
theorem val_out {n:Int} (VV EE:Int) (hn:inb n cells.length=false):fn10 cells a K VV EE keys n=some ([],6):=by
 simp only [fn10,fn36,fn37,at_out hn,frk1,frk2];rfl
def valAt (cells:List HCell) (n:Int):List Int×Int:=bif inb n cells.length then ((gt cells n).fthing,0) else ([],6)
theorem val_all {n:Int} (h:Rl E V K cells keys fl) (hV:V≤1000000) (VV EE:Int):fn10 cells a K VV EE keys n=some (valAt cells n):=by
 unfold valAt
 cases hn:inb n cells.length with
 | false=>rw [val_out VV EE hn];rfl
 | true=>rw [val_eq hn (by rw [h.th n (by rw [← h.len];exact hn)];exact hV)];rfl
theorem ref_val {n:Int} (h:Rl E V K cells keys fl) (hV:V≤1000000):fn11 ⟨S,fl⟩ n=some (valAt cells n):=by
 unfold valAt
 cases hn:inb n cells.length with
 | false =>
  by_cases h0:n < 0
  ·simp [fn11,h0]
  have h1:(fl.length:Int)≤n:=by
   rw [h.flen,← h.len]
   rcases Int.lt_or_le n (cells.length:Int) with h2 | h2
   ·rw [inb_iff.2 ⟨by omega,h2⟩] at hn;cases hn
   exact h2
  simp [fn11,h0,h1]
 | true =>
  have h1:=inb_iff.1 hn
  have hin:inb n E=true:=by rw [← h.len];exact hn
  have e1:decide (n < 0)=false:=by simp;omega
  have e2:decide ((fl.length:Int)≤n)=false:=by rw [h.flen,← h.len];simp;omega
  have e3:inb n fl.length=true:=by rw [h.flen];exact hin
  have hb:=(h.same n hin).2
  have hl:=h.th n hin
  have e4:decide ((([]:List Int).length+((gt cells n).fthing).length) * 1≤140737488355328∧([]:List Int).length+((gt cells n).fthing).length≤9223372036854775807)=true:=by
   rw [hl];simp;omega
  simp only [fn11,e1,e2,e3,hb,e4,cond_false,cond_true,List.nil_append]
theorem valAt_len {n:Int} (h:Rl E V K cells keys fl):(valAt cells n).1.length≤V:=by
 unfold valAt
 cases hn:inb n cells.length with
 | false=>simp
 | true=>simp [h.th n (by rw [← h.len];exact hn)]
end
def mks:Nat→Nat→List Int
 | 0,_=>[]
 | m+1,i=>fn55 1 (i:Int)::mks m (i+1)
theorem mks_len:∀m i,(mks m i).length=m
 | 0,_=>rfl
 | m+1,i=>by simp [mks,mks_len m (i+1)]
theorem mks_at:∀m i j,j < m→(mks m i).getD j default=fn55 1 ((i+j:Nat):Int)
 | m+1,i,0,_=>by simp [mks]
 | m+1,i,j+1,h=>by
  have:=mks_at m (i+1) j (by omega)
  rw [show i+1+j=i+(j+1) from by omega] at this
  simpa [mks] using this
theorem lent_l:∀(m n i:Nat) (xs:List Int),m+i=12→m < n→xs.length≤1000000+i→fn26_l1 n xs (i:Int)=some (xs++mks m i)
 | 0,n+1,i,xs,h,hn,hx=>by
  have e2:decide ((i:Int) < 12)=false:=by simp;omega
  simp only [fn26_l1,fn26_b1,e2,cond_false,mks,List.append_nil]
 | m+1,n+1,i,xs,h,hn,hx=>by
  have e2:decide ((i:Int) < 12)=true:=by simp;omega
  have e4:decide ((xs.length+([fn55 1 (i:Int)]:List Int).length) * 1≤140737488355328∧xs.length+([fn55 1 (i:Int)]:List Int).length≤9223372036854775807)=true:=by simp;omega
  have e5:IntKind.i64.wrap ((i:Int)+1)=((i+1:Nat):Int):=by rw [w64 (by omega)];rfl
  simp only [fn26_l1,fn26_b1,e2,e4,e5,cond_true]
  rw [lent_l m n (i+1) _ (by omega) (by omega) (by simp;omega),List.append_assoc];rfl
section
variable {F:Nat} {l:List Int}
theorem lent_eq (hF:30000≤F) (hl:l.length≤20000):fn26 F l=some (l++mks 12 0,l.length):=by
 have e0:IntKind.i64.wrap ((l.length:Int)+12)=(l.length:Int)+12:=w64 (by omega)
 have e1:(decide ((0:Int)≤0)&&decide ((0:Int)≤(l.length:Int)+12)&&decide ((1:Int) * ((l.length:Int)+12)≤281474976710656)&&decide ((l.length:Int)+12≤9223372036854775807))=true:=by simp;omega
 have e3:=lent_l 12 F 0 l (by omega) (by omega) (by omega)
 have e5:sliceOk ((0:Nat):Int) (l.length:Int) (l++mks 12 0).length=true:=by simp [sliceOk];omega
 rw [show ((0:Nat):Int)=0 from rfl] at e3
 simp only [fn26,e0,e1,cond_true]
 rw [show (List.replicate (0:Int).toNat (0:Int))++l=l from rfl,e3,Option.bind_some,fn26_k1,e5,cond_true,Int.toNat_natCast,Int.toNat_natCast,Nat.sub_zero,decide_eq_true (by simp;omega)];rfl
theorem cut_l (m:List Int):cutX (l++m) 0 (0+l.length)=l:=by simp [cutX]
theorem gt_l (m:List Int) {i:Nat} (h:i < l.length):gt (l++m) (i:Int)=gt l (i:Int):=by
 unfold gt
 rw [List.getD_eq_getElem?_getD,List.getD_eq_getElem?_getD,Int.toNat_natCast,List.getElem?_append_left h]
theorem gt_r {i:Nat} (h:l.length≤i) (h2:i < l.length+12):gt (l++mks 12 0) (i:Int)=fn55 1 ((i:Int) - (l.length:Int)):=by
 unfold gt
 rw [List.getD_eq_getElem?_getD,Int.toNat_natCast,List.getElem?_append_right h,← List.getD_eq_getElem?_getD,mks_at 12 0 _ (by omega),Nat.zero_add]
 congr 1;omega
theorem cnt_l (hl:l.length≤20000):∀(m n i:Nat),m+i=l.length+12→m < n→fn33_l1 (l++mks 12 0) l n (i:Int)=some (.inl ())
 | 0,n+1,i,h,hn=>by
  have e0:IntKind.i64.wrap ((l.length:Int)+12)=((l.length+12:Nat):Int):=by rw [w64 (by omega)];rfl
  have ec:cutX (l++mks 12 0) 0 (l.length+12)=l++mks 12 0:=by
   simp only [cutX,List.drop_zero];rw [List.take_of_length_le (by simp [mks_len])]
  have e2:decide ((i:Int) < ((l++mks 12 0).length:Int))=false:=by simp [mks_len];omega
  simp only [fn33_l1,fn33_b1,e0,Int.toNat_natCast,Nat.sub_zero,Nat.zero_add,ec,e2,cond_false]
 | m+1,n+1,i,h,hn=>by
  have e0:IntKind.i64.wrap ((l.length:Int)+12)=((l.length+12:Nat):Int):=by rw [w64 (by omega)];rfl
  have ec:cutX (l++mks 12 0) 0 (l.length+12)=l++mks 12 0:=by
   simp only [cutX,List.drop_zero];rw [List.take_of_length_le (by simp [mks_len])]
  have e2:decide ((i:Int) < ((l++mks 12 0).length:Int))=true:=by simp [mks_len];omega
  have e3:inb (i:Int) (l.length+12)=true:=inb_iff.2 ⟨by omega,by omega⟩
  have e5:IntKind.i64.wrap ((i:Int)+1)=((i+1:Nat):Int):=by rw [w64 (by omega)];rfl
  have ih:=cnt_l hl m n (i+1) (by omega) (by omega)
  rcases Nat.lt_or_ge i l.length with hi | hi
  ·have e6:decide ((i:Int) < (l.length:Int))=true:=by simp;omega
   have e7:decide ((l.length:Int)≤(i:Int))=false:=by simp;omega
   have e8:inb (i:Int) l.length=true:=inb_iff.2 ⟨by omega,by omega⟩
   simp only [fn33_l1,fn33_b1,e0,Int.toNat_natCast,Nat.sub_zero,Nat.zero_add,ec,e2,e3,e5,e6,e7,e8,gt_l _ hi,cond_true,cond_false,beq_self_eq_true,Bool.not_true,Bool.and_false,Bool.false_and,Bool.or_false]
   exact ih
  have e6:decide ((i:Int) < (l.length:Int))=false:=by simp;omega
  have e7:decide ((l.length:Int)≤(i:Int))=true:=by simp;omega
  have e8:IntKind.i64.wrap ((i:Int) - (l.length:Int))=(i:Int) - (l.length:Int):=w64 (by omega)
  simp only [fn33_l1,fn33_b1,e0,Int.toNat_natCast,Nat.sub_zero,Nat.zero_add,ec,e2,e3,e5,e6,e7,e8,gt_r hi (by omega),cond_true,cond_false,beq_self_eq_true,Bool.not_true,Bool.and_false,Bool.false_and,Bool.or_false]
  exact ih
theorem cnt_eq (hF:30000≤F) (hl:l.length≤20000):fn33 F (l++mks 12 0) l.length l=some true:=by
 have e0:IntKind.i64.wrap ((l.length:Int)+12)=((l.length+12:Nat):Int):=by rw [w64 (by omega)];rfl
 have e1:sliceOk ((0:Nat):Int) ((l.length+12:Nat):Int) (l++mks 12 0).length=true:=by simp [sliceOk,mks_len];omega
 have h:=cnt_l hl (l.length+12) F 0 (by omega) (by omega)
 rw [show ((0:Nat):Int)=0 from rfl] at h
 simp only [fn33,cut_l,e0,e1,h,cond_true,bne_self_eq_false,cond_false,Option.bind_some,fn33_k1]
theorem fin_eq (hF:30000≤F) (hl:l.length≤20000):fn34 (l++mks 12 0) l.length=some ():=by
 simp only [fn34];rw [show decide (l.length≤1000000)=true from by simp;omega];rfl
theorem same_l (hl:l.length≤20000):∀(m n i:Nat),m+i=l.length→m < n→fn12_l1 l l n (i:Int)=some (.inl ())
 | 0,n+1,i,h,hn=>by
  have e2:decide ((i:Int) < (l.length:Int))=false:=by simp;omega
  simp only [fn12_l1,fn12_b1,e2,cond_false]
 | m+1,n+1,i,h,hn=>by
  have e2:decide ((i:Int) < (l.length:Int))=true:=by simp;omega
  have e3:inb (i:Int) l.length=true:=inb_iff.2 ⟨by omega,by omega⟩
  have e5:IntKind.i64.wrap ((i:Int)+1)=((i+1:Nat):Int):=by rw [w64 (by omega)];rfl
  simp only [fn12_l1,fn12_b1,e2,e3,e5,cond_true,bne_self_eq_false,cond_false]
  exact same_l hl m n (i+1) (by omega) (by omega)
theorem same_eq (hF:30000≤F) (hl:l.length≤20000):fn12 F l l=some true:=by
 have h:=same_l hl l.length F 0 (by omega) (by omega)
 rw [show ((0:Nat):Int)=0 from rfl] at h
 simp only [fn12,h,bne_self_eq_false,cond_false,Option.bind_some,fn12_k1]
theorem rows_l {L:List (List Int)} (hF:30000≤F) (hL:L.length≤20000) (hx:∀x∈L,x.length≤20000):∀(m n i:Nat),m+i=L.length→m < n→fn15_l1 F L L n (i:Int)=some (.inl ())
 | 0,n+1,i,h,hn=>by
  have e2:decide ((i:Int) < (L.length:Int))=false:=by simp;omega
  simp only [fn15_l1,fn15_b1,e2,cond_false]
 | m+1,n+1,i,h,hn=>by
  have e2:decide ((i:Int) < (L.length:Int))=true:=by simp;omega
  have e3:inb (i:Int) L.length=true:=inb_iff.2 ⟨by omega,by omega⟩
  have e5:IntKind.i64.wrap ((i:Int)+1)=((i+1:Nat):Int):=by rw [w64 (by omega)];rfl
  simp only [fn15_l1,fn15_b1,e2,e3,e5,same_eq hF (hx _ (gt_mem e3)),cond_true,Option.bind_some,Bool.not_true,cond_false]
  exact rows_l hF hL hx m n (i+1) (by omega) (by omega)
theorem rows_eq {L:List (List Int)} (hF:30000≤F) (hL:L.length≤20000) (hx:∀x∈L,x.length≤20000):fn15 F L L=some true:=by
 have h:=rows_l hF hL hx L.length F 0 (by omega) (by omega)
 rw [show ((0:Nat):Int)=0 from rfl] at h
 simp only [fn15,h,bne_self_eq_false,cond_false,Option.bind_some,fn15_k1]
theorem apB_eq {a b:List Int} (ha:a.length≤20000) (hb:b.length≤20000):fn35 [a,b]=some true:=by
 simp only [fn35]
 rw [show ((decide (0 < [a,b].length)&&decide ([a,b].length≤1000000))&&[a,b].all (fun x=>decide (x.length≤1000000)))=true from by simp;omega];rfl
theorem apR_eq {L:List (List Int)} (hL:L.length≤20000) (hx:∀x∈L,x.length≤20000):fn13 L L=some true:=by
 have e1:L.all (fun x=>decide (x.length≤1000000))=true:=List.all_eq_true.2 fun x h=>by have:=hx x h;simp;omega
 have e2:decide (L.length≤400000)=true:=by simp;omega
 simp only [fn13,e1,e2];rfl
end
section
variable {F E V:Nat} {K a:Int} {cells:List HCell} {keys:List (ByteArray×Int)} {fl:List RPlace} {k v:List Int} {S:MSpec}
theorem Rl.cin (h:Rl E V K cells keys fl) {n:Int} (hn:inb n E=true):inb n cells.length=true:=by rw [h.len];exact hn
theorem Rl.fin (h:Rl E V K cells keys fl) {n:Int} (hn:inb n E=true):inb n fl.length=true:=by rw [h.flen];exact hn
theorem inb0 {n:Int} {E:Nat} (hn:inb n E=true):0≤n:=(inb_iff.1 hn).1
theorem Rl.same_set (h:Rl E V K cells keys fl) {n:Int} (c:HCell) (r:RPlace) (hn:inb n E=true) (h1:r.fis=c.fused) (h2:r.fb=c.fthing) {i:Int} (hi:inb i E=true) :
  (gt (fl.set n.toNat r) i).fis=(gt (cells.set n.toNat c) i).fused∧(gt (fl.set n.toNat r) i).fb=(gt (cells.set n.toNat c) i).fthing:=by
 rw [gt_set (h.fin hn) (inb0 hi),gt_set (h.cin hn) (inb0 hi)]
 by_cases e:n=i
 ·rw [if_pos e,if_pos e];exact ⟨h1,h2⟩
 rw [if_neg e,if_neg e];exact h.same i hi
theorem Rl.th_set (h:Rl E V K cells keys fl) {n:Int} (c:HCell) (hn:inb n E=true) (h1:c.fthing.length=V) {i:Int} (hi:inb i E=true):(gt (cells.set n.toNat c) i).fthing.length=V:=by
 rw [gt_set (h.cin hn) (inb0 hi)]
 by_cases e:n=i
 ·rw [if_pos e];exact h1
 rw [if_neg e];exact h.th i hi
theorem Rl.fz_set (h:Rl E V K cells keys fl) {n:Int} (r:RPlace) (hn:inb n E=true) (h1:r.fkey.size≤1000) {i:Int} (hi:inb i E=true):(gt (fl.set n.toNat r) i).fkey.size≤1000:=by
 rw [gt_set (h.fin hn) (inb0 hi)]
 by_cases e:n=i
 ·rw [if_pos e];exact h1
 rw [if_neg e];exact h.fz i hi
theorem Rl.kz (h:Rl E V K cells keys fl) {z:ByteArray} (hz:mhas keys z=true):z.size≤1000:=by have:=h.siz z hz;have:=h.kb;omega
theorem Rl.del (h:Rl E V K cells keys fl) {z:ByteArray} (hz:mhas keys z=true) :
  Rl E V K (cells.set (mget keys z 0).toNat ⟨false,(gt cells (mget keys z 0)).fthing⟩) (mdel keys z) (fl.set (mget keys z 0).toNat ⟨false,⟨#[]⟩,(gt fl (mget keys z 0)).fb⟩):=by
 obtain ⟨hn,hu,hk⟩:=h.key z hz
 refine ⟨by rw [List.length_set];exact h.len,by rw [List.length_set];exact h.flen,fun i hi=>h.same_set ⟨false,_⟩ ⟨false,_,_⟩ hn rfl (h.same _ hn).2 hi,fun i hi=>h.th_set ⟨false,_⟩ hn (h.th _ hn) hi,h.nd.del,fun t ht=>?_,fun i hi hf=>?_,fun t ht=>?_,fun i hi=>h.fz_set ⟨false,⟨#[]⟩,_⟩ hn (Nat.zero_le _) hi,h.kb⟩
 ·rw [mhas_del z t h.nd] at ht
  have h1:z≠t:=by intro e;rw [decide_eq_true e] at ht;cases ht
  rw [decide_eq_false h1] at ht
  obtain ⟨k1,k2,k3⟩:=h.key t ht
  rw [mget_del z t 0 h.nd h1,gt_set (h.fin hn) (inb0 k1),if_neg (fun e=>h1 (by rw [← hk,e];exact k3))]
  exact ⟨k1,k2,k3⟩
 ·rw [gt_set (h.fin hn) (inb0 hi)] at hf ⊢
  by_cases e:mget keys z 0=i
  ·rw [if_pos e] at hf;cases hf
  rw [if_neg e] at hf ⊢
  obtain ⟨b1,b2⟩:=h.back i hi hf
  have h1:z≠(gt fl i).fkey:=fun e1=>e (by rw [e1];exact b2)
  rw [mhas_del z _ h.nd,mget_del z _ 0 h.nd h1,decide_eq_false h1]
  exact ⟨b1,b2⟩
 rw [mhas_del z t h.nd] at ht
 cases hd:decide (z=t) with
 | true=>rw [hd] at ht;cases ht
 | false=>rw [hd] at ht;exact h.siz t ht
theorem Rl.old (h:Rl E V K cells keys fl) {z:ByteArray} (hz:mhas keys z=true) (hv:v.length=V) :
  Rl E V K (cells.set (mget keys z 0).toNat ⟨true,v⟩) keys (fl.set (mget keys z 0).toNat ⟨true,z,v⟩):=by
 obtain ⟨hn,hu,hk⟩:=h.key z hz
 refine ⟨by rw [List.length_set];exact h.len,by rw [List.length_set];exact h.flen,fun i hi=>h.same_set _ _ hn rfl rfl hi,fun i hi=>h.th_set _ hn hv hi,h.nd,fun t ht=>?_,fun i hi hf=>?_,h.siz,fun i hi=>h.fz_set ⟨true,z,_⟩ hn (h.kz hz) hi,h.kb⟩
 ·obtain ⟨k1,k2,k3⟩:=h.key t ht
  rw [gt_set (h.fin hn) (inb0 k1)]
  by_cases e:mget keys z 0=mget keys t 0
  ·rw [if_pos e];exact ⟨k1,rfl,by rw [← k3,← e,hk]⟩
  rw [if_neg e];exact ⟨k1,k2,k3⟩
 rw [gt_set (h.fin hn) (inb0 hi)] at hf ⊢
 by_cases e:mget keys z 0=i
 ·rw [if_pos e];exact ⟨hz,e⟩
 rw [if_neg e] at hf ⊢;exact h.back i hi hf
theorem Rl.new (h:Rl E V K cells keys fl) {z:ByteArray} {j:Int} (hz:mhas keys z=false) (hs:(z.size:Int)=K) (hj:inb j E=true) (hf:(gt fl j).fis=false) (hv:v.length=V) :
  Rl E V K (cells.set j.toNat ⟨true,v⟩) (mput keys z j) (fl.set j.toNat ⟨true,z,v⟩):=by
 refine ⟨by rw [List.length_set];exact h.len,by rw [List.length_set];exact h.flen,fun i hi=>h.same_set _ _ hj rfl rfl hi,fun i hi=>h.th_set _ hj hv hi,h.nd.put,fun t ht=>?_,fun i hi hf=>?_,fun t ht=>?_,fun i hi=>h.fz_set ⟨true,z,_⟩ hj (by have:=h.kb;show z.size≤1000;omega) hi,h.kb⟩
 ·rw [mget_put]
  rw [mhas_put] at ht
  by_cases e:z=t
  ·rw [if_pos e,gt_set (h.fin hj) (inb0 hj),if_pos rfl];exact ⟨hj,rfl,e⟩
  rw [decide_eq_false e] at ht
  obtain ⟨k1,k2,k3⟩:=h.key t ht
  rw [if_neg e,gt_set (h.fin hj) (inb0 k1),if_neg (fun e2=>by rw [← e2,hf] at k2;cases k2)]
  exact ⟨k1,k2,k3⟩
 ·rw [gt_set (h.fin hj) (inb0 hi)] at hf ⊢
  by_cases e:j=i
  ·rw [if_pos e,mhas_put,mget_put,if_pos rfl];simp [e]
  rw [if_neg e] at hf ⊢
  obtain ⟨b1,b2⟩:=h.back i hi hf
  have h1:z≠(gt fl i).fkey:=fun e1=>by rw [e1,b1] at hz;cases hz
  rw [mhas_put,mget_put,if_neg h1,b1];exact ⟨by simp,b2⟩
 rw [mhas_put] at ht
 by_cases e:z=t
 ·rw [← e];exact hs
 rw [decide_eq_false e] at ht;exact h.siz t ht
theorem Rl.paste (h:Rl E V K cells keys fl) {n:Int} (hn:inb n E=true) (hv:v.length=V) :
  Rl E V K (cells.set n.toNat ⟨(gt cells n).fused,v⟩) keys (fl.set n.toNat ⟨(gt fl n).fis,(gt fl n).fkey,v⟩):=by
 refine ⟨by rw [List.length_set];exact h.len,by rw [List.length_set];exact h.flen,fun i hi=>h.same_set ⟨_,v⟩ ⟨_,_,v⟩ hn (h.same n hn).1 rfl hi,fun i hi=>h.th_set ⟨_,v⟩ hn hv hi,h.nd,fun t ht=>?_,fun i hi hf=>?_,h.siz,fun i hi=>h.fz_set ⟨_,_,v⟩ hn (h.fz n hn) hi,h.kb⟩
 ·obtain ⟨k1,k2,k3⟩:=h.key t ht
  rw [gt_set (h.fin hn) (inb0 k1)]
  by_cases e:n=mget keys t 0
  ·rw [if_pos e];subst e;exact ⟨k1,k2,k3⟩
  rw [if_neg e];exact ⟨k1,k2,k3⟩
 rw [gt_set (h.fin hn) (inb0 hi)] at hf ⊢
 by_cases e:n=i
 ·rw [if_pos e] at hf ⊢;subst e;exact h.back n hn hf
 rw [if_neg e] at hf ⊢;exact h.back i hi hf
def Both (E V:Nat) (K:Int) (x:Option (Int×List HCell×List (ByteArray×Int))) (y:Option (Int×List RPlace)):Prop :=
 ∃e c q f,x=some (e,c,q)∧y=some (e,f)∧Rl E V K c q f
theorem del_both (h:Rl E V K cells keys fl) (hS:S.fKey=K) (hE:E≤20000) (hF:30000≤F) (VV EE:Int):Both E V K (fn20 cells a K VV EE keys k) (fn31 F ⟨S,fl⟩ k):=by
 have hr:=ref_look (k:=k) h hS hE hF
 by_cases hk:(k.length:Int)=K
 ·have e0:((k.length:Int) != K)=false:=by simpa using hk
  rw [e0,cond_false] at hr
  cases hm:mhas keys (strOfNums k) with
  | false =>
   rw [hm,cond_false] at hr
   refine ⟨6,cells,keys,fl,del_none hk hm,?_,h⟩
   simp only [fn31,hr,Option.bind_some];rfl
  | true =>
   rw [hm,cond_true] at hr
   obtain ⟨hn,hu,hkk⟩:=h.key _ hm
   refine ⟨0,_,_,_,del_some hk hm (h.cin hn),?_,h.del hm⟩
   simp only [fn31,hr,Option.bind_some,h.fin hn,cond_true,bne_self_eq_false,cond_false]
 have e0:((k.length:Int) != K)=true:=by simpa using hk
 have e1:((k.length:Int) == K)=false:=by simpa using hk
 rw [e0,cond_true] at hr
 refine ⟨2,cells,keys,fl,?_,?_,h⟩
 ·simp only [fn20,fn50,fn51,fn47,fn24,e1,Bool.not_false,cond_true,frk1,frk2];rfl
 simp only [fn31,hr,Option.bind_some];rfl
theorem free_ref (h:Rl E V K cells keys fl) (hE:E≤20000):∀(m n i:Nat),m+i=E→m+1 < n →
  fn32_l1 ⟨S,fl⟩ n (-1) (i:Int)=some (match ffree (cells.drop i) i with | none=>-1 | some j=>(j:Int))
 | 0,n+1,i,hm,hn=>by
  have e1:cells.drop i=[]:=List.drop_eq_nil_of_le (by rw [h.len];omega)
  have e2:decide ((i:Int) < (fl.length:Int))=false:=by rw [h.flen];simp;omega
  simp only [fn32_l1,fn32_b1,e1,e2,Bool.false_and,cond_false,ffree]
 | m+1,n+2,i,hm,hn=>by
  have hi:i < cells.length:=by rw [h.len];omega
  have hin:inb (i:Int) E=true:=inb_iff.2 ⟨by omega,by omega⟩
  have e1:cells.drop i=cells[i]::cells.drop (i+1):=List.drop_eq_getElem_cons hi
  have e2:decide ((i:Int) < (fl.length:Int))=true:=by rw [h.flen];simp;omega
  have e4:gt cells (i:Int)=cells[i]:=by unfold gt;simp [hi]
  have e5:IntKind.i64.wrap ((i:Int)+1)=((i+1:Nat):Int):=by rw [w64 (by omega)];rfl
  have e6:(gt fl (i:Int)).fis=cells[i].fused:=by rw [(h.same _ hin).1,e4]
  rw [fn32_l1]
  simp only [fn32_b1,e1,e2,h.fin hin,e5,e6,show decide ((-1:Int) < 0)=true from rfl,Bool.true_and,cond_true,ffree]
  cases hc:cells[i].fused with
  | true =>
   simp only [Bool.not_true,cond_false,cond_true]
   exact free_ref h hE m (n+1) (i+1) (by omega) (by omega)
  | false =>
   have e7:decide ((i:Int) < 0)=false:=by simp
   simp only [Bool.not_false,cond_true,cond_false,fn32_l1,fn32_b1,e7,Bool.and_false]
theorem ref_k1 {n:Int} (h:Rl E V K cells keys fl) (hn:inb n E=true) (hv:v.length≤20000):fn32_k1 ⟨S,fl⟩ k v n=some (0,fl.set n.toNat ⟨true,strOfNums k,v⟩):=by
 have e1:decide (n < 0)=false:=by have:=inb0 hn;simp;omega
 simp only [fn32_k1,e1,cond_false,h.fin hn,cond_true,List.nil_append]
 rw [decide_eq_true (by simp;omega)];rfl
theorem upd_both (h:Rl E V K cells keys fl) (hS:S.fKey=K) (hSV:S.fValue=(V:Int)) (hV:V≤20000) (hE:E≤20000) (hF:30000≤F) (g:Int) (EE:Int):Both E V K (fn18 F cells a K (V:Int) EE keys k v g) (fn32 F ⟨S,fl⟩ k v g):=by
 have hfind:=find_eq (S:=S) (k:=k) h hE hF
 by_cases hk:(k.length:Int)=K
 ·have e0:((k.length:Int) != K)=false:=by simpa using hk
  have e1:((k.length:Int) == K)=true:=by simpa using hk
  by_cases hv:(v.length:Int)=(V:Int)∧g≤2
  ·have f0:((v.length:Int) != (V:Int))=false:=by simpa using hv.1
   have f1:((v.length:Int) == (V:Int))=true:=by simpa using hv.1
   have f2:decide (g≤2)=true:=by simpa using hv.2
   have f3:decide ((2:Int) < g)=false:=by simpa using hv.2
   have hvl:v.length=V:=by omega
   cases hm:mhas keys (strOfNums k) with
   | true =>
    obtain ⟨hn,hu,hkk⟩:=h.key _ hm
    have n0:=inb0 hn
    have g1:decide ((0:Int)≤mget keys (strOfNums k) 0)=true:=by simpa using n0
    have g2:decide (mget keys (strOfNums k) 0 < 0)=false:=by simpa using n0
    rw [hm,cond_true] at hfind
    by_cases hg:g=1
    ·subst hg
     refine ⟨7,cells,keys,fl,?_,?_,h⟩
     ·simp only [fn18,fn45,fn46,fn47,fn24,e1,f1,f2,hm,frk1,frk2,Bool.not_true,cond_false,Bool.and_true,Bool.false_or];rfl
     simp only [fn32,hS,hSV,e0,f0,f3,Bool.or_false,cond_false,hfind,Option.bind_some,g1];rfl
    have g3:(g != 1)=true:=by simpa using hg
    have g4:(g == 1)=false:=by simpa using hg
    refine ⟨0,_,_,_,?_,?_,h.old hm hvl⟩
    ·have ht:=h.th _ hn
     simp only [fn18,fn45,fn46,fn47,fn24,e1,f1,f2,hm,g3,frk1,frk2,Bool.not_true,cond_false,Bool.and_true,Bool.false_or,Bool.true_or,at_eq (h.cin hn),h.cin hn,cond_true,paste_all (ht.trans hvl.symm)]
    have hl:fn32_l1 ⟨S,fl⟩ F (mget keys (strOfNums k) 0) 0=some (mget keys (strOfNums k) 0):=by
     obtain ⟨m,rfl⟩:∃m,F=m+1:=⟨F - 1,by omega⟩
     simp only [fn32_l1,fn32_b1,g2,Bool.and_false,cond_false]
    simp only [fn32,hS,hSV,e0,f0,f3,Bool.or_false,cond_false,hfind,Option.bind_some,g1,g2,g4,Bool.and_false,Bool.false_and,hl]
    exact ref_k1 h hn (by omega)
   | false =>
    rw [hm,cond_false] at hfind
    have g1:decide ((0:Int)≤-1)=false:=rfl
    have g2:decide ((-1:Int) < 0)=true:=rfl
    by_cases hg:g=2
    ·subst hg
     refine ⟨6,cells,keys,fl,?_,?_,h⟩
     ·simp only [fn18,fn45,fn46,fn47,fn24,e1,f1,f2,hm,frk1,frk2,Bool.not_true,Bool.not_false,cond_false,Bool.and_true,Bool.false_or,Bool.true_or];rfl
     simp only [fn32,hS,hSV,e0,f0,f3,Bool.or_false,cond_false,hfind,Option.bind_some,g1,g2,Bool.false_and];rfl
    have g3:(g != 2)=true:=by simpa using hg
    have g4:(g == 2)=false:=by simpa using hg
    have hfr:=free_ref (S:=S) h hE E F 0 (by omega) (by omega)
    rw [List.drop_zero,show ((0:Nat):Int)=0 from rfl] at hfr
    have hfi:=fun q=>first_eq (F:=F) (cells:=cells) (by rw [h.len];omega) (by rw [h.len];omega) a K (V:Int) EE q
    cases hf:ffree cells 0 with
    | none =>
     rw [hf] at hfr
     refine ⟨8,cells,keys,fl,?_,?_,h⟩
     ·simp only [fn18,fn45,fn46,fn47,fn24,e1,f1,f2,hm,g3,frk1,frk2,Bool.not_true,Bool.not_false,cond_false,cond_true,Bool.and_true,Bool.false_or,Bool.true_or,hfi,hf];rfl
     simp only [fn32,hS,hSV,e0,f0,f3,Bool.or_false,cond_false,hfind,Option.bind_some,g1,g2,g4,Bool.and_false,Bool.false_and,hfr];rfl
    | some j =>
     rw [hf] at hfr
     obtain ⟨_,c,hc,hcu⟩:=ffree_some hf
     rw [Nat.sub_zero] at hc
     have hlt:j < cells.length:=by
      rcases Nat.lt_or_ge j cells.length with h1 | h1
      ·exact h1
      rw [List.getElem?_eq_none h1] at hc;cases hc
     have hj:inb (j:Int) E=true:=inb_iff.2 ⟨by omega,by have:=h.len;omega⟩
     have hgc:gt cells (j:Int)=c:=by
      unfold gt;rw [List.getD_eq_getElem?_getD,Int.toNat_natCast,hc];rfl
     have hfree:(gt fl (j:Int)).fis=false:=by rw [(h.same _ hj).1,hgc,hcu]
     refine ⟨0,_,_,_,?_,?_,h.new (j:=(j:Int)) hm (by rw [strOfNums_size];exact hk) hj hfree hvl⟩
     ·have ht:=h.th _ hj
      simp only [fn18,fn45,fn46,fn47,fn24,e1,f1,f2,hm,g3,frk1,frk2,Bool.not_true,Bool.not_false,cond_false,cond_true,Bool.and_true,Bool.false_or,Bool.true_or,hfi,hf,at_eq (h.cin hj),h.cin hj,paste_all (ht.trans hvl.symm)]
     simp only [fn32,hS,hSV,e0,f0,f3,Bool.or_false,cond_false,hfind,Option.bind_some,g1,g2,g4,Bool.and_false,Bool.false_and,hfr]
     exact ref_k1 h hj (by omega)
  have f1:(((v.length:Int) == (V:Int))&&decide (g≤2))=false:=by
   cases hb:((v.length:Int) == (V:Int))&&decide (g≤2) with
   | false=>rfl
   | true=>rw [Bool.and_eq_true] at hb;exact absurd ⟨by simpa using hb.1,by simpa using hb.2⟩ hv
  have f2:(((v.length:Int) != (V:Int))||decide ((2:Int) < g))=true:=by
   cases hb:((v.length:Int) != (V:Int))||decide ((2:Int) < g) with
   | true=>rfl
   | false=>rw [Bool.or_eq_false_iff] at hb;exact absurd ⟨by simpa using hb.1,by simpa using hb.2⟩ hv
  refine ⟨2,cells,keys,fl,?_,?_,h⟩
  ·simp only [fn18,fn45,fn46,fn47,fn24,e1,f1,frk1,frk2,Bool.not_true,Bool.not_false,cond_false,cond_true];rfl
  simp only [fn32,hS,hSV,e0,Bool.false_or,f2,cond_true]
 have e0:((k.length:Int) != K)=true:=by simpa using hk
 have e1:((k.length:Int) == K)=false:=by simpa using hk
 refine ⟨2,cells,keys,fl,?_,?_,h⟩
 ·simp only [fn18,fn45,fn46,fn47,fn24,e1,frk1,frk2,Bool.not_false,cond_true];rfl
 simp only [fn32,hS,e0,Bool.true_or,cond_true]
theorem paste_len {xs ys:List Int} {p:Nat} (hp:p+ys.length≤xs.length):(pasteX xs p ys).length=xs.length:=by
 simp [pasteX];omega
def Both2 (E V:Nat) (K:Int) (keys:List (ByteArray×Int)) (x:Option (Int×List HCell)) (y:Option (Int×List RPlace)):Prop :=
 ∃e c f,x=some (e,c)∧y=some (e,f)∧Rl E V K c keys f
theorem set_both (h:Rl E V K cells keys fl) (hSV:S.fValue=(V:Int)) (hV:V≤20000) (hv:v.length≤20000) (n p:Int) (EE:Int):Both2 E V K keys (fn29 cells a K (V:Int) EE keys n p v) (fn30 ⟨S,fl⟩ n p v):=by
 cases hn:inb n E with
 | false =>
  refine ⟨6,cells,fl,?_,?_,h⟩
  ·simp only [fn29,fn45v2,fn57,at_out (show inb n cells.length=false by rw [h.len];exact hn),frk1,frk2];rfl
  by_cases h0:n < 0
  ·simp [fn30,h0]
  have h1:(fl.length:Int)≤n:=by
   rw [h.flen]
   rcases Int.lt_or_le n (E:Int) with h2 | h2
   ·rw [inb_iff.2 ⟨by omega,h2⟩] at hn;cases hn
   exact h2
  simp [fn30,h0,h1]
 | true =>
  have h1:=inb_iff.1 hn
  have e1:decide (n < 0)=false:=by simp;omega
  have e2:decide ((fl.length:Int)≤n)=false:=by rw [h.flen];simp;omega
  have hl:=h.th n hn
  have hb:=(h.same n hn).2
  by_cases hc:0≤p∧p≤(V:Int)∧(v.length:Int)≤(V:Int) - p
  ·obtain ⟨c1,c2,c3⟩:=hc
   have w:IntKind.i64.wrap ((V:Int) - p)=(V:Int) - p:=w64 (by omega)
   have d1:decide ((0:Int)≤p)=true:=by simpa using c1
   have d2:decide (p≤(V:Int))=true:=by simpa using c2
   have d3:decide ((v.length:Int)≤(V:Int) - p)=true:=by simpa using c3
   have d4:decide (p < 0)=false:=by simpa using c1
   have d5:decide ((V:Int) < p)=false:=by simpa using c2
   have d6:decide ((V:Int) - p < (v.length:Int))=false:=by simpa using c3
   have d7:sliceOk p ((V:Nat):Int) V=true:=by simp [sliceOk];omega
   have tk:v.take ((p.toNat+(V - p.toNat)) - p.toNat)=v:=List.take_of_length_le (by omega)
   refine ⟨0,_,_,?_,?_,h.paste (v:=pasteX (gt cells n).fthing p.toNat v) hn (by rw [paste_len (by rw [hl];omega)];exact hl)⟩
   ·simp only [fn29,fn45v2,fn57,fn24,at_eq (h.cin hn),h.cin hn,hl,w,d1,d2,d3,d7,Int.toNat_natCast,tk,frk1,frk2,Bool.and_true,Bool.not_true,cond_true,cond_false]
   simp only [fn30,e1,e2,hSV,hb,hl,w,d4,d5,d6,d7,h.fin hn,Int.toNat_natCast,tk,Bool.or_false,cond_true,cond_false]
  have f1:((decide ((0:Int)≤p)&&decide (p≤(V:Int)))&&decide ((v.length:Int)≤IntKind.i64.wrap ((V:Int) - p)))=false:=by
   cases hx:(decide ((0:Int)≤p)&&decide (p≤(V:Int)))&&decide ((v.length:Int)≤IntKind.i64.wrap ((V:Int) - p)) with
   | false=>rfl
   | true =>
    simp only [Bool.and_eq_true,decide_eq_true_eq] at hx
    rw [w64 (by omega)] at hx
    exact absurd ⟨hx.1.1,hx.1.2,hx.2⟩ hc
  have f2:((decide (p < 0)||decide ((V:Int) < p))||decide (IntKind.i64.wrap ((V:Int) - p) < (v.length:Int)))=true:=by
   cases hx:(decide (p < 0)||decide ((V:Int) < p))||decide (IntKind.i64.wrap ((V:Int) - p) < (v.length:Int)) with
   | true=>rfl
   | false =>
    simp only [Bool.or_eq_false_iff,decide_eq_false_iff_not] at hx
    rw [w64 (by omega)] at hx
    exact absurd ⟨by omega,by omega,by omega⟩ hc
  refine ⟨32,cells,fl,?_,?_,h⟩
  ·simp only [fn29,fn45v2,fn57,fn24,at_eq (h.cin hn),h.cin hn,hl,f1,frk1,frk2,cond_true,Bool.not_false];rfl
  simp only [fn30,e1,e2,hSV,f2,cond_true,cond_false]
end
end Go.Proofs.YteicbpfkljnemaaGreat
