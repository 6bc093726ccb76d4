/- Part of the proof: the logic, the walks, and what they compute. -/
import Derived.Test.YteicbpfkljnemaaGreatProg
import Derived.Test.YteicbpfkljnemaaGreatTC
set_option linter.all false
namespace Go.Proofs.YteicbpfkljnemaaGreat.Fl
open Go Go.HW
set_option maxRecDepth 40000
set_option maxHeartbeats 8000000
noncomputable def tb:TB:=⟨⟨[(3,.int .i64),(5,.int .u8),(9,.string),(36,.slice 5),(37,.int .u64),(44,.slice 36),(46,.slice 44),(82,.slice 158),(83,.slice 160),(84,.slice 48),(85,.slice 161),(86,.slice 49),(87,.slice 163),(88,.slice 165),(89,.slice 170),(90,.slice 172),(91,.slice 174),(92,.slice 179),(93,.slice 183),(94,.slice 188),(95,.slice 194),(96,.slice 203),(97,.slice 208),(98,.slice 213),(99,.slice 218),(100,.slice 223),(101,.slice 227),(102,.slice 232),(103,.slice 236)],[],[(5,1)]⟩,⟨[(5,[.v (.int .u8 0)])]⟩,⟨[],[],[90,91]⟩,⟨[(36,(1,24,[.v (.slice none 0 0)])),(44,(1,24,[.v (.slice none 0 0)])),(48,(1,24,[.v (.slice none 0 0)])),(49,(1,24,[.v (.slice none 0 0)])),(158,(1,24,[.v (.slice none 0 0)])),(160,(1,24,[.v (.slice none 0 0)])),(161,(1,24,[.v (.slice none 0 0)])),(163,(1,24,[.v (.slice none 0 0)])),(165,(1,24,[.v (.slice none 0 0)])),(170,(1,24,[.v (.slice none 0 0)])),(172,(1,24,[.v (.slice none 0 0)])),(174,(1,24,[.v (.slice none 0 0)])),(179,(1,24,[.v (.slice none 0 0)])),(183,(1,24,[.v (.slice none 0 0)])),(188,(1,24,[.v (.slice none 0 0)])),(194,(1,24,[.v (.slice none 0 0)])),(203,(1,24,[.v (.slice none 0 0)])),(208,(1,24,[.v (.slice none 0 0)])),(213,(1,24,[.v (.slice none 0 0)])),(218,(1,24,[.v (.slice none 0 0)])),(223,(1,24,[.v (.slice none 0 0)])),(227,(1,24,[.v (.slice none 0 0)])),(232,(1,24,[.v (.slice none 0 0)])),(236,(1,24,[.v (.slice none 0 0)]))]⟩,[]⟩
theorem tbOk:TBOk Tryz.prog tb :=
 ⟨⟨⟨Tryz.runUnderlying3,Tryz.runUnderlying5,Tryz.runUnderlying9,Tryz.runUnderlying36,Tryz.runUnderlying37,Tryz.runUnderlying44,Tryz.runUnderlying46,Tryz.runUnderlying82,Tryz.runUnderlying83,Tryz.runUnderlying84,Tryz.runUnderlying85,Tryz.runUnderlying86,Tryz.runUnderlying87,Tryz.runUnderlying88,Tryz.runUnderlying89,Tryz.runUnderlying90,Tryz.runUnderlying91,Tryz.runUnderlying92,Tryz.runUnderlying93,Tryz.runUnderlying94,Tryz.runUnderlying95,Tryz.runUnderlying96,Tryz.runUnderlying97,Tryz.runUnderlying98,Tryz.runUnderlying99,Tryz.runUnderlying100,Tryz.runUnderlying101,Tryz.runUnderlying102,Tryz.runUnderlying103,trivial⟩,trivial,⟨Tryz.sizeOf5,trivial⟩⟩,⟨⟨⟨_,_,Tryz.zeroValue5,rfl,rfl⟩,trivial⟩⟩,⟨trivial,trivial,⟨Tryz.call90,Tryz.call91,trivial⟩⟩,⟨⟨⟨_,_,_,Tryz.typeInfo36,rfl,rfl,rfl,rfl,rfl,rfl⟩,⟨_,_,_,Tryz.typeInfo44,rfl,rfl,rfl,rfl,rfl,rfl⟩,⟨_,_,_,Tryz.typeInfo48,rfl,rfl,rfl,rfl,rfl,rfl⟩,⟨_,_,_,Tryz.typeInfo49,rfl,rfl,rfl,rfl,rfl,rfl⟩,⟨_,_,_,Tryz.typeInfo158,rfl,rfl,rfl,rfl,rfl,rfl⟩,⟨_,_,_,Tryz.typeInfo160,rfl,rfl,rfl,rfl,rfl,rfl⟩,⟨_,_,_,Tryz.typeInfo161,rfl,rfl,rfl,rfl,rfl,rfl⟩,⟨_,_,_,Tryz.typeInfo163,rfl,rfl,rfl,rfl,rfl,rfl⟩,⟨_,_,_,Tryz.typeInfo165,rfl,rfl,rfl,rfl,rfl,rfl⟩,⟨_,_,_,Tryz.typeInfo170,rfl,rfl,rfl,rfl,rfl,rfl⟩,⟨_,_,_,Tryz.typeInfo172,rfl,rfl,rfl,rfl,rfl,rfl⟩,⟨_,_,_,Tryz.typeInfo174,rfl,rfl,rfl,rfl,rfl,rfl⟩,⟨_,_,_,Tryz.typeInfo179,rfl,rfl,rfl,rfl,rfl,rfl⟩,⟨_,_,_,Tryz.typeInfo183,rfl,rfl,rfl,rfl,rfl,rfl⟩,⟨_,_,_,Tryz.typeInfo188,rfl,rfl,rfl,rfl,rfl,rfl⟩,⟨_,_,_,Tryz.typeInfo194,rfl,rfl,rfl,rfl,rfl,rfl⟩,⟨_,_,_,Tryz.typeInfo203,rfl,rfl,rfl,rfl,rfl,rfl⟩,⟨_,_,_,Tryz.typeInfo208,rfl,rfl,rfl,rfl,rfl,rfl⟩,⟨_,_,_,Tryz.typeInfo213,rfl,rfl,rfl,rfl,rfl,rfl⟩,⟨_,_,_,Tryz.typeInfo218,rfl,rfl,rfl,rfl,rfl,rfl⟩,⟨_,_,_,Tryz.typeInfo223,rfl,rfl,rfl,rfl,rfl,rfl⟩,⟨_,_,_,Tryz.typeInfo227,rfl,rfl,rfl,rfl,rfl,rfl⟩,⟨_,_,_,Tryz.typeInfo232,rfl,rfl,rfl,rfl,rfl,rfl⟩,⟨_,_,_,Tryz.typeInfo236,rfl,rfl,rfl,rfl,rfl,rfl⟩,trivial⟩⟩⟩
theorem V_ {c:C4} {Q:Exit→Act→World→Prop} (k:Nat) {p p':Pos} {L:SL} {H:SH} {n:Nat} {s':St} (es:List (Ev c)) {cs:List Prop} (hc:allP cs) (g:G4 c Q p' s') (hB:TBOk c.P tb:=by exact tbOk) (h:drive tb c.n false 999 k p L H n es=some (cs,p',s'):=by rfl):G4 c Q p ⟨L,H,n⟩:=RU hB false 999 k es hc h g
theorem V0 {c:C4} {Q:Exit→Act→World→Prop} (k:Nat) {p p':Pos} {L:SL} {H:SH} {n:Nat} {s':St} (g:G4 c Q p' s') (hB:TBOk c.P tb:=by exact tbOk) (h:drive tb c.n false 999 k p L H n ([]:List (Ev c))=some ([],p',s'):=by rfl):G4 c Q p ⟨L,H,n⟩:=RU hB false 999 k [] aN h g
def fn90 (p0:Int) (p1:Int):Int :=
 IntKind.i64.wrap ((IntKind.i64.wrap ((1000003:Int) * (IntKind.i64.wrap (p0+7))))+p1)
theorem c90 (p0:Int) (p1:Int) (r:Int) (h:fn90 p0 p1=r):Con Tryz.prog 90 [vi p0,vi p1] [] 0 (vi r) [] 0:=by
 rw [fn90] at h
 refine Con.of_body Tryz.func90 rfl Tryz.ntmps90 rfl fun w F0 ρ gl=>?_
 refine V0 7 ?_
 subst h
 exact T_ tbOk.t Tryz.results90 []
def fn55 (p0:Int) (p1:Int):Int :=
 IntKind.u8.wrap (ishr .u64 (IntKind.u64.wrap ((IntKind.u64.wrap (fn90 p0 p1)) * 11400714819323198485)) 56)
theorem c55 (p0:Int) (p1:Int) (r:Int) (h:fn55 p0 p1=r):Con Tryz.prog 55 [vi p0,vi p1] [] 0 (vb r) [] 0:=by
 rw [fn55] at h
 refine Con.of_body Tryz.func55 rfl Tryz.ntmps55 rfl fun w F0 ρ gl=>?_
 refine V_ 4 [.cl true [] (fun _=>c90 p0 p1 _ rfl)] (aK aN) ?_
 refine V_ 5 [] (aC rfl aN) ?_
 subst h
 exact T_ tbOk.t Tryz.results55 []
def fn91 (p0:Int) (p1:Int):ByteArray :=
 strOfNums ([35,IntKind.u8.wrap p0,IntKind.u8.wrap (ishr .i64 p0 8),IntKind.u8.wrap (ishr .i64 p0 16),47,IntKind.u8.wrap p1,IntKind.u8.wrap (ishr .i64 p1 8),IntKind.u8.wrap (ishr .i64 p1 16)]:List Int)
theorem c91 (p0:Int) (p1:Int) (r:ByteArray) (h:fn91 p0 p1=r):Con Tryz.prog 91 [vi p0,vi p1] [] 0 (.v (.string r)) [] 0:=by
 rw [fn91] at h
 refine Con.of_body Tryz.func91 rfl Tryz.ntmps91 rfl fun w F0 ρ gl=>?_
 refine V_ 20 [.bs (Et.int .u8) ([35,IntKind.u8.wrap p0,IntKind.u8.wrap (ishr .i64 p0 8),IntKind.u8.wrap (ishr .i64 p0 16),47,IntKind.u8.wrap p1,IntKind.u8.wrap (ishr .i64 p1 8),IntKind.u8.wrap (ishr .i64 p1 16)]:List Int),.b2 _] (aC rfl (aC rfl (aC rfl (aC rfl (aR (aR (aR aN))))))) ?_
 subst h
 exact T_ tbOk.t Tryz.results91 []
def fn92 (p0:Int) (p1:Int):Option ((List Int)) :=
 bif decide ((fn91 p0 p1).size≤9223372036854775807) then (some (numsOf (fn91 p0 p1))) else none
theorem c92 (p0:Int) (p1:Int) (r:(List Int)) (h:fn92 p0 p1=some r):Con Tryz.prog 92 [vi p0,vi p1] [] 0 (.sl 0) [(0,.row (Et.int .u8) 5 r r.length .unk)] 1:=by
 rw [fn92] at h
 refine Con.of_body Tryz.func92 rfl Tryz.ntmps92 rfl fun w F0 ρ gl=>?_
 refine V_ 4 [.cl true [] (fun _=>c91 p0 p1 _ rfl)] (aK aN) ?_
 obtain ⟨hk1,h⟩:=ck h
 refine V_ 2 [.s2] (aC hk1 aN) ?_
 obtain rfl:=sj h
 refine G4.imp (Imp.row 0 (by rfl)) ?_
 exact T_ tbOk.t Tryz.results92 [0]
def flt:Option Bool :=
 bif decide ((0:Int)≤0)&&decide ((0:Int)≤0)&&decide ((24:Int) * 0≤281474976710656)&&decide ((0:Int)≤9223372036854775807) then (some (true)) else none
def fn60:Option (Bool) :=
 flt
theorem c60 (r:Bool) (h:fn60=some r):Con Tryz.prog 60 [.v (.slice none 0 0)] [] 0 (.v (.bool r)) [] 0:=by
 rw [fn60,flt] at h
 refine Con.of_body Tryz.func60 rfl Tryz.ntmps60 rfl fun w F0 ρ gl=>?_
 refine V0 2 ?_
 refine LPU 9 fun R0 ih0=>?_
 refine V0 4 ?_
 refine CF ?_
 obtain ⟨hk1,h⟩:=ck h
 refine V_ 5 [.ms Et.nils ()] (aC hk1 (aR aN)) ?_
 refine LPU 9 fun R0 ih0=>?_
 refine V0 4 ?_
 refine CF ?_
 refine V0 1 ?_
 refine LPU 9 fun R0 ih0=>?_
 refine V0 4 ?_
 refine CF ?_
 refine V0 1 ?_
 refine LPU 9 fun R0 ih0=>?_
 refine V0 4 ?_
 refine CF ?_
 refine V0 1 ?_
 refine LPU 9 fun R0 ih0=>?_
 refine V0 4 ?_
 refine CF ?_
 refine V0 1 ?_
 obtain rfl:=sj h
 exact T_ tbOk.t Tryz.results60 []
def fn61:Option (Bool) :=
 flt
theorem c61 (r:Bool) (h:fn61=some r):Con Tryz.prog 61 [.v (.slice none 0 0)] [] 0 (.v (.bool r)) [] 0:=by
 rw [fn61,flt] at h
 refine Con.of_body Tryz.func61 rfl Tryz.ntmps61 rfl fun w F0 ρ gl=>?_
 refine V0 2 ?_
 refine LPU 9 fun R0 ih0=>?_
 refine V0 4 ?_
 refine CF ?_
 obtain ⟨hk1,h⟩:=ck h
 refine V_ 5 [.ms Et.nils ()] (aC hk1 (aR aN)) ?_
 refine LPU 9 fun R0 ih0=>?_
 refine V0 4 ?_
 refine CF ?_
 refine V0 1 ?_
 refine LPU 9 fun R0 ih0=>?_
 refine V0 4 ?_
 refine CF ?_
 refine V0 1 ?_
 refine LPU 9 fun R0 ih0=>?_
 refine V0 4 ?_
 refine CF ?_
 refine V0 1 ?_
 refine LPU 9 fun R0 ih0=>?_
 refine V0 4 ?_
 refine CF ?_
 refine V0 1 ?_
 obtain rfl:=sj h
 exact T_ tbOk.t Tryz.results61 []
def fn62:Option (Bool) :=
 flt
theorem c62 (r:Bool) (h:fn62=some r):Con Tryz.prog 62 [.v (.slice none 0 0)] [] 0 (.v (.bool r)) [] 0:=by
 rw [fn62,flt] at h
 refine Con.of_body Tryz.func62 rfl Tryz.ntmps62 rfl fun w F0 ρ gl=>?_
 refine V0 2 ?_
 refine LPU 9 fun R0 ih0=>?_
 refine V0 4 ?_
 refine CF ?_
 obtain ⟨hk1,h⟩:=ck h
 refine V_ 5 [.ms Et.nils ()] (aC hk1 (aR aN)) ?_
 refine LPU 9 fun R0 ih0=>?_
 refine V0 4 ?_
 refine CF ?_
 refine V0 1 ?_
 refine LPU 9 fun R0 ih0=>?_
 refine V0 4 ?_
 refine CF ?_
 refine V0 1 ?_
 refine LPU 9 fun R0 ih0=>?_
 refine V0 4 ?_
 refine CF ?_
 refine V0 1 ?_
 refine LPU 9 fun R0 ih0=>?_
 refine V0 4 ?_
 refine CF ?_
 refine V0 1 ?_
 obtain rfl:=sj h
 exact T_ tbOk.t Tryz.results62 []
def fn63:Option (Bool) :=
 flt
theorem c63 (r:Bool) (h:fn63=some r):Con Tryz.prog 63 [.v (.slice none 0 0)] [] 0 (.v (.bool r)) [] 0:=by
 rw [fn63,flt] at h
 refine Con.of_body Tryz.func63 rfl Tryz.ntmps63 rfl fun w F0 ρ gl=>?_
 refine V0 2 ?_
 refine LPU 9 fun R0 ih0=>?_
 refine V0 4 ?_
 refine CF ?_
 obtain ⟨hk1,h⟩:=ck h
 refine V_ 5 [.ms Et.nils ()] (aC hk1 (aR aN)) ?_
 refine LPU 9 fun R0 ih0=>?_
 refine V0 4 ?_
 refine CF ?_
 refine V0 1 ?_
 refine LPU 9 fun R0 ih0=>?_
 refine V0 4 ?_
 refine CF ?_
 refine V0 1 ?_
 refine LPU 9 fun R0 ih0=>?_
 refine V0 4 ?_
 refine CF ?_
 refine V0 1 ?_
 refine LPU 9 fun R0 ih0=>?_
 refine V0 4 ?_
 refine CF ?_
 refine V0 1 ?_
 obtain rfl:=sj h
 exact T_ tbOk.t Tryz.results63 []
def fn64:Option (Bool) :=
 flt
theorem c64 (r:Bool) (h:fn64=some r):Con Tryz.prog 64 [.v (.slice none 0 0)] [] 0 (.v (.bool r)) [] 0:=by
 rw [fn64,flt] at h
 refine Con.of_body Tryz.func64 rfl Tryz.ntmps64 rfl fun w F0 ρ gl=>?_
 refine V0 2 ?_
 refine LPU 9 fun R0 ih0=>?_
 refine V0 4 ?_
 refine CF ?_
 obtain ⟨hk1,h⟩:=ck h
 refine V_ 5 [.ms Et.nils ()] (aC hk1 (aR aN)) ?_
 refine LPU 9 fun R0 ih0=>?_
 refine V0 4 ?_
 refine CF ?_
 refine V0 1 ?_
 refine LPU 9 fun R0 ih0=>?_
 refine V0 4 ?_
 refine CF ?_
 refine V0 1 ?_
 refine LPU 9 fun R0 ih0=>?_
 refine V0 4 ?_
 refine CF ?_
 refine V0 1 ?_
 refine LPU 9 fun R0 ih0=>?_
 refine V0 4 ?_
 refine CF ?_
 refine V0 1 ?_
 obtain rfl:=sj h
 exact T_ tbOk.t Tryz.results64 []
def fn65:Option (Bool) :=
 flt
theorem c65 (r:Bool) (h:fn65=some r):Con Tryz.prog 65 [.v (.slice none 0 0)] [] 0 (.v (.bool r)) [] 0:=by
 rw [fn65,flt] at h
 refine Con.of_body Tryz.func65 rfl Tryz.ntmps65 rfl fun w F0 ρ gl=>?_
 refine V0 2 ?_
 refine LPU 9 fun R0 ih0=>?_
 refine V0 4 ?_
 refine CF ?_
 obtain ⟨hk1,h⟩:=ck h
 refine V_ 5 [.ms Et.nils ()] (aC hk1 (aR aN)) ?_
 refine LPU 9 fun R0 ih0=>?_
 refine V0 4 ?_
 refine CF ?_
 refine V0 1 ?_
 refine LPU 9 fun R0 ih0=>?_
 refine V0 4 ?_
 refine CF ?_
 refine V0 1 ?_
 refine LPU 9 fun R0 ih0=>?_
 refine V0 4 ?_
 refine CF ?_
 refine V0 1 ?_
 refine LPU 9 fun R0 ih0=>?_
 refine V0 4 ?_
 refine CF ?_
 refine V0 1 ?_
 obtain rfl:=sj h
 exact T_ tbOk.t Tryz.results65 []
def fn66:Option (Bool) :=
 flt
theorem c66 (r:Bool) (h:fn66=some r):Con Tryz.prog 66 [.v (.slice none 0 0)] [] 0 (.v (.bool r)) [] 0:=by
 rw [fn66,flt] at h
 refine Con.of_body Tryz.func66 rfl Tryz.ntmps66 rfl fun w F0 ρ gl=>?_
 refine V0 2 ?_
 refine LPU 9 fun R0 ih0=>?_
 refine V0 4 ?_
 refine CF ?_
 obtain ⟨hk1,h⟩:=ck h
 refine V_ 5 [.ms Et.nils ()] (aC hk1 (aR aN)) ?_
 refine LPU 9 fun R0 ih0=>?_
 refine V0 4 ?_
 refine CF ?_
 refine V0 1 ?_
 refine LPU 9 fun R0 ih0=>?_
 refine V0 4 ?_
 refine CF ?_
 refine V0 1 ?_
 refine LPU 9 fun R0 ih0=>?_
 refine V0 4 ?_
 refine CF ?_
 refine V0 1 ?_
 refine LPU 9 fun R0 ih0=>?_
 refine V0 4 ?_
 refine CF ?_
 refine V0 1 ?_
 obtain rfl:=sj h
 exact T_ tbOk.t Tryz.results66 []
def fn67:Option (Bool) :=
 flt
theorem c67 (r:Bool) (h:fn67=some r):Con Tryz.prog 67 [.v (.slice none 0 0)] [] 0 (.v (.bool r)) [] 0:=by
 rw [fn67,flt] at h
 refine Con.of_body Tryz.func67 rfl Tryz.ntmps67 rfl fun w F0 ρ gl=>?_
 refine V0 2 ?_
 refine LPU 9 fun R0 ih0=>?_
 refine V0 4 ?_
 refine CF ?_
 obtain ⟨hk1,h⟩:=ck h
 refine V_ 5 [.ms Et.nils ()] (aC hk1 (aR aN)) ?_
 refine LPU 9 fun R0 ih0=>?_
 refine V0 4 ?_
 refine CF ?_
 refine V0 1 ?_
 refine LPU 9 fun R0 ih0=>?_
 refine V0 4 ?_
 refine CF ?_
 refine V0 1 ?_
 refine LPU 9 fun R0 ih0=>?_
 refine V0 4 ?_
 refine CF ?_
 refine V0 1 ?_
 refine LPU 9 fun R0 ih0=>?_
 refine V0 4 ?_
 refine CF ?_
 refine V0 1 ?_
 obtain rfl:=sj h
 exact T_ tbOk.t Tryz.results67 []
def fn68:Option (Bool) :=
 flt
theorem c68 (r:Bool) (h:fn68=some r):Con Tryz.prog 68 [.v (.slice none 0 0)] [] 0 (.v (.bool r)) [] 0:=by
 rw [fn68,flt] at h
 refine Con.of_body Tryz.func68 rfl Tryz.ntmps68 rfl fun w F0 ρ gl=>?_
 refine V0 2 ?_
 refine LPU 9 fun R0 ih0=>?_
 refine V0 4 ?_
 refine CF ?_
 obtain ⟨hk1,h⟩:=ck h
 refine V_ 5 [.ms Et.nils ()] (aC hk1 (aR aN)) ?_
 refine LPU 9 fun R0 ih0=>?_
 refine V0 4 ?_
 refine CF ?_
 refine V0 1 ?_
 refine LPU 9 fun R0 ih0=>?_
 refine V0 4 ?_
 refine CF ?_
 refine V0 1 ?_
 refine LPU 9 fun R0 ih0=>?_
 refine V0 4 ?_
 refine CF ?_
 refine V0 1 ?_
 refine LPU 9 fun R0 ih0=>?_
 refine V0 4 ?_
 refine CF ?_
 refine V0 1 ?_
 obtain rfl:=sj h
 exact T_ tbOk.t Tryz.results68 []
def fn69:Option (Bool) :=
 flt
theorem c69 (r:Bool) (h:fn69=some r):Con Tryz.prog 69 [.v (.slice none 0 0)] [] 0 (.v (.bool r)) [] 0:=by
 rw [fn69,flt] at h
 refine Con.of_body Tryz.func69 rfl Tryz.ntmps69 rfl fun w F0 ρ gl=>?_
 refine V0 2 ?_
 refine LPU 9 fun R0 ih0=>?_
 refine V0 4 ?_
 refine CF ?_
 obtain ⟨hk1,h⟩:=ck h
 refine V_ 5 [.ms Et.nils ()] (aC hk1 (aR aN)) ?_
 refine LPU 9 fun R0 ih0=>?_
 refine V0 4 ?_
 refine CF ?_
 refine V0 1 ?_
 refine LPU 9 fun R0 ih0=>?_
 refine V0 4 ?_
 refine CF ?_
 refine V0 1 ?_
 refine LPU 9 fun R0 ih0=>?_
 refine V0 4 ?_
 refine CF ?_
 refine V0 1 ?_
 refine LPU 9 fun R0 ih0=>?_
 refine V0 4 ?_
 refine CF ?_
 refine V0 1 ?_
 obtain rfl:=sj h
 exact T_ tbOk.t Tryz.results69 []
def fn70:Option (Bool) :=
 flt
theorem c70 (r:Bool) (h:fn70=some r):Con Tryz.prog 70 [.v (.slice none 0 0)] [] 0 (.v (.bool r)) [] 0:=by
 rw [fn70,flt] at h
 refine Con.of_body Tryz.func70 rfl Tryz.ntmps70 rfl fun w F0 ρ gl=>?_
 refine V0 2 ?_
 refine LPU 9 fun R0 ih0=>?_
 refine V0 4 ?_
 refine CF ?_
 obtain ⟨hk1,h⟩:=ck h
 refine V_ 5 [.ms Et.nils ()] (aC hk1 (aR aN)) ?_
 refine LPU 9 fun R0 ih0=>?_
 refine V0 4 ?_
 refine CF ?_
 refine V0 1 ?_
 refine LPU 9 fun R0 ih0=>?_
 refine V0 4 ?_
 refine CF ?_
 refine V0 1 ?_
 refine LPU 9 fun R0 ih0=>?_
 refine V0 4 ?_
 refine CF ?_
 refine V0 1 ?_
 refine LPU 9 fun R0 ih0=>?_
 refine V0 4 ?_
 refine CF ?_
 refine V0 1 ?_
 obtain rfl:=sj h
 exact T_ tbOk.t Tryz.results70 []
def fn71:Option (Bool) :=
 flt
theorem c71 (r:Bool) (h:fn71=some r):Con Tryz.prog 71 [.v (.slice none 0 0)] [] 0 (.v (.bool r)) [] 0:=by
 rw [fn71,flt] at h
 refine Con.of_body Tryz.func71 rfl Tryz.ntmps71 rfl fun w F0 ρ gl=>?_
 refine V0 2 ?_
 refine LPU 9 fun R0 ih0=>?_
 refine V0 4 ?_
 refine CF ?_
 obtain ⟨hk1,h⟩:=ck h
 refine V_ 5 [.ms Et.nils ()] (aC hk1 (aR aN)) ?_
 refine LPU 9 fun R0 ih0=>?_
 refine V0 4 ?_
 refine CF ?_
 refine V0 1 ?_
 refine LPU 9 fun R0 ih0=>?_
 refine V0 4 ?_
 refine CF ?_
 refine V0 1 ?_
 refine LPU 9 fun R0 ih0=>?_
 refine V0 4 ?_
 refine CF ?_
 refine V0 1 ?_
 refine LPU 9 fun R0 ih0=>?_
 refine V0 4 ?_
 refine CF ?_
 refine V0 1 ?_
 obtain rfl:=sj h
 exact T_ tbOk.t Tryz.results71 []
def fn72:Option (Bool) :=
 flt
theorem c72 (r:Bool) (h:fn72=some r):Con Tryz.prog 72 [.v (.slice none 0 0)] [] 0 (.v (.bool r)) [] 0:=by
 rw [fn72,flt] at h
 refine Con.of_body Tryz.func72 rfl Tryz.ntmps72 rfl fun w F0 ρ gl=>?_
 refine V0 2 ?_
 refine LPU 9 fun R0 ih0=>?_
 refine V0 4 ?_
 refine CF ?_
 obtain ⟨hk1,h⟩:=ck h
 refine V_ 5 [.ms Et.nils ()] (aC hk1 (aR aN)) ?_
 refine LPU 9 fun R0 ih0=>?_
 refine V0 4 ?_
 refine CF ?_
 refine V0 1 ?_
 refine LPU 9 fun R0 ih0=>?_
 refine V0 4 ?_
 refine CF ?_
 refine V0 1 ?_
 refine LPU 9 fun R0 ih0=>?_
 refine V0 4 ?_
 refine CF ?_
 refine V0 1 ?_
 refine LPU 9 fun R0 ih0=>?_
 refine V0 4 ?_
 refine CF ?_
 refine V0 1 ?_
 obtain rfl:=sj h
 exact T_ tbOk.t Tryz.results72 []
def fn73:Option (Bool) :=
 flt
theorem c73 (r:Bool) (h:fn73=some r):Con Tryz.prog 73 [.v (.slice none 0 0)] [] 0 (.v (.bool r)) [] 0:=by
 rw [fn73,flt] at h
 refine Con.of_body Tryz.func73 rfl Tryz.ntmps73 rfl fun w F0 ρ gl=>?_
 refine V0 2 ?_
 refine LPU 9 fun R0 ih0=>?_
 refine V0 4 ?_
 refine CF ?_
 obtain ⟨hk1,h⟩:=ck h
 refine V_ 5 [.ms Et.nils ()] (aC hk1 (aR aN)) ?_
 refine LPU 9 fun R0 ih0=>?_
 refine V0 4 ?_
 refine CF ?_
 refine V0 1 ?_
 refine LPU 9 fun R0 ih0=>?_
 refine V0 4 ?_
 refine CF ?_
 refine V0 1 ?_
 refine LPU 9 fun R0 ih0=>?_
 refine V0 4 ?_
 refine CF ?_
 refine V0 1 ?_
 refine LPU 9 fun R0 ih0=>?_
 refine V0 4 ?_
 refine CF ?_
 refine V0 1 ?_
 obtain rfl:=sj h
 exact T_ tbOk.t Tryz.results73 []
def fn74:Option (Bool) :=
 flt
theorem c74 (r:Bool) (h:fn74=some r):Con Tryz.prog 74 [.v (.slice none 0 0)] [] 0 (.v (.bool r)) [] 0:=by
 rw [fn74,flt] at h
 refine Con.of_body Tryz.func74 rfl Tryz.ntmps74 rfl fun w F0 ρ gl=>?_
 refine V0 2 ?_
 refine LPU 9 fun R0 ih0=>?_
 refine V0 4 ?_
 refine CF ?_
 obtain ⟨hk1,h⟩:=ck h
 refine V_ 5 [.ms Et.nils ()] (aC hk1 (aR aN)) ?_
 refine LPU 9 fun R0 ih0=>?_
 refine V0 4 ?_
 refine CF ?_
 refine V0 1 ?_
 refine LPU 9 fun R0 ih0=>?_
 refine V0 4 ?_
 refine CF ?_
 refine V0 1 ?_
 refine LPU 9 fun R0 ih0=>?_
 refine V0 4 ?_
 refine CF ?_
 refine V0 1 ?_
 refine LPU 9 fun R0 ih0=>?_
 refine V0 4 ?_
 refine CF ?_
 refine V0 1 ?_
 obtain rfl:=sj h
 exact T_ tbOk.t Tryz.results74 []
def fn75:Option (Bool) :=
 flt
theorem c75 (r:Bool) (h:fn75=some r):Con Tryz.prog 75 [.v (.slice none 0 0)] [] 0 (.v (.bool r)) [] 0:=by
 rw [fn75,flt] at h
 refine Con.of_body Tryz.func75 rfl Tryz.ntmps75 rfl fun w F0 ρ gl=>?_
 refine V0 2 ?_
 refine LPU 9 fun R0 ih0=>?_
 refine V0 4 ?_
 refine CF ?_
 obtain ⟨hk1,h⟩:=ck h
 refine V_ 5 [.ms Et.nils ()] (aC hk1 (aR aN)) ?_
 refine LPU 9 fun R0 ih0=>?_
 refine V0 4 ?_
 refine CF ?_
 refine V0 1 ?_
 refine LPU 9 fun R0 ih0=>?_
 refine V0 4 ?_
 refine CF ?_
 refine V0 1 ?_
 refine LPU 9 fun R0 ih0=>?_
 refine V0 4 ?_
 refine CF ?_
 refine V0 1 ?_
 refine LPU 9 fun R0 ih0=>?_
 refine V0 4 ?_
 refine CF ?_
 refine V0 1 ?_
 obtain rfl:=sj h
 exact T_ tbOk.t Tryz.results75 []
def fn76:Option (Bool) :=
 flt
theorem c76 (r:Bool) (h:fn76=some r):Con Tryz.prog 76 [.v (.slice none 0 0)] [] 0 (.v (.bool r)) [] 0:=by
 rw [fn76,flt] at h
 refine Con.of_body Tryz.func76 rfl Tryz.ntmps76 rfl fun w F0 ρ gl=>?_
 refine V0 2 ?_
 refine LPU 9 fun R0 ih0=>?_
 refine V0 4 ?_
 refine CF ?_
 obtain ⟨hk1,h⟩:=ck h
 refine V_ 5 [.ms Et.nils ()] (aC hk1 (aR aN)) ?_
 refine LPU 9 fun R0 ih0=>?_
 refine V0 4 ?_
 refine CF ?_
 refine V0 1 ?_
 refine LPU 9 fun R0 ih0=>?_
 refine V0 4 ?_
 refine CF ?_
 refine V0 1 ?_
 refine LPU 9 fun R0 ih0=>?_
 refine V0 4 ?_
 refine CF ?_
 refine V0 1 ?_
 refine LPU 9 fun R0 ih0=>?_
 refine V0 4 ?_
 refine CF ?_
 refine V0 1 ?_
 obtain rfl:=sj h
 exact T_ tbOk.t Tryz.results76 []
def fn77:Option (Bool) :=
 flt
theorem c77 (r:Bool) (h:fn77=some r):Con Tryz.prog 77 [.v (.slice none 0 0)] [] 0 (.v (.bool r)) [] 0:=by
 rw [fn77,flt] at h
 refine Con.of_body Tryz.func77 rfl Tryz.ntmps77 rfl fun w F0 ρ gl=>?_
 refine V0 2 ?_
 refine LPU 9 fun R0 ih0=>?_
 refine V0 4 ?_
 refine CF ?_
 obtain ⟨hk1,h⟩:=ck h
 refine V_ 5 [.ms Et.nils ()] (aC hk1 (aR aN)) ?_
 refine LPU 9 fun R0 ih0=>?_
 refine V0 4 ?_
 refine CF ?_
 refine V0 1 ?_
 refine LPU 9 fun R0 ih0=>?_
 refine V0 4 ?_
 refine CF ?_
 refine V0 1 ?_
 refine LPU 9 fun R0 ih0=>?_
 refine V0 4 ?_
 refine CF ?_
 refine V0 1 ?_
 refine LPU 9 fun R0 ih0=>?_
 refine V0 4 ?_
 refine CF ?_
 refine V0 1 ?_
 obtain rfl:=sj h
 exact T_ tbOk.t Tryz.results77 []
def fn78:Option (Bool) :=
 flt
theorem c78 (r:Bool) (h:fn78=some r):Con Tryz.prog 78 [.v (.slice none 0 0)] [] 0 (.v (.bool r)) [] 0:=by
 rw [fn78,flt] at h
 refine Con.of_body Tryz.func78 rfl Tryz.ntmps78 rfl fun w F0 ρ gl=>?_
 refine V0 2 ?_
 refine LPU 9 fun R0 ih0=>?_
 refine V0 4 ?_
 refine CF ?_
 obtain ⟨hk1,h⟩:=ck h
 refine V_ 5 [.ms Et.nils ()] (aC hk1 (aR aN)) ?_
 refine LPU 9 fun R0 ih0=>?_
 refine V0 4 ?_
 refine CF ?_
 refine V0 1 ?_
 refine LPU 9 fun R0 ih0=>?_
 refine V0 4 ?_
 refine CF ?_
 refine V0 1 ?_
 refine LPU 9 fun R0 ih0=>?_
 refine V0 4 ?_
 refine CF ?_
 refine V0 1 ?_
 refine LPU 9 fun R0 ih0=>?_
 refine V0 4 ?_
 refine CF ?_
 refine V0 1 ?_
 obtain rfl:=sj h
 exact T_ tbOk.t Tryz.results78 []
def fn79:Option (Bool) :=
 flt
theorem c79 (r:Bool) (h:fn79=some r):Con Tryz.prog 79 [.v (.slice none 0 0)] [] 0 (.v (.bool r)) [] 0:=by
 rw [fn79,flt] at h
 refine Con.of_body Tryz.func79 rfl Tryz.ntmps79 rfl fun w F0 ρ gl=>?_
 refine V0 2 ?_
 refine LPU 9 fun R0 ih0=>?_
 refine V0 4 ?_
 refine CF ?_
 obtain ⟨hk1,h⟩:=ck h
 refine V_ 5 [.ms Et.nils ()] (aC hk1 (aR aN)) ?_
 refine LPU 9 fun R0 ih0=>?_
 refine V0 4 ?_
 refine CF ?_
 refine V0 1 ?_
 refine LPU 9 fun R0 ih0=>?_
 refine V0 4 ?_
 refine CF ?_
 refine V0 1 ?_
 refine LPU 9 fun R0 ih0=>?_
 refine V0 4 ?_
 refine CF ?_
 refine V0 1 ?_
 refine LPU 9 fun R0 ih0=>?_
 refine V0 4 ?_
 refine CF ?_
 refine V0 1 ?_
 obtain rfl:=sj h
 exact T_ tbOk.t Tryz.results79 []
def fn80:Option (Bool) :=
 flt
theorem c80 (r:Bool) (h:fn80=some r):Con Tryz.prog 80 [.v (.slice none 0 0)] [] 0 (.v (.bool r)) [] 0:=by
 rw [fn80,flt] at h
 refine Con.of_body Tryz.func80 rfl Tryz.ntmps80 rfl fun w F0 ρ gl=>?_
 refine V0 2 ?_
 refine LPU 9 fun R0 ih0=>?_
 refine V0 4 ?_
 refine CF ?_
 obtain ⟨hk1,h⟩:=ck h
 refine V_ 5 [.ms Et.nils ()] (aC hk1 (aR aN)) ?_
 refine LPU 9 fun R0 ih0=>?_
 refine V0 4 ?_
 refine CF ?_
 refine V0 1 ?_
 refine LPU 9 fun R0 ih0=>?_
 refine V0 4 ?_
 refine CF ?_
 refine V0 1 ?_
 refine LPU 9 fun R0 ih0=>?_
 refine V0 4 ?_
 refine CF ?_
 refine V0 1 ?_
 refine LPU 9 fun R0 ih0=>?_
 refine V0 4 ?_
 refine CF ?_
 refine V0 1 ?_
 obtain rfl:=sj h
 exact T_ tbOk.t Tryz.results80 []
def fn81:Option (Bool) :=
 flt
theorem c81 (r:Bool) (h:fn81=some r):Con Tryz.prog 81 [.v (.slice none 0 0)] [] 0 (.v (.bool r)) [] 0:=by
 rw [fn81,flt] at h
 refine Con.of_body Tryz.func81 rfl Tryz.ntmps81 rfl fun w F0 ρ gl=>?_
 refine V0 2 ?_
 refine LPU 9 fun R0 ih0=>?_
 refine V0 4 ?_
 refine CF ?_
 obtain ⟨hk1,h⟩:=ck h
 refine V_ 5 [.ms Et.nils ()] (aC hk1 (aR aN)) ?_
 refine LPU 9 fun R0 ih0=>?_
 refine V0 4 ?_
 refine CF ?_
 refine V0 1 ?_
 refine LPU 9 fun R0 ih0=>?_
 refine V0 4 ?_
 refine CF ?_
 refine V0 1 ?_
 refine LPU 9 fun R0 ih0=>?_
 refine V0 4 ?_
 refine CF ?_
 refine V0 1 ?_
 refine LPU 9 fun R0 ih0=>?_
 refine V0 4 ?_
 refine CF ?_
 refine V0 1 ?_
 obtain rfl:=sj h
 exact T_ tbOk.t Tryz.results81 []
def fn82:Option (Bool) :=
 flt
theorem c82 (r:Bool) (h:fn82=some r):Con Tryz.prog 82 [.v (.slice none 0 0)] [] 0 (.v (.bool r)) [] 0:=by
 rw [fn82,flt] at h
 refine Con.of_body Tryz.func82 rfl Tryz.ntmps82 rfl fun w F0 ρ gl=>?_
 refine V0 2 ?_
 refine LPU 9 fun R0 ih0=>?_
 refine V0 4 ?_
 refine CF ?_
 obtain ⟨hk1,h⟩:=ck h
 refine V_ 5 [.ms Et.nils ()] (aC hk1 (aR aN)) ?_
 refine LPU 9 fun R0 ih0=>?_
 refine V0 4 ?_
 refine CF ?_
 refine V0 1 ?_
 refine LPU 9 fun R0 ih0=>?_
 refine V0 4 ?_
 refine CF ?_
 refine V0 1 ?_
 refine LPU 9 fun R0 ih0=>?_
 refine V0 4 ?_
 refine CF ?_
 refine V0 1 ?_
 refine LPU 9 fun R0 ih0=>?_
 refine V0 4 ?_
 refine CF ?_
 refine V0 1 ?_
 obtain rfl:=sj h
 exact T_ tbOk.t Tryz.results82 []
def fn83:Option (Bool) :=
 flt
theorem c83 (r:Bool) (h:fn83=some r):Con Tryz.prog 83 [.v (.slice none 0 0)] [] 0 (.v (.bool r)) [] 0:=by
 rw [fn83,flt] at h
 refine Con.of_body Tryz.func83 rfl Tryz.ntmps83 rfl fun w F0 ρ gl=>?_
 refine V0 2 ?_
 refine LPU 9 fun R0 ih0=>?_
 refine V0 4 ?_
 refine CF ?_
 obtain ⟨hk1,h⟩:=ck h
 refine V_ 5 [.ms Et.nils ()] (aC hk1 (aR aN)) ?_
 refine LPU 9 fun R0 ih0=>?_
 refine V0 4 ?_
 refine CF ?_
 refine V0 1 ?_
 refine LPU 9 fun R0 ih0=>?_
 refine V0 4 ?_
 refine CF ?_
 refine V0 1 ?_
 refine LPU 9 fun R0 ih0=>?_
 refine V0 4 ?_
 refine CF ?_
 refine V0 1 ?_
 refine LPU 9 fun R0 ih0=>?_
 refine V0 4 ?_
 refine CF ?_
 refine V0 1 ?_
 obtain rfl:=sj h
 exact T_ tbOk.t Tryz.results83 []
end Go.Proofs.YteicbpfkljnemaaGreat.Fl
namespace Go.HW
theorem MS.then {a b d:Blocks} {W W':Nat→Nat→Prop} (h:MS a b W) (h2:MS b d W') (hw:∀x i,W' x i→x∈Go.HW.ids a→W x i):MS a d W :=
 ⟨fun x hx=>h2.ids x (h.ids x hx),fun x i v hc hn=>h2.keep x i v (h.keep x i v hc hn) (fun q=>hn (hw x i q hc.id)),fun x T k hb=>h2.blk x T k (h.blk x T k hb)⟩
end Go.HW
namespace Go.Proofs.YteicbpfkljnemaaGreat
open Go Go.HW Fl
theorem hmixM:Tryz.prog.follows .mixedOrders=true:=by kernel_rfl
section
variable {b0:Blocks} {R A:Nat} {bk:Nat→Option Nat} {nn cc:Nat→Nat} {φ φ':Nat→Option Nat} {bs bs':Blocks} {W:Nat→Nat→Prop}
def hdr (bk:Nat→Option Nat) (nn cc:Nat→Nat) (k:Nat):Value:=.slice ((bk k).map fun b=>⟨b,0,none⟩) (nn k) (cc k)
def mkv (k i:Nat):Value:=.int .u8 (fn55 (k:Int) (i:Int))
structure Fx (b0:Blocks) (R A:Nat) (bk:Nat→Option Nat) (nn cc:Nat→Nat) (φ:Nat→Option Nat) (bs:Blocks):Prop where
 a:φ A=some (R+1)
 hd:∀k,k < R→Cell bs A k (hdr bk nn cc k)
 bl:∀k,k < R→∀b,bk k=some b→φ b=some k∧HasB bs b 5 (cc k)∧nn k≤cc k
 no:∀k,k < R→bk k=none→nn k=0∧cc k=0
 sm:R≤1000000∧∀k,k < R→nn k≤1000000
 z:MS b0 bs (fun b _=>∃k,k < R∧bk k=some b)∧∀b∈ids b0,(∃k,k < R∧bk k=some b)∨φ b=some (R+1)
theorem Fx.step (h:Fx b0 R A bk nn cc φ bs) (ms:MS bs bs' W) (hw:∀b i,W b i→φ b≠some (R+1)):Fx b0 R A bk nn cc φ bs' :=
 ⟨h.a,fun k hk=>ms.keep _ _ _ (h.hd k hk) fun q=>hw _ _ q h.a,fun k hk b hb=>⟨(h.bl k hk b hb).1,ms.blk _ _ _ (h.bl k hk b hb).2.1,(h.bl k hk b hb).2.2⟩,h.no,h.sm,h.z.1.then ms (fun b i q hb=>(h.z.2 b hb).resolve_right (hw b i q)),h.z.2⟩
theorem Fx.phi (h:Fx b0 R A bk nn cc φ bs) (hR:0 < R) (hp:∀b∈ids bs,φ' b=φ b):Fx b0 R A bk nn cc φ' bs :=
 ⟨by rw [hp _ (h.hd 0 hR).id];exact h.a,h.hd,fun k hk b hb=>⟨by rw [hp _ (h.bl k hk b hb).2.1.id];exact (h.bl k hk b hb).1,(h.bl k hk b hb).2⟩,h.no,h.sm,h.z.1,fun b hb=>by rw [hp _ (h.z.1.ids b hb)];exact h.z.2 b hb⟩
def Row (bk:Nat→Option Nat) (bs:Blocks) (k m:Nat):Prop:=∀b,bk k=some b→∀i,i < m→Cell bs b i (mkv k i)
theorem Row.step {k m:Nat} (h:Row bk bs k m) (ms:MS bs bs' W) (hw:∀b i,bk k=some b→W b i→m≤i):Row bk bs' k m:=fun b hb i hi=>ms.keep _ _ _ (h b hb i hi) fun q=>by have:=hw b i hb q;omega
structure Gx (R:Nat) (nn:Nat→Nat) (φ:Nat→Option Nat) (bs:Blocks) (G k:Nat) (m:Nat→Nat):Prop where
 g:φ G=some (R+2)
 hb:HasB bs G 36 R
 rw_:∀j,j < k→∃b c,Cell bs G j (.slice (some ⟨b,0,none⟩) (nn j+64) c)∧φ b=some j∧b∈ids bs∧∀i,i < m j→Cell bs b i (mkv j i)
theorem Gx.step {G k:Nat} {m:Nat→Nat} (h:Gx R nn φ bs G k m) (ms:MS bs bs' W) (hw:∀b i,W b i→φ b≠some (R+2)∧∀j,j < k→φ b=some j→m j≤i):Gx R nn φ bs' G k m :=
 ⟨h.g,ms.blk _ _ _ h.hb,fun j hj=>by
  obtain ⟨b,c,h1,h2,h3,h4⟩:=h.rw_ j hj
  exact ⟨b,c,ms.keep _ _ _ h1 fun q=>(hw _ _ q).1 h.g,h2,ms.ids _ h3,fun i hi=>ms.keep _ _ _ (h4 i hi) fun q=>by have:=(hw _ _ q).2 j hj h2;omega⟩⟩
theorem Gx.phi {G k:Nat} {m:Nat→Nat} (h:Gx R nn φ bs G k m) (hp:∀b∈ids bs,φ' b=φ b):Gx R nn φ' bs G k m :=
 ⟨by rw [hp _ h.hb.id];exact h.g,h.hb,fun j hj=>by
  obtain ⟨b,c,h1,h2,h3,h4⟩:=h.rw_ j hj
  exact ⟨b,c,h1,by rw [hp _ h3];exact h2,h3,h4⟩⟩
theorem Gx.less {G k:Nat} {m m':Nat→Nat} (h:Gx R nn φ bs G k m) (hm:∀j,m' j≤m j):Gx R nn φ bs G k m' :=
 ⟨h.g,h.hb,fun j hj=>by
  obtain ⟨b,c,h1,h2,h3,h4⟩:=h.rw_ j hj
  exact ⟨b,c,h1,h2,h3,fun i hi=>h4 i (by have:=hm j;omega)⟩⟩
theorem Gx.put {G k b c:Nat} {m:Nat→Nat} {n:Nat} (h:Gx R nn φ bs G n m) (hkn:k≤n) (ms:MS bs bs' (fun b' i'=>b'=G∧i'=k)) (hc:Cell bs' G k (.slice (some ⟨b,0,none⟩) (nn k+64) c)) (hb:φ b=some k) (hbi:b∈ids bs) (hm:∀i,i < m k→Cell bs b i (mkv k i)) (hbG:b≠G) (n':Nat) (hn':n'=max n (k+1)) (hR:n'≤R):Gx R nn φ bs' G n' m:=by
 refine ⟨h.g,ms.blk _ _ _ h.hb,fun j hj=>?_⟩
 by_cases e:j=k
 ·subst e
  exact ⟨b,c,hc,hb,ms.ids _ hbi,fun i hi=>ms.keep _ _ _ (hm i hi) fun q=>hbG q.1⟩
 obtain ⟨b2,c2,h1,h2,h3,h4⟩:=h.rw_ j (by omega)
 refine ⟨b2,c2,ms.keep _ _ _ h1 fun q=>e q.2,h2,ms.ids _ h3,fun i hi=>ms.keep _ _ _ (h4 i hi) fun q=>?_⟩
 have:φ G=some j:=by rw [← q.1];exact h2
 rw [h.g] at this
 have:=Option.some.inj this
 omega
theorem wI {n:Nat} (h:n≤100000000):IntKind.i64.wrap ((n:Int)+1)=((n+1:Nat):Int):=by rw [IntKind.wrap_i64];omega
theorem wA {a b:Nat} (h:a+b≤100000000):IntKind.i64.wrap ((a:Int)+(b:Int))=((a+b:Nat):Int):=by rw [IntKind.wrap_i64];omega
end
theorem c55r (a b:Nat) (w:World):Ret Tryz.prog 55 [.int .i64 (a:Int),.int .i64 (b:Int)] w Hp.nil fun v R=>v=mkv a b∧R=Hp.nil :=
 Con.ret0 (c55 (a:Int) (b:Int) _ rfl) (dens_v [_,_]) (fun _ _=>trivial)
end Go.Proofs.YteicbpfkljnemaaGreat
namespace Go.Proofs.YteicbpfkljnemaaGreat
open Go Go.HW Fl
set_option maxRecDepth 40000
set_option maxHeartbeats 4000000
theorem c65m {b0:Blocks} {R A cA:Nat} {bk:Nat→Option Nat} {nn cc:Nat→Nat} {φ:Nat→Option Nat} {bs:Blocks} {w:World} (hR:0 < R) (hx:Fx b0 R A bk nn cc φ bs) (hnd:(bs.map (·.1)).Nodup) (hh:∀p∈bs,w.heap[p.1]?=some p.2) :
  Ret Tryz.prog 65 [.slice (some ⟨A,0,none⟩) R cA] w ⟨bs,[]⟩ (fun v Q=>∃bs',Q=⟨bs',[]⟩∧v=.bool true∧MS b0 bs' (fun b _=>∃k,k < R∧bk k=some b)):=by
 have hRs:=hx.sm.1
 have hns:=hx.sm.2
 refine Ret.of_body Tryz.func65 rfl Tryz.ntmps65 rfl (fun p hp=>hh p (by rw [mall] at hp;exact hp)) (by rw [mall];exact hnd) ?_
 refine TC.seq (TC.region ?_)
 refine AS ?_
 refine NT ?_
 refine TC.cut (fun L H=>∃bs,L=[(0,.slice (some ⟨A,0,none⟩) R cA)]∧H=⟨bs,[]⟩∧Fx b0 R A bk nn cc φ bs∧(∀j,j < R→Row bk bs j (nn j))) ?_ (fun L H hm=>?_)
 ·refine TC.seq (TC.region ?_)
  refine AS ?_
  refine NT ?_
  refine TC.block ?_
  refine TC.keep (L':=[(3,.int .i64 ((0:Nat):Int)),(0,.slice (some ⟨A,0,none⟩) R cA)]) ⟨rfl,rfl,trivial⟩ ?_
  refine TC.loopN (fun k L H=>∃bs,L=[(3,.int .i64 (k:Int)),(0,.slice (some ⟨A,0,none⟩) R cA)]∧H=⟨bs,[]⟩∧Fx b0 R A bk nn cc φ bs∧∀j,j < k→Row bk bs j (nn j)) R (fun K1 k L H hs hle1 hn1=>?_) ?_
  ·obtain ⟨bs,rfl,rfl,hx,hrow⟩:=hs
   refine TC.seq ?_
   refine TC.seq (TC.region ?_)
   refine MV ?_
   refine MV ?_
   refine TO.u rfl rfl (TX.lenM Tryz.runUnderlying44 rfl rfl ?_)
   refine IB ?_
   refine NT ?_
   refine TC.cond rfl (fun hb=>?_) (fun hb=>?_)
   ·have hk:k < R:=by have:=of_decide_eq_true hb;omega
    refine TC.skip ?_
    refine TE.thenN rfl rfl ?_
    refine TC.seq ?_
    refine TC.block ?_
    refine TC.seq (TC.region ?_)
    refine AS ?_
    refine NT ?_
    refine TC.block ?_
    refine TC.keep (L':=[(4,.int .i64 ((0:Nat):Int)),(3,.int .i64 (k:Int)),(0,.slice (some ⟨A,0,none⟩) R cA)]) ⟨rfl,rfl,rfl,trivial⟩ ?_
    refine TC.loopN (fun i L H=>∃bs,L=[(4,.int .i64 (i:Int)),(3,.int .i64 (k:Int)),(0,.slice (some ⟨A,0,none⟩) R cA)]∧H=⟨bs,[]⟩∧Fx b0 R A bk nn cc φ bs∧(∀j,j < k→Row bk bs j (nn j))∧Row bk bs k i) (nn k) (fun K2 i L H hs hle2 hn2=>?_) ?_
    ·obtain ⟨bs,rfl,rfl,hx,hrow,hrk⟩:=hs
     refine TC.seq ?_
     refine TC.seq (TC.region ?_)
     refine MV ?_
     refine MV ?_
     refine MV ?_
     refine TO.u rfl rfl (TX.ixN Tryz.runUnderlying44 Tryz.sizeOf36 rfl rfl hk rfl ?_)
     refine TO.u rfl rfl (TX.ldM Tryz.isAgg36 rfl (hx.hd k hk) rfl ?_)
     refine TO.u rfl rfl (TX.lenM Tryz.runUnderlying36 rfl rfl ?_)
     refine IB ?_
     refine NT ?_
     refine TC.cond rfl (fun hb=>?_) (fun hb=>?_)
     ·have hi:i < (nn k):=by have:=of_decide_eq_true hb;omega
      refine TC.skip ?_
      refine TE.thenN rfl rfl ?_
      refine TC.seq ?_
      refine TC.block ?_
      obtain ⟨b,hbk⟩:∃b,bk k=some b:=by
       cases hc:bk k with
       | none=>have:=(hx.no k hk hc).1;omega
       | some b=>exact ⟨b,rfl⟩
      have hd:Cell bs A k (.slice (some ⟨b,0,none⟩) (nn k) (cc k)):=by have:=hx.hd k hk;rw [hdr,hbk] at this;exact this
      obtain ⟨hφ,hB,hnc⟩:=hx.bl k hk b hbk
      have hnk:=hns k hk
      refine TC.keep (L':=[(4,.int .i64 (i:Int)),(3,.int .i64 (k:Int)),(0,.slice (some ⟨A,0,none⟩) R cA)]) ⟨rfl,rfl,rfl,trivial⟩ ?_
      refine TC.draw hmixM 9 [.slice (some ⟨A,0,none⟩) R cA,.int .i64 (k:Int),.pointer (some ⟨A,k,none⟩),.slice (some ⟨b,0,none⟩) (nn k) (cc k),.int .i64 (i:Int),.int .i64 (k:Int),.int .i64 (i:Int),mkv k i,.pointer (some ⟨b,i,none⟩)] [(39,.pointer (some ⟨b,i,none⟩)),(38,mkv k i)] rfl rfl rfl rfl ?_ (.cons 8 rfl rfl rfl (.cons 7 rfl rfl rfl .nil)) ?_
      ·refine QAll.u [(0,.slice (some ⟨A,0,none⟩) R cA)] (.old rfl .nil) rfl rfl (QV.move rfl).s rfl ?_
       refine QAll.u [(3,.int .i64 (k:Int))] (.old rfl .nil) rfl rfl (QV.move rfl).s rfl ?_
       refine QAll.u [(31,.slice (some ⟨A,0,none⟩) R cA),(32,.int .i64 (k:Int))] (.dat 0 rfl rfl rfl (.dat 1 rfl rfl rfl .nil)) rfl rfl (QV.ixN Tryz.runUnderlying44 Tryz.sizeOf36 rfl rfl hk).s rfl ?_
       refine QAll.u [(33,.pointer (some ⟨A,k,none⟩))] (.dat 2 rfl rfl rfl .nil) rfl rfl (QV.ldM Tryz.isAgg36 rfl hd).s rfl ?_
       refine QAll.u [(4,.int .i64 (i:Int))] (.old rfl .nil) rfl rfl (QV.move rfl).s rfl ?_
       refine QAll.u [(3,.int .i64 (k:Int))] (.old rfl .nil) rfl rfl (QV.move rfl).s rfl ?_
       refine QAll.u [(4,.int .i64 (i:Int))] (.old rfl .nil) rfl rfl (QV.move rfl).s rfl ?_
       refine QAll.u [(36,.int .i64 (k:Int)),(37,.int .i64 (i:Int))] (.dat 5 rfl rfl rfl (.dat 6 rfl rfl rfl .nil)) rfl rfl (QS.callP Tryz.call55 rfl (fun a w s=>c55r k i w)) rfl ?_
       refine QAll.u [(34,.slice (some ⟨b,0,none⟩) (nn k) (cc k)),(35,.int .i64 (i:Int))] (.dat 3 rfl rfl rfl (.dat 4 rfl rfl rfl .nil)) rfl rfl (QV.ixN Tryz.runUnderlying36 Tryz.sizeOf5 rfl rfl hi).s rfl ?_
       exact QAll.nil
      refine TO.u rfl rfl (TX.stM Tryz.sizeOf5 rfl rfl rfl rfl hB (by omega) (fun bs1 ms c1=>?_))
      refine TO.nil ?_
      refine TE.blockN ?_
      refine TE.thenN rfl rfl ?_
      refine TC.region ?_
      refine MV ?_
      refine IB ?_
      refine AS ?_
      refine TO.nil ?_
      rw [wI (by omega)]
      refine TE.keep (L':=[(4,.int .i64 ((i+1:Nat):Int)),(3,.int .i64 (k:Int)),(0,.slice (some ⟨A,0,none⟩) R cA)]) ⟨rfl,rfl,rfl,trivial⟩ ?_
      refine hn2 _ _ hi ⟨bs1,rfl,rfl,hx.step ms (fun b' i' q=>by rw [q.1,hφ];intro e;have:=Option.some.inj e;omega),fun j hj=>(hrow j hj).step ms (fun b' i' hb' q=>by have h1:=(hx.bl j (by omega) b' hb').1;rw [q.1,hφ] at h1;have:=Option.some.inj h1;omega),fun b' hb' i' hi'=>by
        rw [hbk] at hb';cases hb'
        rcases Nat.lt_or_ge i' i with h1 | h1
        ·exact ms.keep _ _ _ (hrk b hbk i' h1) (fun q=>by omega)
        obtain rfl:i'=i:=by omega
        exact c1⟩
     have hi:(nn k)≤i:=by have:=of_decide_eq_false hb;omega
     refine TC.exit ?_
     refine TE.thenX ?_
     refine TE.loopX ?_
     refine TE.blockH ?_
     refine TE.blockN ?_
     refine TE.thenN rfl rfl ?_
     refine TC.region ?_
     refine MV ?_
     refine IB ?_
     refine AS ?_
     refine TO.nil ?_
     rw [wI (by omega)]
     refine TE.keep (L':=[(3,.int .i64 ((k+1:Nat):Int)),(0,.slice (some ⟨A,0,none⟩) R cA)]) ⟨rfl,rfl,trivial⟩ ?_
     refine hn1 _ _ hk ⟨bs,rfl,rfl,hx,fun j hj=>?_⟩
     rcases Nat.lt_or_ge j k with h1 | h1
     ·exact hrow j h1
     obtain rfl:j=k:=by omega
     exact fun b hb i' hi'=>hrk b hb i' (by omega)
    exact ⟨bs,rfl,rfl,hx,hrow,fun b hb i hi=>absurd hi (by omega)⟩
   have hk:R≤k:=by have:=of_decide_eq_false hb;omega
   refine TC.exit ?_
   refine TE.thenX ?_
   refine TE.loopX ?_
   refine TE.blockH ?_
   refine TE.keep (L':=[(0,.slice (some ⟨A,0,none⟩) R cA)]) ⟨rfl,trivial⟩ ?_
   exact TE.mid ⟨bs,rfl,rfl,hx,fun j hj=>hrow j (by omega)⟩
  exact ⟨bs,rfl,rfl,hx,fun j hj=>absurd hj (by omega)⟩
 obtain ⟨bs,rfl,rfl,hx,hrow⟩:=hm
 refine TC.seq (TC.region ?_)
 refine MV ?_
 refine TO.u rfl rfl (TX.lenM Tryz.runUnderlying44 rfl rfl ?_)
 refine TO.u rfl rfl (TX.mkM (by':=24) Tryz.runUnderlying44 Tryz.typeInfo36 rfl rfl rfl rfl rfl rfl ⟨by omega,by omega⟩ rfl (fun G bsg hG ms0 hBG hz=>?_))
 refine AS ?_
 refine NT ?_
 have hGx:∃φ,Fx b0 R A bk nn cc φ bsg∧Gx R nn φ bsg G 0 (fun j=>nn j+64):=by
  refine ⟨fun x=>if x=G then some (R+2) else φ x,(hx.phi hR (fun b hb=>if_neg (fun (e:b=G)=>hG (by rw [← e];exact hb)))).step ms0 (fun _ _ q=>q.elim),if_pos rfl,hBG,fun j hj=>absurd hj (by omega)⟩
 replace hrow:∀j,j < R→Row bk bsg j (nn j):=fun j hj=>(hrow j hj).step ms0 (fun _ _ _ q=>q.elim)
 clear hx hz hBG ms0
 obtain ⟨φ,hx,hg⟩:=hGx
 refine TC.cut (fun L H=>∃bs φ,L=[(5,.slice (some ⟨G,0,none⟩) R R),(0,.slice (some ⟨A,0,none⟩) R cA)]∧H=⟨bs,[]⟩∧Fx b0 R A bk nn cc φ bs∧(∀j,j < R→Row bk bs j (nn j))∧Gx R nn φ bs G R (fun j=>nn j+64)) ?_ (fun L H hm=>?_)
 ·refine TC.seq (TC.region ?_)
  refine AS ?_
  refine NT ?_
  refine TC.block ?_
  refine TC.keep (L':=[(6,.int .i64 ((0:Nat):Int)),(5,.slice (some ⟨G,0,none⟩) R R),(0,.slice (some ⟨A,0,none⟩) R cA)]) ⟨rfl,rfl,rfl,trivial⟩ ?_
  refine TC.loopN (fun k L H=>∃bs φ,L=[(6,.int .i64 (k:Int)),(5,.slice (some ⟨G,0,none⟩) R R),(0,.slice (some ⟨A,0,none⟩) R cA)]∧H=⟨bs,[]⟩∧Fx b0 R A bk nn cc φ bs∧(∀j,j < R→Row bk bs j (nn j))∧Gx R nn φ bs G k (fun j=>nn j+64)) R (fun K1 k L H hs hle1 hn1=>?_) ?_
  ·obtain ⟨bs,φ,rfl,rfl,hx,hrow,hg⟩:=hs
   refine TC.seq ?_
   refine TC.seq (TC.region ?_)
   refine MV ?_
   refine MV ?_
   refine TO.u rfl rfl (TX.lenM Tryz.runUnderlying44 rfl rfl ?_)
   refine IB ?_
   refine NT ?_
   refine TC.cond rfl (fun hb=>?_) (fun hb=>?_)
   ·have hk:k < R:=by have:=of_decide_eq_true hb;omega
    refine TC.skip ?_
    refine TE.thenN rfl rfl ?_
    refine TC.seq ?_
    refine TC.block ?_
    refine TC.seq (TC.region ?_)
    refine MV ?_
    refine MV ?_
    refine TO.u rfl rfl (TX.ixN Tryz.runUnderlying44 Tryz.sizeOf36 rfl rfl hk rfl ?_)
    refine TO.u rfl rfl (TX.ldM Tryz.isAgg36 rfl (hx.hd k hk) rfl ?_)
    refine AS ?_
    refine NT ?_
    have hnk:=hns k hk
    refine TC.cut (fun L H=>∃bs φ src cap,L=[(7,.slice (src.map fun b=>⟨b,0,none⟩) (nn k+64) cap),(6,.int .i64 (k:Int)),(5,.slice (some ⟨G,0,none⟩) R R),(0,.slice (some ⟨A,0,none⟩) R cA)]∧H=⟨bs,[]⟩∧Fx b0 R A bk nn cc φ bs∧(∀j,j < R→Row bk bs j (nn j))∧Gx R nn φ bs G k (fun j=>nn j+64)∧(∀b,src=some b→HasB bs b 5 cap∧nn k+64≤cap∧φ b=some k∧b∈ids bs∧∀i',i' < nn k+64→Cell bs b i' (mkv k i'))∧(src=none→nn k+64=0∧cap=0)) ?_ (fun L H hm=>?_)
    ·refine TC.seq (TC.region ?_)
     refine AS ?_
     refine NT ?_
     refine TC.block ?_
     refine TC.keep (L':=[(8,.int .i64 ((0:Nat):Int)),(7,hdr bk nn cc k),(6,.int .i64 (k:Int)),(5,.slice (some ⟨G,0,none⟩) R R),(0,.slice (some ⟨A,0,none⟩) R cA)]) ⟨rfl,rfl,rfl,rfl,rfl,trivial⟩ ?_
     refine TC.loopN (fun i L H=>∃bs φ src cap,L=[(8,.int .i64 (i:Int)),(7,.slice (src.map fun b=>⟨b,0,none⟩) (nn k+i) cap),(6,.int .i64 (k:Int)),(5,.slice (some ⟨G,0,none⟩) R R),(0,.slice (some ⟨A,0,none⟩) R cA)]∧H=⟨bs,[]⟩∧Fx b0 R A bk nn cc φ bs∧(∀j,j < R→Row bk bs j (nn j))∧Gx R nn φ bs G k (fun j=>nn j+64)∧(∀b,src=some b→HasB bs b 5 cap∧nn k+i≤cap∧φ b=some k∧b∈ids bs∧∀i',i' < nn k+i→Cell bs b i' (mkv k i'))∧(src=none→nn k+i=0∧cap=0)) 64 (fun K2 i L H hs hle2 hn2=>?_) ?_
     ·obtain ⟨bs,φ,src,cap,rfl,rfl,hx,hrow,hg,hs1,hs2⟩:=hs
      refine TC.seq ?_
      refine TC.seq (TC.region ?_)
      refine MV ?_
      refine IB ?_
      refine NT ?_
      refine TC.cond rfl (fun hb=>?_) (fun hb=>?_)
      ·have hi:i < 64:=by have:=of_decide_eq_true hb;omega
       refine TC.skip ?_
       refine TE.thenN rfl rfl ?_
       refine TC.seq ?_
       refine TC.block ?_
       refine TC.region ?_
       refine MV ?_
       refine MV ?_
       refine MV ?_
       refine MV ?_
       refine TO.u rfl rfl (TX.ixN Tryz.runUnderlying44 Tryz.sizeOf36 rfl rfl hk rfl ?_)
       refine TO.u rfl rfl (TX.ldM Tryz.isAgg36 rfl (hx.hd k hk) rfl ?_)
       refine TO.u rfl rfl (TX.lenM Tryz.runUnderlying36 rfl rfl ?_)
       refine MV ?_
       refine IB ?_
       rw [wA (by omega)]
       refine TO.u rfl rfl (TX.callP Tryz.call55 rfl (fun a w s=>c55r k (nn k+i) w) rfl ?_)
       refine TO.u rfl rfl (TX.bsM Tryz.runUnderlying36 Tryz.sizeOf5 Tryz.zeroValue5 rfl (N:=En.int .u8) (fn55 (k:Int) ((nn k+i:Nat):Int)) rfl rfl rfl (fun zl hzl=>by match zl,hzl with | [z],_=>rfl) rfl (fun q bq hq msq cq=>?_))
       refine TO.u rfl rfl (TX.apM (src:=src) (by':=1) Tryz.runUnderlying36 Tryz.typeInfo5 rfl rfl rfl rfl rfl rfl (fun b hb=>⟨msq.blk _ _ _ (hs1 b hb).1,(hs1 b hb).2.1⟩) hs2 (fun _=>mkv k (nn k+i)) (fun j hj=>by (have h0:j=0:=by omega);subst h0;exact cq) (fun j hj=>rfl) (by omega) (by omega) (by omega) rfl (fun b' cap' bs' hb' ms hB' hcap hold hnew=>?_))
       refine AS ?_
       refine TO.nil ?_
       refine TE.blockN ?_
       refine TE.thenN rfl rfl ?_
       refine TC.region ?_
       refine MV ?_
       refine IB ?_
       refine AS ?_
       refine TO.nil ?_
       rw [wI (by omega)]
       refine TE.keep (L':=[(8,.int .i64 ((i+1:Nat):Int)),(7,(.slice ((some b').map fun b=>⟨b,0,none⟩) (nn k+(i+1)) cap')),(6,.int .i64 (k:Int)),(5,.slice (some ⟨G,0,none⟩) R R),(0,.slice (some ⟨A,0,none⟩) R cA)]) ⟨rfl,rfl,rfl,rfl,rfl,trivial⟩ ?_
       have hφq:∀x∈ids bq,(if x=b' then some k else φ x)=φ x:=fun x hx'=>by
        by_cases e:x=b'
        ·rw [if_pos e,e]
         rcases hb' with ⟨h1,_⟩ | h1
         ·exact (hs1 b' h1).2.2.1.symm
         exact absurd (e▸hx') h1
        rw [if_neg e]
       have hW:∀b i',(src=some b∧nn k+i≤i')→(if b=b' then some k else φ b)=some k:=fun b i' q=>by
        rw [hφq b (msq.ids _ (hs1 b q.1).2.2.2.1)];exact (hs1 b q.1).2.2.1
       refine hn2 _ _ hi ⟨bs',fun x=>if x=b' then some k else φ x,some b',cap',rfl,rfl,((hx.step msq (fun _ _ q=>q.elim)).phi hR hφq).step ms (fun b i' q=>?_),fun j hj=>((hrow j hj).step msq (fun _ _ _ q=>q.elim)).step ms (fun b i' hb q=>?_),((hg.step msq (fun _ _ q=>q.elim)).phi hφq).step ms (fun b i' q=>⟨?_,fun j hj e=>?_⟩),fun b hb=>?_,fun h=>by cases h⟩
       ·rw [hW b i' q];intro e;have:=Option.some.inj e;omega
       ·have h1:=(hx.bl j hj b hb).1
        rw [(hs1 b q.1).2.2.1] at h1
        obtain rfl:k=j:=Option.some.inj h1
        omega
       ·rw [hW b i' q];intro e;have:=Option.some.inj e;omega
       ·rw [hW b i' q] at e;have:=Option.some.inj e;omega
       obtain rfl:b'=b:=Option.some.inj hb
       refine ⟨hB',by omega,if_pos rfl,hB'.id,fun i' hi'=>?_⟩
       rcases Nat.lt_or_ge i' (nn k+i) with h1 | h1
       ·cases hsrc:src with
        | none=>have:=(hs2 hsrc).1;omega
        | some b=>exact hold b hsrc i' _ h1 (msq.keep _ _ _ ((hs1 b hsrc).2.2.2.2 i' h1) (fun q=>q))
       obtain rfl:i'=nn k+i:=by omega
       exact hnew 0 (by omega)
      have hi:64≤i:=by have:=of_decide_eq_false hb;omega
      obtain rfl:i=64:=by omega
      refine TC.exit ?_
      refine TE.thenX ?_
      refine TE.loopX ?_
      refine TE.blockH ?_
      refine TE.keep (L':=[(7,.slice (src.map fun b=>⟨b,0,none⟩) (nn k+64) cap),(6,.int .i64 (k:Int)),(5,.slice (some ⟨G,0,none⟩) R R),(0,.slice (some ⟨A,0,none⟩) R cA)]) ⟨rfl,rfl,rfl,rfl,trivial⟩ ?_
      exact TE.mid ⟨bs,φ,src,cap,rfl,rfl,hx,hrow,hg,hs1,hs2⟩
     refine ⟨bs,φ,bk k,cc k,rfl,rfl,hx,hrow,hg,fun b hb=>?_,fun h=>?_⟩
     ·obtain ⟨h1,h2,h3⟩:=hx.bl k hk b hb
      exact ⟨h2,h3,h1,h2.id,fun i' hi'=>hrow k hk b hb i' hi'⟩
     exact hx.no k hk h
    obtain ⟨bs,φ,src,cap,rfl,rfl,hx,hrow,hg,hs1,hs2⟩:=hm
    obtain ⟨b,rfl⟩:∃b,src=some b:=by
     cases hc:src with
     | none=>have:=(hs2 hc).1;omega
     | some b=>exact ⟨b,rfl⟩
    obtain ⟨h1,h2,h3,h4,h5⟩:=hs1 b rfl
    refine TC.region ?_
    refine MV ?_
    refine MV ?_
    refine MV ?_
    refine TO.u rfl rfl (TX.ixN Tryz.runUnderlying44 Tryz.sizeOf36 rfl rfl hk rfl ?_)
    refine TO.u rfl rfl (TX.stM (v:=.slice (some ⟨b,0,none⟩) (nn k+64) cap) Tryz.sizeOf36 rfl rfl rfl rfl hg.hb (by omega) (fun bs1 ms c1=>?_))
    refine TO.nil ?_
    refine TE.blockN ?_
    refine TE.thenN rfl rfl ?_
    refine TC.region ?_
    refine MV ?_
    refine IB ?_
    refine AS ?_
    refine TO.nil ?_
    rw [wI (by omega)]
    refine TE.keep (L':=[(6,.int .i64 ((k+1:Nat):Int)),(5,.slice (some ⟨G,0,none⟩) R R),(0,.slice (some ⟨A,0,none⟩) R cA)]) ⟨rfl,rfl,rfl,trivial⟩ ?_
    have hbG:b≠G:=fun e=>by rw [e,hg.g] at h3;have:=Option.some.inj h3;omega
    refine hn1 _ _ hk ⟨bs1,φ,rfl,rfl,hx.step ms (fun b' i' q=>by rw [q.1,hg.g];intro e;have:=Option.some.inj e;omega),fun j hj=>(hrow j hj).step ms (fun b' i' hb' q=>by have h1:=(hx.bl j hj b' hb').1;rw [q.1,hg.g] at h1;have:=Option.some.inj h1;omega),hg.put (Nat.le_refl k) ms c1 h3 h4 (fun i' hi'=>h5 i' hi') hbG _ (by omega) (by omega)⟩
   have hk:R≤k:=by have:=of_decide_eq_false hb;omega
   refine TC.exit ?_
   refine TE.thenX ?_
   refine TE.loopX ?_
   refine TE.blockH ?_
   refine TE.keep (L':=[(5,.slice (some ⟨G,0,none⟩) R R),(0,.slice (some ⟨A,0,none⟩) R cA)]) ⟨rfl,rfl,trivial⟩ ?_
   obtain rfl:k=R:=by omega
   exact TE.mid ⟨bs,φ,rfl,rfl,hx,hrow,hg⟩
  exact ⟨bsg,φ,rfl,rfl,hx,hrow,hg⟩
 obtain ⟨bs,φ,rfl,rfl,hx,hrow,hg⟩:=hm
 refine TC.cut (fun L H=>L=[(5,.slice (some ⟨G,0,none⟩) R R),(0,.slice (some ⟨A,0,none⟩) R cA)]∧H=⟨bs,[]⟩) ?_ (fun L H hm=>?_)
 ·refine TC.seq (TC.region ?_)
  refine AS ?_
  refine NT ?_
  refine TC.block ?_
  refine TC.keep (L':=[(9,.int .i64 ((0:Nat):Int)),(5,.slice (some ⟨G,0,none⟩) R R),(0,.slice (some ⟨A,0,none⟩) R cA)]) ⟨rfl,rfl,rfl,trivial⟩ ?_
  refine TC.loopN (fun k L H=>L=[(9,.int .i64 (k:Int)),(5,.slice (some ⟨G,0,none⟩) R R),(0,.slice (some ⟨A,0,none⟩) R cA)]∧H=⟨bs,[]⟩) R (fun K1 k L H hs hle1 hn1=>?_) ⟨rfl,rfl⟩
  obtain ⟨rfl,rfl⟩:=hs
  refine TC.seq ?_
  refine TC.seq (TC.region ?_)
  refine MV ?_
  refine MV ?_
  refine TO.u rfl rfl (TX.lenM Tryz.runUnderlying44 rfl rfl ?_)
  refine IB ?_
  refine NT ?_
  refine TC.cond rfl (fun hb=>?_) (fun hb=>?_)
  ·have hk:k < R:=by have:=of_decide_eq_true hb;omega
   refine TC.skip ?_
   refine TE.thenN rfl rfl ?_
   refine TC.seq ?_
   refine TC.block ?_
   obtain ⟨b',c',hG,hφ',hid',hmk⟩:=hg.rw_ k hk
   have hnk:=hns k hk
   refine TC.seq (TC.region ?_)
   refine AS ?_
   refine NT ?_
   refine TC.block ?_
   refine TC.keep (L':=[(10,.int .i64 ((0:Nat):Int)),(9,.int .i64 (k:Int)),(5,.slice (some ⟨G,0,none⟩) R R),(0,.slice (some ⟨A,0,none⟩) R cA)]) ⟨rfl,rfl,rfl,rfl,trivial⟩ ?_
   refine TC.loopN (fun i L H=>L=[(10,.int .i64 (i:Int)),(9,.int .i64 (k:Int)),(5,.slice (some ⟨G,0,none⟩) R R),(0,.slice (some ⟨A,0,none⟩) R cA)]∧H=⟨bs,[]⟩) (nn k+64) (fun K2 i L H hs hle2 hn2=>?_) ⟨rfl,rfl⟩
   obtain ⟨rfl,rfl⟩:=hs
   refine TC.seq ?_
   refine TC.seq (TC.region ?_)
   refine MV ?_
   refine MV ?_
   refine MV ?_
   refine TO.u rfl rfl (TX.ixN Tryz.runUnderlying44 Tryz.sizeOf36 rfl rfl hk rfl ?_)
   refine TO.u rfl rfl (TX.ldM Tryz.isAgg36 rfl hG rfl ?_)
   refine TO.u rfl rfl (TX.lenM Tryz.runUnderlying36 rfl rfl ?_)
   refine IB ?_
   refine NT ?_
   refine TC.cond rfl (fun hb=>?_) (fun hb=>?_)
   ·have hi:i < nn k+64:=by have:=of_decide_eq_true hb;omega
    refine TC.skip ?_
    refine TE.thenN rfl rfl ?_
    refine TC.seq ?_
    refine TC.block ?_
    refine TC.seq ?_
    refine TC.keep (L':=[(10,.int .i64 (i:Int)),(9,.int .i64 (k:Int)),(5,.slice (some ⟨G,0,none⟩) R R),(0,.slice (some ⟨A,0,none⟩) R cA)]) ⟨rfl,rfl,rfl,rfl,trivial⟩ ?_
    by_cases hi2:i < nn k
    ·obtain ⟨b,hbk⟩:∃b,bk k=some b:=by
      cases hc:bk k with
      | none=>have:=(hx.no k hk hc).1;omega
      | some b=>exact ⟨b,rfl⟩
     have hd:Cell bs A k (.slice (some ⟨b,0,none⟩) (nn k) (cc k)):=by have:=hx.hd k hk;rw [hdr,hbk] at this;exact this
     refine TC.draw hmixM 35 [.slice (some ⟨G,0,none⟩) R R,.int .i64 (k:Int),.pointer (some ⟨G,k,none⟩),(.slice (some ⟨b',0,none⟩) (nn k+64) c'),.int .i64 (i:Int),.pointer (some ⟨b',i,none⟩),mkv k i,.int .i64 (k:Int),.int .i64 (i:Int),mkv k i,.bool true,.bool false,.bool false,.int .i64 (i:Int),.slice (some ⟨A,0,none⟩) R cA,.int .i64 (k:Int),.pointer (some ⟨A,k,none⟩),.slice (some ⟨b,0,none⟩) (nn k) (cc k),.int .i64 (nn k:Int),.bool true,.bool true,.slice (some ⟨A,0,none⟩) R cA,.int .i64 (k:Int),.pointer (some ⟨A,k,none⟩),.slice (some ⟨b,0,none⟩) (nn k) (cc k),.int .i64 (i:Int),.pointer (some ⟨b,i,none⟩),mkv k i,.int .i64 (k:Int),.int .i64 (i:Int),mkv k i,.bool true,.bool false,.bool false,.bool false] [(122,.bool false)] rfl rfl rfl rfl ?_ (.cons 34 rfl rfl rfl .nil) ?_
     ·refine QAll.u [(5,.slice (some ⟨G,0,none⟩) R R)] (.old rfl .nil) rfl rfl (QV.move rfl).s rfl ?_
      refine QAll.u [(9,.int .i64 (k:Int))] (.old rfl .nil) rfl rfl (QV.move rfl).s rfl ?_
      refine QAll.u [(88,.slice (some ⟨G,0,none⟩) R R),(89,.int .i64 (k:Int))] (.dat 0 rfl rfl rfl (.dat 1 rfl rfl rfl .nil)) rfl rfl (QV.ixN Tryz.runUnderlying44 Tryz.sizeOf36 rfl rfl hk).s rfl ?_
      refine QAll.u [(90,.pointer (some ⟨G,k,none⟩))] (.dat 2 rfl rfl rfl .nil) rfl rfl (QV.ldM Tryz.isAgg36 rfl hG).s rfl ?_
      refine QAll.u [(10,.int .i64 (i:Int))] (.old rfl .nil) rfl rfl (QV.move rfl).s rfl ?_
      refine QAll.u [(91,(.slice (some ⟨b',0,none⟩) (nn k+64) c')),(92,.int .i64 (i:Int))] (.dat 3 rfl rfl rfl (.dat 4 rfl rfl rfl .nil)) rfl rfl (QV.ixN Tryz.runUnderlying36 Tryz.sizeOf5 rfl rfl hi).s rfl ?_
      refine QAll.u [(93,.pointer (some ⟨b',i,none⟩))] (.dat 5 rfl rfl rfl .nil) rfl rfl (QV.ldM Tryz.isAgg5 rfl (hmk i hi)).s rfl ?_
      refine QAll.u [(9,.int .i64 (k:Int))] (.old rfl .nil) rfl rfl (QV.move rfl).s rfl ?_
      refine QAll.u [(10,.int .i64 (i:Int))] (.old rfl .nil) rfl rfl (QV.move rfl).s rfl ?_
      refine QAll.u [(95,.int .i64 (k:Int)),(96,.int .i64 (i:Int))] (.dat 7 rfl rfl rfl (.dat 8 rfl rfl rfl .nil)) rfl rfl (QS.callP Tryz.call55 rfl (fun a w s=>c55r k i w)) rfl ?_
      refine QAll.u [(94,mkv k i),(97,mkv k i)] (.dat 6 rfl rfl rfl (.dat 9 rfl rfl rfl .nil)) rfl rfl (QV.eqT rfl rfl).s rfl ?_
      refine QAll.u [(98,.bool true)] (.dat 10 rfl rfl rfl .nil) rfl rfl (QV.not rfl).s rfl ?_
      refine QAll.u [(99,.bool false)] (.dat 11 rfl rfl rfl .nil) rfl rfl (QV.move rfl).s rfl ?_
      refine QAll.g [(10,.int .i64 (i:Int)),(100,.bool false)] (.old rfl (.dat 12 rfl rfl rfl .nil)) rfl rfl rfl rfl (QV.move rfl).s rfl ?_
      refine QAll.g [(0,.slice (some ⟨A,0,none⟩) R cA),(100,.bool false)] (.old rfl (.dat 12 rfl rfl rfl .nil)) rfl rfl rfl rfl (QV.move rfl).s rfl ?_
      refine QAll.g [(9,.int .i64 (k:Int)),(100,.bool false)] (.old rfl (.dat 12 rfl rfl rfl .nil)) rfl rfl rfl rfl (QV.move rfl).s rfl ?_
      refine QAll.g [(102,.slice (some ⟨A,0,none⟩) R cA),(103,.int .i64 (k:Int)),(100,.bool false)] (.dat 14 rfl rfl rfl (.dat 15 rfl rfl rfl (.dat 12 rfl rfl rfl .nil))) rfl rfl rfl rfl (QV.ixN Tryz.runUnderlying44 Tryz.sizeOf36 rfl rfl hk).s rfl ?_
      refine QAll.g [(104,.pointer (some ⟨A,k,none⟩)),(100,.bool false)] (.dat 16 rfl rfl rfl (.dat 12 rfl rfl rfl .nil)) rfl rfl rfl rfl (QV.ldM Tryz.isAgg36 rfl hd).s rfl ?_
      refine QAll.g [(105,.slice (some ⟨b,0,none⟩) (nn k) (cc k)),(100,.bool false)] (.dat 17 rfl rfl rfl (.dat 12 rfl rfl rfl .nil)) rfl rfl rfl rfl (QV.lenM Tryz.runUnderlying36 rfl).s rfl ?_
      refine QAll.g [(101,.int .i64 (i:Int)),(106,.int .i64 (nn k:Int)),(100,.bool false)] (.dat 13 rfl rfl rfl (.dat 18 rfl rfl rfl (.dat 12 rfl rfl rfl .nil))) rfl rfl rfl rfl (QV.ltB rfl rfl (decide_eq_true (by omega))).s rfl ?_
      refine QAll.g [(107,.bool true),(100,.bool false)] (.dat 19 rfl rfl rfl (.dat 12 rfl rfl rfl .nil)) rfl rfl rfl rfl (QV.move rfl).s rfl ?_
      refine QAll.g [(0,.slice (some ⟨A,0,none⟩) R cA),(108,.bool true)] (.old rfl (.dat 20 rfl rfl rfl .nil)) rfl rfl rfl rfl (QV.move rfl).s rfl ?_
      refine QAll.g [(9,.int .i64 (k:Int)),(108,.bool true)] (.old rfl (.dat 20 rfl rfl rfl .nil)) rfl rfl rfl rfl (QV.move rfl).s rfl ?_
      refine QAll.g [(109,.slice (some ⟨A,0,none⟩) R cA),(110,.int .i64 (k:Int)),(108,.bool true)] (.dat 21 rfl rfl rfl (.dat 22 rfl rfl rfl (.dat 20 rfl rfl rfl .nil))) rfl rfl rfl rfl (QV.ixN Tryz.runUnderlying44 Tryz.sizeOf36 rfl rfl hk).s rfl ?_
      refine QAll.g [(111,.pointer (some ⟨A,k,none⟩)),(108,.bool true)] (.dat 23 rfl rfl rfl (.dat 20 rfl rfl rfl .nil)) rfl rfl rfl rfl (QV.ldM Tryz.isAgg36 rfl hd).s rfl ?_
      refine QAll.g [(10,.int .i64 (i:Int)),(108,.bool true)] (.old rfl (.dat 20 rfl rfl rfl .nil)) rfl rfl rfl rfl (QV.move rfl).s rfl ?_
      refine QAll.g [(112,.slice (some ⟨b,0,none⟩) (nn k) (cc k)),(113,.int .i64 (i:Int)),(108,.bool true)] (.dat 24 rfl rfl rfl (.dat 25 rfl rfl rfl (.dat 20 rfl rfl rfl .nil))) rfl rfl rfl rfl (QV.ixN Tryz.runUnderlying36 Tryz.sizeOf5 rfl rfl hi2).s rfl ?_
      refine QAll.g [(114,.pointer (some ⟨b,i,none⟩)),(108,.bool true)] (.dat 26 rfl rfl rfl (.dat 20 rfl rfl rfl .nil)) rfl rfl rfl rfl (QV.ldM Tryz.isAgg5 rfl (hrow k hk b hbk i hi2)).s rfl ?_
      refine QAll.g [(9,.int .i64 (k:Int)),(108,.bool true)] (.old rfl (.dat 20 rfl rfl rfl .nil)) rfl rfl rfl rfl (QV.move rfl).s rfl ?_
      refine QAll.g [(10,.int .i64 (i:Int)),(108,.bool true)] (.old rfl (.dat 20 rfl rfl rfl .nil)) rfl rfl rfl rfl (QV.move rfl).s rfl ?_
      refine QAll.g [(116,.int .i64 (k:Int)),(117,.int .i64 (i:Int)),(108,.bool true)] (.dat 28 rfl rfl rfl (.dat 29 rfl rfl rfl (.dat 20 rfl rfl rfl .nil))) rfl rfl rfl rfl (QS.callP Tryz.call55 rfl (fun a w s=>c55r k i w)) rfl ?_
      refine QAll.g [(115,mkv k i),(118,mkv k i),(108,.bool true)] (.dat 27 rfl rfl rfl (.dat 30 rfl rfl rfl (.dat 20 rfl rfl rfl .nil))) rfl rfl rfl rfl (QV.eqT rfl rfl).s rfl ?_
      refine QAll.g [(119,.bool true),(108,.bool true)] (.dat 31 rfl rfl rfl (.dat 20 rfl rfl rfl .nil)) rfl rfl rfl rfl (QV.not rfl).s rfl ?_
      refine QAll.g [(108,.bool true),(120,.bool false),(100,.bool false)] (.dat 20 rfl rfl rfl (.dat 32 rfl rfl rfl (.dat 12 rfl rfl rfl .nil))) rfl rfl rfl rfl (QV.pickT rfl rfl).s rfl ?_
      refine QAll.u [(100,.bool false),(121,.bool false)] (.dat 12 rfl rfl rfl (.dat 33 rfl rfl rfl .nil)) rfl rfl (QV.pickF rfl rfl).s rfl ?_
      exact QAll.nil
     refine NT ?_
     refine TC.condF rfl ?_
     refine TC.skip ?_
     refine TE.blockN ?_
     refine TE.thenN rfl rfl ?_
     refine TC.region ?_
     refine MV ?_
     refine IB ?_
     refine AS ?_
     refine TO.nil ?_
     rw [wI (by omega)]
     refine TE.keep (L':=[(10,.int .i64 ((i+1:Nat):Int)),(9,.int .i64 (k:Int)),(5,.slice (some ⟨G,0,none⟩) R R),(0,.slice (some ⟨A,0,none⟩) R cA)]) ⟨rfl,rfl,rfl,rfl,trivial⟩ ?_
     exact hn2 _ _ hi ⟨rfl,rfl⟩
    refine TC.draw hmixM 35 [.slice (some ⟨G,0,none⟩) R R,.int .i64 (k:Int),.pointer (some ⟨G,k,none⟩),(.slice (some ⟨b',0,none⟩) (nn k+64) c'),.int .i64 (i:Int),.pointer (some ⟨b',i,none⟩),mkv k i,.int .i64 (k:Int),.int .i64 (i:Int),mkv k i,.bool true,.bool false,.bool false,.int .i64 (i:Int),.slice (some ⟨A,0,none⟩) R cA,.int .i64 (k:Int),.pointer (some ⟨A,k,none⟩),hdr bk nn cc k,.int .i64 (nn k:Int),.bool false,.bool false,undef,undef,undef,undef,undef,undef,undef,undef,undef,undef,undef,undef,.bool false,.bool false] [(122,.bool false)] rfl rfl rfl rfl ?_ (.cons 34 rfl rfl rfl .nil) ?_
    ·refine QAll.u [(5,.slice (some ⟨G,0,none⟩) R R)] (.old rfl .nil) rfl rfl (QV.move rfl).s rfl ?_
     refine QAll.u [(9,.int .i64 (k:Int))] (.old rfl .nil) rfl rfl (QV.move rfl).s rfl ?_
     refine QAll.u [(88,.slice (some ⟨G,0,none⟩) R R),(89,.int .i64 (k:Int))] (.dat 0 rfl rfl rfl (.dat 1 rfl rfl rfl .nil)) rfl rfl (QV.ixN Tryz.runUnderlying44 Tryz.sizeOf36 rfl rfl hk).s rfl ?_
     refine QAll.u [(90,.pointer (some ⟨G,k,none⟩))] (.dat 2 rfl rfl rfl .nil) rfl rfl (QV.ldM Tryz.isAgg36 rfl hG).s rfl ?_
     refine QAll.u [(10,.int .i64 (i:Int))] (.old rfl .nil) rfl rfl (QV.move rfl).s rfl ?_
     refine QAll.u [(91,(.slice (some ⟨b',0,none⟩) (nn k+64) c')),(92,.int .i64 (i:Int))] (.dat 3 rfl rfl rfl (.dat 4 rfl rfl rfl .nil)) rfl rfl (QV.ixN Tryz.runUnderlying36 Tryz.sizeOf5 rfl rfl hi).s rfl ?_
     refine QAll.u [(93,.pointer (some ⟨b',i,none⟩))] (.dat 5 rfl rfl rfl .nil) rfl rfl (QV.ldM Tryz.isAgg5 rfl (hmk i hi)).s rfl ?_
     refine QAll.u [(9,.int .i64 (k:Int))] (.old rfl .nil) rfl rfl (QV.move rfl).s rfl ?_
     refine QAll.u [(10,.int .i64 (i:Int))] (.old rfl .nil) rfl rfl (QV.move rfl).s rfl ?_
     refine QAll.u [(95,.int .i64 (k:Int)),(96,.int .i64 (i:Int))] (.dat 7 rfl rfl rfl (.dat 8 rfl rfl rfl .nil)) rfl rfl (QS.callP Tryz.call55 rfl (fun a w s=>c55r k i w)) rfl ?_
     refine QAll.u [(94,mkv k i),(97,mkv k i)] (.dat 6 rfl rfl rfl (.dat 9 rfl rfl rfl .nil)) rfl rfl (QV.eqT rfl rfl).s rfl ?_
     refine QAll.u [(98,.bool true)] (.dat 10 rfl rfl rfl .nil) rfl rfl (QV.not rfl).s rfl ?_
     refine QAll.u [(99,.bool false)] (.dat 11 rfl rfl rfl .nil) rfl rfl (QV.move rfl).s rfl ?_
     refine QAll.g [(10,.int .i64 (i:Int)),(100,.bool false)] (.old rfl (.dat 12 rfl rfl rfl .nil)) rfl rfl rfl rfl (QV.move rfl).s rfl ?_
     refine QAll.g [(0,.slice (some ⟨A,0,none⟩) R cA),(100,.bool false)] (.old rfl (.dat 12 rfl rfl rfl .nil)) rfl rfl rfl rfl (QV.move rfl).s rfl ?_
     refine QAll.g [(9,.int .i64 (k:Int)),(100,.bool false)] (.old rfl (.dat 12 rfl rfl rfl .nil)) rfl rfl rfl rfl (QV.move rfl).s rfl ?_
     refine QAll.g [(102,.slice (some ⟨A,0,none⟩) R cA),(103,.int .i64 (k:Int)),(100,.bool false)] (.dat 14 rfl rfl rfl (.dat 15 rfl rfl rfl (.dat 12 rfl rfl rfl .nil))) rfl rfl rfl rfl (QV.ixN Tryz.runUnderlying44 Tryz.sizeOf36 rfl rfl hk).s rfl ?_
     refine QAll.g [(104,.pointer (some ⟨A,k,none⟩)),(100,.bool false)] (.dat 16 rfl rfl rfl (.dat 12 rfl rfl rfl .nil)) rfl rfl rfl rfl (QV.ldM Tryz.isAgg36 rfl (hx.hd k hk)).s rfl ?_
     refine QAll.g [(105,hdr bk nn cc k),(100,.bool false)] (.dat 17 rfl rfl rfl (.dat 12 rfl rfl rfl .nil)) rfl rfl rfl rfl (QV.lenM Tryz.runUnderlying36 rfl).s rfl ?_
     refine QAll.g [(101,.int .i64 (i:Int)),(106,.int .i64 (nn k:Int)),(100,.bool false)] (.dat 13 rfl rfl rfl (.dat 18 rfl rfl rfl (.dat 12 rfl rfl rfl .nil))) rfl rfl rfl rfl (QV.ltB rfl rfl (decide_eq_false (by omega))).s rfl ?_
     refine QAll.g [(107,.bool false),(100,.bool false)] (.dat 19 rfl rfl rfl (.dat 12 rfl rfl rfl .nil)) rfl rfl rfl rfl (QV.move rfl).s rfl ?_
     refine QAll.s [(108,.bool false)] (.dat 20 rfl rfl rfl .nil) rfl rfl rfl rfl rfl rfl ?_
     refine QAll.s [(108,.bool false)] (.dat 20 rfl rfl rfl .nil) rfl rfl rfl rfl rfl rfl ?_
     refine QAll.s [(108,.bool false)] (.dat 20 rfl rfl rfl .nil) rfl rfl rfl rfl rfl rfl ?_
     refine QAll.s [(108,.bool false)] (.dat 20 rfl rfl rfl .nil) rfl rfl rfl rfl rfl rfl ?_
     refine QAll.s [(108,.bool false)] (.dat 20 rfl rfl rfl .nil) rfl rfl rfl rfl rfl rfl ?_
     refine QAll.s [(108,.bool false)] (.dat 20 rfl rfl rfl .nil) rfl rfl rfl rfl rfl rfl ?_
     refine QAll.s [(108,.bool false)] (.dat 20 rfl rfl rfl .nil) rfl rfl rfl rfl rfl rfl ?_
     refine QAll.s [(108,.bool false)] (.dat 20 rfl rfl rfl .nil) rfl rfl rfl rfl rfl rfl ?_
     refine QAll.s [(108,.bool false)] (.dat 20 rfl rfl rfl .nil) rfl rfl rfl rfl rfl rfl ?_
     refine QAll.s [(108,.bool false)] (.dat 20 rfl rfl rfl .nil) rfl rfl rfl rfl rfl rfl ?_
     refine QAll.s [(108,.bool false)] (.dat 20 rfl rfl rfl .nil) rfl rfl rfl rfl rfl rfl ?_
     refine QAll.s [(108,.bool false)] (.dat 20 rfl rfl rfl .nil) rfl rfl rfl rfl rfl rfl ?_
     refine QAll.g [(108,.bool false),(120,undef),(100,.bool false)] (.dat 20 rfl rfl rfl (.dat 32 rfl rfl rfl (.dat 12 rfl rfl rfl .nil))) rfl rfl rfl rfl (QV.pickF rfl rfl).s rfl ?_
     refine QAll.u [(100,.bool false),(121,.bool false)] (.dat 12 rfl rfl rfl (.dat 33 rfl rfl rfl .nil)) rfl rfl (QV.pickF rfl rfl).s rfl ?_
     exact QAll.nil
    refine NT ?_
    refine TC.condF rfl ?_
    refine TC.skip ?_
    refine TE.blockN ?_
    refine TE.thenN rfl rfl ?_
    refine TC.region ?_
    refine MV ?_
    refine IB ?_
    refine AS ?_
    refine TO.nil ?_
    rw [wI (by omega)]
    refine TE.keep (L':=[(10,.int .i64 ((i+1:Nat):Int)),(9,.int .i64 (k:Int)),(5,.slice (some ⟨G,0,none⟩) R R),(0,.slice (some ⟨A,0,none⟩) R cA)]) ⟨rfl,rfl,rfl,rfl,trivial⟩ ?_
    exact hn2 _ _ hi ⟨rfl,rfl⟩
   refine TC.exit ?_
   refine TE.thenX ?_
   refine TE.loopX ?_
   refine TE.blockH ?_
   refine TE.blockN ?_
   refine TE.thenN rfl rfl ?_
   refine TC.region ?_
   refine MV ?_
   refine IB ?_
   refine AS ?_
   refine TO.nil ?_
   rw [wI (by omega)]
   refine TE.keep (L':=[(9,.int .i64 ((k+1:Nat):Int)),(5,.slice (some ⟨G,0,none⟩) R R),(0,.slice (some ⟨A,0,none⟩) R cA)]) ⟨rfl,rfl,rfl,trivial⟩ ?_
   exact hn1 _ _ hk ⟨rfl,rfl⟩
  refine TC.exit ?_
  refine TE.thenX ?_
  refine TE.loopX ?_
  refine TE.blockH ?_
  refine TE.keep (L':=[(5,.slice (some ⟨G,0,none⟩) R R),(0,.slice (some ⟨A,0,none⟩) R cA)]) ⟨rfl,rfl,trivial⟩ ?_
  exact TE.mid ⟨rfl,rfl⟩
 obtain ⟨rfl,rfl⟩:=hm
 replace hg:Gx R nn φ bs G R nn:=hg.less (fun j=>by omega)
 refine TC.cut (fun L H=>∃bs φ,L=[(5,.slice (some ⟨G,0,none⟩) R R),(0,.slice (some ⟨A,0,none⟩) R cA)]∧H=⟨bs,[]⟩∧Fx b0 R A bk nn cc φ bs∧(∀j,j < R→Row bk bs j (nn j))∧Gx R nn φ bs G R nn) ?_ (fun L H hm=>?_)
 ·refine TC.seq (TC.region ?_)
  refine AS ?_
  refine NT ?_
  refine TC.block ?_
  refine TC.keep (L':=[(11,.int .i64 ((0:Nat):Int)),(5,.slice (some ⟨G,0,none⟩) R R),(0,.slice (some ⟨A,0,none⟩) R cA)]) ⟨rfl,rfl,rfl,trivial⟩ ?_
  refine TC.loopN (fun k L H=>∃bs φ,L=[(11,.int .i64 (k:Int)),(5,.slice (some ⟨G,0,none⟩) R R),(0,.slice (some ⟨A,0,none⟩) R cA)]∧H=⟨bs,[]⟩∧Fx b0 R A bk nn cc φ bs∧(∀j,j < R→Row bk bs j (nn j))∧Gx R nn φ bs G R nn) R (fun K1 k L H hs hle1 hn1=>?_) ?_
  ·obtain ⟨bs,φ,rfl,rfl,hx,hrow,hg⟩:=hs
   refine TC.seq ?_
   refine TC.seq (TC.region ?_)
   refine MV ?_
   refine MV ?_
   refine TO.u rfl rfl (TX.lenM Tryz.runUnderlying44 rfl rfl ?_)
   refine IB ?_
   refine NT ?_
   refine TC.cond rfl (fun hb=>?_) (fun hb=>?_)
   ·have hk:k < R:=by have:=of_decide_eq_true hb;omega
    refine TC.skip ?_
    refine TE.thenN rfl rfl ?_
    refine TC.seq ?_
    refine TC.block ?_
    have hnk:=hns k hk
    refine TC.seq (TC.region ?_)
    refine TO.u rfl rfl (TX.mkM (by':=1) (k:=64) Tryz.runUnderlying36 Tryz.typeInfo5 rfl rfl rfl rfl rfl rfl ⟨by decide,by decide⟩ rfl (fun M bm hM ms0 hBM hz=>?_))
    refine AS ?_
    refine NT ?_
    have hMx:∃φ,Fx b0 R A bk nn cc φ bm∧Gx R nn φ bm G R nn∧φ M=some (R+3):=by
     have hp:∀b∈ids bs,(fun x=>if x=M then some (R+3) else φ x) b=φ b:=fun b hb=>if_neg (fun (e:b=M)=>hM (by rw [← e];exact hb))
     exact ⟨_,(hx.phi hR hp).step ms0 (fun _ _ q=>q.elim),(hg.phi hp).step ms0 (fun _ _ q=>q.elim),if_pos rfl⟩
    replace hrow:∀j,j < R→Row bk bm j (nn j):=fun j hj=>(hrow j hj).step ms0 (fun _ _ _ q=>q.elim)
    clear hx hg hz ms0
    obtain ⟨φ,hx,hg,hφM⟩:=hMx
    refine TC.cut (fun L H=>∃bs,L=[(12,.slice (some ⟨M,0,none⟩) 64 64),(11,.int .i64 (k:Int)),(5,.slice (some ⟨G,0,none⟩) R R),(0,.slice (some ⟨A,0,none⟩) R cA)]∧H=⟨bs,[]⟩∧Fx b0 R A bk nn cc φ bs∧(∀j,j < R→Row bk bs j (nn j))∧Gx R nn φ bs G R nn∧HasB bs M 5 64∧∀j,j < 64→Cell bs M j (mkv (k+R) j)) ?_ (fun L H hm=>?_)
    ·refine TC.seq (TC.region ?_)
     refine AS ?_
     refine NT ?_
     refine TC.block ?_
     refine TC.keep (L':=[(13,.int .i64 ((0:Nat):Int)),(12,.slice (some ⟨M,0,none⟩) 64 64),(11,.int .i64 (k:Int)),(5,.slice (some ⟨G,0,none⟩) R R),(0,.slice (some ⟨A,0,none⟩) R cA)]) ⟨rfl,rfl,rfl,rfl,rfl,trivial⟩ ?_
     refine TC.loopN (fun i L H=>∃bs,L=[(13,.int .i64 (i:Int)),(12,.slice (some ⟨M,0,none⟩) 64 64),(11,.int .i64 (k:Int)),(5,.slice (some ⟨G,0,none⟩) R R),(0,.slice (some ⟨A,0,none⟩) R cA)]∧H=⟨bs,[]⟩∧Fx b0 R A bk nn cc φ bs∧(∀j,j < R→Row bk bs j (nn j))∧Gx R nn φ bs G R nn∧HasB bs M 5 64∧∀j,j < i→Cell bs M j (mkv (k+R) j)) 64 (fun K2 i L H hs hle2 hn2=>?_) ⟨bm,rfl,rfl,hx,hrow,hg,hBM,fun j hj=>absurd hj (by omega)⟩
     obtain ⟨bs,rfl,rfl,hx,hrow,hg,hBM,hcm⟩:=hs
     refine TC.seq ?_
     refine TC.seq (TC.region ?_)
     refine MV ?_
     refine IB ?_
     refine NT ?_
     refine TC.cond rfl (fun hb=>?_) (fun hb=>?_)
     ·have hi:i < 64:=by have:=of_decide_eq_true hb;omega
      refine TC.skip ?_
      refine TE.thenN rfl rfl ?_
      refine TC.seq ?_
      refine TC.block ?_
      refine TC.region ?_
      refine MV ?_
      refine MV ?_
      refine MV ?_
      refine MV ?_
      refine TO.u rfl rfl (TX.lenM Tryz.runUnderlying44 rfl rfl ?_)
      refine IB ?_
      rw [wA (by omega)]
      refine MV ?_
      refine TO.u rfl rfl (TX.callP Tryz.call55 rfl (fun a w s=>c55r (k+R) i w) rfl ?_)
      refine TO.u rfl rfl (TX.ixN Tryz.runUnderlying36 Tryz.sizeOf5 rfl rfl hi rfl ?_)
      refine TO.u rfl rfl (TX.stM Tryz.sizeOf5 rfl rfl rfl rfl hBM hi (fun bs1 ms c1=>?_))
      refine TO.nil ?_
      refine TE.blockN ?_
      refine TE.thenN rfl rfl ?_
      refine TC.region ?_
      refine MV ?_
      refine IB ?_
      refine AS ?_
      refine TO.nil ?_
      rw [wI (by omega)]
      refine TE.keep (L':=[(13,.int .i64 ((i+1:Nat):Int)),(12,.slice (some ⟨M,0,none⟩) 64 64),(11,.int .i64 (k:Int)),(5,.slice (some ⟨G,0,none⟩) R R),(0,.slice (some ⟨A,0,none⟩) R cA)]) ⟨rfl,rfl,rfl,rfl,rfl,trivial⟩ ?_
      refine hn2 _ _ hi ⟨bs1,rfl,rfl,hx.step ms (fun b' i' q=>by rw [q.1,hφM];intro e;have:=Option.some.inj e;omega),fun j hj=>(hrow j hj).step ms (fun b' i' hb' q=>by have h1:=(hx.bl j hj b' hb').1;rw [q.1,hφM] at h1;have:=Option.some.inj h1;omega),hg.step ms (fun b' i' q=>by rw [q.1,hφM];exact ⟨fun e=>by have:=Option.some.inj e;omega,fun j hj e=>by have:=Option.some.inj e;omega⟩),ms.blk _ _ _ hBM,fun j hj=>?_⟩
      rcases Nat.lt_or_ge j i with h1 | h1
      ·exact ms.keep _ _ _ (hcm j h1) (fun q=>by omega)
      obtain rfl:j=i:=by omega
      exact c1
     have hi:64≤i:=by have:=of_decide_eq_false hb;omega
     refine TC.exit ?_
     refine TE.thenX ?_
     refine TE.loopX ?_
     refine TE.blockH ?_
     refine TE.keep (L':=[(12,.slice (some ⟨M,0,none⟩) 64 64),(11,.int .i64 (k:Int)),(5,.slice (some ⟨G,0,none⟩) R R),(0,.slice (some ⟨A,0,none⟩) R cA)]) ⟨rfl,rfl,rfl,rfl,trivial⟩ ?_
     exact TE.mid ⟨bs,rfl,rfl,hx,hrow,hg,hBM,fun j hj=>hcm j (by omega)⟩
    clear hx hrow hg hBM
    obtain ⟨bs,rfl,rfl,hx,hrow,hg,hBM,hcm⟩:=hm
    refine TC.region ?_
    have hcb0:∀b,bk k=some b→∀i',i' < nn k→Cell bs b i' (mkv k i'):=fun b hb i' hi'=>hrow k hk b hb i' hi'
    refine MV ?_
    refine MV ?_
    refine MV ?_
    refine MV ?_
    refine TO.u rfl rfl (TX.ixN Tryz.runUnderlying44 Tryz.sizeOf36 rfl rfl hk rfl ?_)
    refine TO.u rfl rfl (TX.ldM Tryz.isAgg36 rfl (hx.hd k hk) rfl ?_)
    refine MV ?_
    refine TO.u rfl rfl (TX.apM (src:=bk k) (q:=M) (by':=1) Tryz.runUnderlying36 Tryz.typeInfo5 rfl rfl rfl rfl rfl rfl (fun b hb=>⟨(hx.bl k hk b hb).2.1,(hx.bl k hk b hb).2.2⟩) (hx.no k hk) (fun j=>mkv (k+R) j) (fun j hj=>hcm j hj) (fun j hj=>rfl) (by omega) (by omega) (by omega) rfl (fun b' cap' bs' hb' ms hB' hcap hold hnew=>?_))
    have hφq:∀x∈ids bs,(if x=b' then some k else φ x)=φ x:=fun x hx'=>by
     by_cases e:x=b'
     ·rw [if_pos e,e]
      rcases hb' with ⟨h1,_⟩ | h1
      ·exact (hx.bl k hk b' h1).1.symm
      exact absurd (e▸hx') h1
     rw [if_neg e]
    have hW:∀b i',(bk k=some b∧nn k≤i')→(if b=b' then some k else φ b)=some k:=fun b i' q=>by
     rw [hφq b (hx.bl k hk b q.1).2.1.id];exact (hx.bl k hk b q.1).1
    replace hrow:∀j,j < R→Row bk bs' j (nn j):=fun j hj=>(hrow j hj).step ms (fun b i' hb q=>by
     have h1:=(hx.bl j hj b hb).1
     rw [(hx.bl k hk b q.1).1] at h1
     obtain rfl:k=j:=Option.some.inj h1
     exact q.2)
    replace hg:Gx R nn (fun x=>if x=b' then some k else φ x) bs' G R nn:=(hg.phi hφq).step ms (fun b i' q=>⟨by rw [hW b i' q];intro e;have:=Option.some.inj e;omega,fun j hj e=>by rw [hW b i' q] at e;have:=Option.some.inj e;subst this;exact q.2⟩)
    have hcb:∀i',i' < nn k→Cell bs' b' i' (mkv k i'):=fun i' hi'=>by
     cases hsrc:bk k with
     | none=>have:=(hx.no k hk hsrc).1;omega
     | some b=>exact hold b hsrc i' _ hi' (hcb0 b hsrc i' hi')
    replace hx:Fx b0 R A bk nn cc (fun x=>if x=b' then some k else φ x) bs':=(hx.phi hR hφq).step ms (fun b i' q=>by rw [hW b i' q];intro e;have:=Option.some.inj e;omega)
    refine TO.u rfl rfl (TX.ixN Tryz.runUnderlying44 Tryz.sizeOf36 rfl rfl hk rfl ?_)
    refine TO.u rfl rfl (TX.stM (v:=.slice (some ⟨b',0,none⟩) (nn k+64) cap') Tryz.sizeOf36 rfl rfl rfl rfl hg.hb (by omega) (fun bs1 ms1 c1=>?_))
    refine TO.nil ?_
    refine TE.blockN ?_
    refine TE.thenN rfl rfl ?_
    refine TC.region ?_
    refine MV ?_
    refine IB ?_
    refine AS ?_
    refine TO.nil ?_
    rw [wI (by omega)]
    refine TE.keep (L':=[(11,.int .i64 ((k+1:Nat):Int)),(5,.slice (some ⟨G,0,none⟩) R R),(0,.slice (some ⟨A,0,none⟩) R cA)]) ⟨rfl,rfl,rfl,trivial⟩ ?_
    have hbG:b'≠G:=fun e=>by have h3:=hg.g;rw [← e,if_pos rfl] at h3;have:=Option.some.inj h3;omega
    exact hn1 _ _ hk ⟨bs1,_,rfl,rfl,hx.step ms1 (fun b i' q=>by rw [q.1,hg.g];intro e;have:=Option.some.inj e;omega),fun j hj=>(hrow j hj).step ms1 (fun b i' hb q=>by have h1:=(hx.bl j hj b hb).1;rw [q.1,hg.g] at h1;have:=Option.some.inj h1;omega),hg.put (by omega) ms1 c1 (if_pos rfl) hB'.id hcb hbG _ (by omega) (by omega)⟩
   have hk:R≤k:=by have:=of_decide_eq_false hb;omega
   refine TC.exit ?_
   refine TE.thenX ?_
   refine TE.loopX ?_
   refine TE.blockH ?_
   refine TE.keep (L':=[(5,.slice (some ⟨G,0,none⟩) R R),(0,.slice (some ⟨A,0,none⟩) R cA)]) ⟨rfl,rfl,trivial⟩ ?_
   exact TE.mid ⟨bs,φ,rfl,rfl,hx,hrow,hg⟩
  exact ⟨bs,φ,rfl,rfl,hx,hrow,hg⟩
 clear hx hrow hg
 obtain ⟨bs,φ,rfl,rfl,hx,hrow,hg⟩:=hm
 refine TC.cut (fun L H=>L=[(5,.slice (some ⟨G,0,none⟩) R R),(0,.slice (some ⟨A,0,none⟩) R cA)]∧H=⟨bs,[]⟩) ?_ (fun L H hm=>?_)
 ·refine TC.seq (TC.region ?_)
  refine AS ?_
  refine NT ?_
  refine TC.block ?_
  refine TC.keep (L':=[(14,.int .i64 ((0:Nat):Int)),(5,.slice (some ⟨G,0,none⟩) R R),(0,.slice (some ⟨A,0,none⟩) R cA)]) ⟨rfl,rfl,rfl,trivial⟩ ?_
  refine TC.loopN (fun k L H=>L=[(14,.int .i64 (k:Int)),(5,.slice (some ⟨G,0,none⟩) R R),(0,.slice (some ⟨A,0,none⟩) R cA)]∧H=⟨bs,[]⟩) R (fun K1 k L H hs hle1 hn1=>?_) ⟨rfl,rfl⟩
  obtain ⟨rfl,rfl⟩:=hs
  refine TC.seq ?_
  refine TC.seq (TC.region ?_)
  refine MV ?_
  refine MV ?_
  refine TO.u rfl rfl (TX.lenM Tryz.runUnderlying44 rfl rfl ?_)
  refine IB ?_
  refine NT ?_
  refine TC.cond rfl (fun hb=>?_) (fun hb=>?_)
  ·have hk:k < R:=by have:=of_decide_eq_true hb;omega
   refine TC.skip ?_
   refine TE.thenN rfl rfl ?_
   refine TC.seq ?_
   refine TC.block ?_
   obtain ⟨b',c',hG,hφ',hid',hmk⟩:=hg.rw_ k hk
   have hnk:=hns k hk
   refine TC.seq (TC.region ?_)
   refine AS ?_
   refine NT ?_
   refine TC.block ?_
   refine TC.keep (L':=[(15,.int .i64 ((0:Nat):Int)),(14,.int .i64 (k:Int)),(5,.slice (some ⟨G,0,none⟩) R R),(0,.slice (some ⟨A,0,none⟩) R cA)]) ⟨rfl,rfl,rfl,rfl,trivial⟩ ?_
   refine TC.loopN (fun i L H=>L=[(15,.int .i64 (i:Int)),(14,.int .i64 (k:Int)),(5,.slice (some ⟨G,0,none⟩) R R),(0,.slice (some ⟨A,0,none⟩) R cA)]∧H=⟨bs,[]⟩) (nn k) (fun K2 i L H hs hle2 hn2=>?_) ⟨rfl,rfl⟩
   obtain ⟨rfl,rfl⟩:=hs
   refine TC.seq ?_
   refine TC.seq (TC.region ?_)
   refine MV ?_
   refine MV ?_
   refine MV ?_
   refine TO.u rfl rfl (TX.ixN Tryz.runUnderlying44 Tryz.sizeOf36 rfl rfl hk rfl ?_)
   refine TO.u rfl rfl (TX.ldM Tryz.isAgg36 rfl (hx.hd k hk) rfl ?_)
   refine TO.u rfl rfl (TX.lenM Tryz.runUnderlying36 rfl rfl ?_)
   refine IB ?_
   refine NT ?_
   refine TC.cond rfl (fun hb=>?_) (fun hb=>?_)
   ·have hi:i < nn k:=by have:=of_decide_eq_true hb;omega
    refine TC.skip ?_
    refine TE.thenN rfl rfl ?_
    refine TC.seq ?_
    refine TC.block ?_
    refine TC.seq ?_
    refine TC.keep (L':=[(15,.int .i64 (i:Int)),(14,.int .i64 (k:Int)),(5,.slice (some ⟨G,0,none⟩) R R),(0,.slice (some ⟨A,0,none⟩) R cA)]) ⟨rfl,rfl,rfl,rfl,trivial⟩ ?_
    have hi2:=hi
    obtain ⟨b,hbk⟩:∃b,bk k=some b:=by
     cases hc:bk k with
     | none=>have:=(hx.no k hk hc).1;omega
     | some b=>exact ⟨b,rfl⟩
    have hd:Cell bs A k (.slice (some ⟨b,0,none⟩) (nn k) (cc k)):=by have:=hx.hd k hk;rw [hdr,hbk] at this;exact this
    refine TC.draw hmixM 26 [.slice (some ⟨A,0,none⟩) R cA,.int .i64 (k:Int),.pointer (some ⟨A,k,none⟩),.slice (some ⟨b,0,none⟩) (nn k) (cc k),.int .i64 (i:Int),.pointer (some ⟨b,i,none⟩),mkv k i,.int .i64 (k:Int),.int .i64 (i:Int),mkv k i,.bool true,.bool false,.bool false,.slice (some ⟨G,0,none⟩) R R,.int .i64 (k:Int),.pointer (some ⟨G,k,none⟩),(.slice (some ⟨b',0,none⟩) (nn k+64) c'),.int .i64 (i:Int),.pointer (some ⟨b',i,none⟩),mkv k i,.int .i64 (k:Int),.int .i64 (i:Int),mkv k i,.bool true,.bool false,.bool false] [(192,.bool false)] rfl rfl rfl rfl ?_ (.cons 25 rfl rfl rfl .nil) ?_
    ·refine QAll.u [(0,.slice (some ⟨A,0,none⟩) R cA)] (.old rfl .nil) rfl rfl (QV.move rfl).s rfl ?_
     refine QAll.u [(14,.int .i64 (k:Int))] (.old rfl .nil) rfl rfl (QV.move rfl).s rfl ?_
     refine QAll.u [(167,.slice (some ⟨A,0,none⟩) R cA),(168,.int .i64 (k:Int))] (.dat 0 rfl rfl rfl (.dat 1 rfl rfl rfl .nil)) rfl rfl (QV.ixN Tryz.runUnderlying44 Tryz.sizeOf36 rfl rfl hk).s rfl ?_
     refine QAll.u [(169,.pointer (some ⟨A,k,none⟩))] (.dat 2 rfl rfl rfl .nil) rfl rfl (QV.ldM Tryz.isAgg36 rfl hd).s rfl ?_
     refine QAll.u [(15,.int .i64 (i:Int))] (.old rfl .nil) rfl rfl (QV.move rfl).s rfl ?_
     refine QAll.u [(170,.slice (some ⟨b,0,none⟩) (nn k) (cc k)),(171,.int .i64 (i:Int))] (.dat 3 rfl rfl rfl (.dat 4 rfl rfl rfl .nil)) rfl rfl (QV.ixN Tryz.runUnderlying36 Tryz.sizeOf5 rfl rfl hi2).s rfl ?_
     refine QAll.u [(172,.pointer (some ⟨b,i,none⟩))] (.dat 5 rfl rfl rfl .nil) rfl rfl (QV.ldM Tryz.isAgg5 rfl (hrow k hk b hbk i hi2)).s rfl ?_
     refine QAll.u [(14,.int .i64 (k:Int))] (.old rfl .nil) rfl rfl (QV.move rfl).s rfl ?_
     refine QAll.u [(15,.int .i64 (i:Int))] (.old rfl .nil) rfl rfl (QV.move rfl).s rfl ?_
     refine QAll.u [(174,.int .i64 (k:Int)),(175,.int .i64 (i:Int))] (.dat 7 rfl rfl rfl (.dat 8 rfl rfl rfl .nil)) rfl rfl (QS.callP Tryz.call55 rfl (fun a w s=>c55r k i w)) rfl ?_
     refine QAll.u [(173,mkv k i),(176,mkv k i)] (.dat 6 rfl rfl rfl (.dat 9 rfl rfl rfl .nil)) rfl rfl (QV.eqT rfl rfl).s rfl ?_
     refine QAll.u [(177,.bool true)] (.dat 10 rfl rfl rfl .nil) rfl rfl (QV.not rfl).s rfl ?_
     refine QAll.u [(178,.bool false)] (.dat 11 rfl rfl rfl .nil) rfl rfl (QV.move rfl).s rfl ?_
     refine QAll.g [(5,.slice (some ⟨G,0,none⟩) R R),(179,.bool false)] (.old rfl (.dat 12 rfl rfl rfl .nil)) rfl rfl rfl rfl (QV.move rfl).s rfl ?_
     refine QAll.g [(14,.int .i64 (k:Int)),(179,.bool false)] (.old rfl (.dat 12 rfl rfl rfl .nil)) rfl rfl rfl rfl (QV.move rfl).s rfl ?_
     refine QAll.g [(180,.slice (some ⟨G,0,none⟩) R R),(181,.int .i64 (k:Int)),(179,.bool false)] (.dat 13 rfl rfl rfl (.dat 14 rfl rfl rfl (.dat 12 rfl rfl rfl .nil))) rfl rfl rfl rfl (QV.ixN Tryz.runUnderlying44 Tryz.sizeOf36 rfl rfl hk).s rfl ?_
     refine QAll.g [(182,.pointer (some ⟨G,k,none⟩)),(179,.bool false)] (.dat 15 rfl rfl rfl (.dat 12 rfl rfl rfl .nil)) rfl rfl rfl rfl (QV.ldM Tryz.isAgg36 rfl hG).s rfl ?_
     refine QAll.g [(15,.int .i64 (i:Int)),(179,.bool false)] (.old rfl (.dat 12 rfl rfl rfl .nil)) rfl rfl rfl rfl (QV.move rfl).s rfl ?_
     refine QAll.g [(183,(.slice (some ⟨b',0,none⟩) (nn k+64) c')),(184,.int .i64 (i:Int)),(179,.bool false)] (.dat 16 rfl rfl rfl (.dat 17 rfl rfl rfl (.dat 12 rfl rfl rfl .nil))) rfl rfl rfl rfl (QV.ixN Tryz.runUnderlying36 Tryz.sizeOf5 rfl rfl (by omega)).s rfl ?_
     refine QAll.g [(185,.pointer (some ⟨b',i,none⟩)),(179,.bool false)] (.dat 18 rfl rfl rfl (.dat 12 rfl rfl rfl .nil)) rfl rfl rfl rfl (QV.ldM Tryz.isAgg5 rfl (hmk i hi)).s rfl ?_
     refine QAll.g [(14,.int .i64 (k:Int)),(179,.bool false)] (.old rfl (.dat 12 rfl rfl rfl .nil)) rfl rfl rfl rfl (QV.move rfl).s rfl ?_
     refine QAll.g [(15,.int .i64 (i:Int)),(179,.bool false)] (.old rfl (.dat 12 rfl rfl rfl .nil)) rfl rfl rfl rfl (QV.move rfl).s rfl ?_
     refine QAll.g [(187,.int .i64 (k:Int)),(188,.int .i64 (i:Int)),(179,.bool false)] (.dat 20 rfl rfl rfl (.dat 21 rfl rfl rfl (.dat 12 rfl rfl rfl .nil))) rfl rfl rfl rfl (QS.callP Tryz.call55 rfl (fun a w s=>c55r k i w)) rfl ?_
     refine QAll.g [(186,mkv k i),(189,mkv k i),(179,.bool false)] (.dat 19 rfl rfl rfl (.dat 22 rfl rfl rfl (.dat 12 rfl rfl rfl .nil))) rfl rfl rfl rfl (QV.eqT rfl rfl).s rfl ?_
     refine QAll.g [(190,.bool true),(179,.bool false)] (.dat 23 rfl rfl rfl (.dat 12 rfl rfl rfl .nil)) rfl rfl rfl rfl (QV.not rfl).s rfl ?_
     refine QAll.u [(179,.bool false),(191,.bool false)] (.dat 12 rfl rfl rfl (.dat 24 rfl rfl rfl .nil)) rfl rfl (QV.pickF rfl rfl).s rfl ?_
     exact QAll.nil
    refine NT ?_
    refine TC.condF rfl ?_
    refine TC.skip ?_
    refine TE.blockN ?_
    refine TE.thenN rfl rfl ?_
    refine TC.region ?_
    refine MV ?_
    refine IB ?_
    refine AS ?_
    refine TO.nil ?_
    rw [wI (by omega)]
    refine TE.keep (L':=[(15,.int .i64 ((i+1:Nat):Int)),(14,.int .i64 (k:Int)),(5,.slice (some ⟨G,0,none⟩) R R),(0,.slice (some ⟨A,0,none⟩) R cA)]) ⟨rfl,rfl,rfl,rfl,trivial⟩ ?_
    exact hn2 _ _ hi ⟨rfl,rfl⟩
   refine TC.exit ?_
   refine TE.thenX ?_
   refine TE.loopX ?_
   refine TE.blockH ?_
   refine TE.blockN ?_
   refine TE.thenN rfl rfl ?_
   refine TC.region ?_
   refine MV ?_
   refine IB ?_
   refine AS ?_
   refine TO.nil ?_
   rw [wI (by omega)]
   refine TE.keep (L':=[(14,.int .i64 ((k+1:Nat):Int)),(5,.slice (some ⟨G,0,none⟩) R R),(0,.slice (some ⟨A,0,none⟩) R cA)]) ⟨rfl,rfl,rfl,trivial⟩ ?_
   exact hn1 _ _ hk ⟨rfl,rfl⟩
  refine TC.exit ?_
  refine TE.thenX ?_
  refine TE.loopX ?_
  refine TE.blockH ?_
  refine TE.keep (L':=[(5,.slice (some ⟨G,0,none⟩) R R),(0,.slice (some ⟨A,0,none⟩) R cA)]) ⟨rfl,rfl,trivial⟩ ?_
  exact TE.mid ⟨rfl,rfl⟩
 obtain ⟨rfl,rfl⟩:=hm
 refine TC.seq (TC.region ?_)
 refine AS ?_
 refine NT ?_
 refine TC.ret ?_
 exact TE.fin (R:=⟨_,[]⟩) (TL.ret (R':=⟨bs,[]⟩) Tryz.results65 (.cons (.tmp rfl) .nil) (List.Sublist.refl _) ⟨bs,rfl,rfl,hx.z.1⟩)
end Go.Proofs.YteicbpfkljnemaaGreat
namespace Go.HW
open Go Go.RowKit
abbrev As:=Nat→Option Value
def As.set (σ:As) (k:Nat) (v:Value):As:=fun i=>if i=k then some v else σ i
def As.val (σ:As) (k:Nat):Value:=(σ k).getD undef
def EffV (c:Cx) (P':Value→Blocks→Prop) (dst:Option Tmp):Exit→Act→World→Prop :=
 Exit.then (fun a w=>∃v bs,P' v bs∧Sat c (putS [] dst v) ⟨bs,[]⟩ a w) (fun _ _ _=>False)
theorem TE.effV {c:Cx} {L:Slots} {bs:Blocks} {P':Value→Blocks→Prop} {dst:Option Tmp} (v:Value) (hp:P' v bs) (hL:subB (putS [] dst v) L):TE (EffV c P' dst) .normal c L ⟨bs,[]⟩ :=
 fun a w s=>⟨v,bs,hp,s.weak hL.weak (List.Sublist.refl _)⟩
section
variable {c:Cx} {Q:Exit→Act→World→Prop} {L0:Slots} {l:List Oper} {J:As→Blocks→Prop}
theorem eff_uponV {o:Oper} {a:Act} {w:World} {P':Value→Blocks→Prop} {K:Act→World→Prop}
  (h:o.wpIn (FW c.ro) 1 c.P a w (EffV c P' o.dst .normal) (EffV c P' o.dst))
  (hK:∀u w' v bs,P' v bs→Sat c (putS [] o.dst v) ⟨bs,[]⟩ (a.put o.dst u) w'→K (a.put o.dst u) w') (hnd:notDefer o.op=true) (hds:a.defers=c.ds):o.wpIn (FW c.ro) 1 c.P a w K Q:=by
 unfold Oper.wpIn at *
 refine ⟨h.1,?_⟩
 have hh:=h.2
 have hsem:o.semAt (FW c.ro).round a.eval=execOp a.eval o:=Oper.semAt_eq _ _ _ (fun d hd=>by rw [hd] at hnd;cases hnd)
 rw [hsem] at hh ⊢
 generalize hr:(execOp a.eval o).run c.P w=r at *
 cases r with
 | ok x w' =>
  cases x with
  | value u=>obtain ⟨v,H',h1,h2⟩:=hh;exact hK u w' v H' h1 h2
  | skip=>obtain ⟨v,H',h1,h2⟩:=hh;exact hK undef w' v H' h1 h2
  | enter f args=>exact ⟨hh.1,CallsIn.mono hh.2 (fun e w'' he=>by
    cases e with
    | returned u=>obtain ⟨v,H',h1,h2⟩:=he;exact hK u w'' v H' h1 h2
    | panicked ch=>exact he.elim
    | outgrown=>obtain ⟨_,_,_,hf⟩:=he)⟩
  | row r args=>exact ⟨hh.1,RowsIn.mono hh.2 (fun u w'' he=>by obtain ⟨v,H',h1,h2⟩:=he;exact hK u w'' v H' h1 h2)⟩
  | round l' f tm aa bd=>exact ⟨hh.1,RoundIn.mono hh.2 (fun e w'' he=>by
    cases e with
    | returned u=>obtain ⟨v,H',h1,h2⟩:=he;exact hK u w'' v H' h1 h2
    | panicked ch=>exact he.elim
    | outgrown=>obtain ⟨_,_,_,hf⟩:=he)⟩
  | defer d =>
   obtain ⟨v,H',h1,h2⟩:=hh
   have h3:=h2.defers
   have h4:=congrArg List.length h3
   rw [← hds] at h4
   cases hdst:o.dst <;> simp [Act.put,hdst] at h4
  | _=>exact hh.elim
 | halt x w'=>cases x <;> first | exact hh.elim | exact (by simp [Oper.uponIn,EffV] at hh)
def JJ (c:Cx) (l:List Oper) (L0:Slots) (J:As→Blocks→Prop) (listed:Array Bool) (a:Act) (w:World):Prop :=
 ∃σ bs,J σ bs∧Sat c L0 ⟨bs,[]⟩ a w∧(∀k,k < l.length→(listed.getD k false=true↔∃v,σ k=some v)) ∧
  ∀(k:Nat) (o:Oper) (d:Nat) (v:Value),σ k=some v→l[k]?=some o→o.dst=some d→a.tmps.getD d undef=v
def OpJ (c:Cx) (l:List Oper) (L0:Slots) (J:As→Blocks→Prop) (k:Nat) (o:Oper):Prop :=
 ∀σ bs,J σ bs→σ k=none→(∀m,m < l.length→bindsOn o m=true→∃v,σ m=some v)→(∀m o',l[m]?=some o'→bindsOn o' k=true→σ m=none) →
  ∃Lk,LkOk l.toArray L0 σ.val o Lk∧TO c l.toArray (EffV c (fun v bs'=>J (σ.set k v) bs') o.dst) [o] Lk ⟨bs,[]⟩
theorem drawJ_any (hback:backB l 0=true) (hdst:dstB L0 l []=true) (hokd:∀(k:Nat) (o:Oper) (d:Nat),l[k]?=some o→o.dst=some d→d < c.n)
  (hnd:∀o∈l,notDefer o.op=true)
  (hop:∀(k:Nat) (o:Oper),l[k]?=some o→OpJ c l L0 J k o)
  (hfin:∀a w σ bs,J σ bs→Sat c L0 ⟨bs,[]⟩ a w→(∀k,k < l.length→∃v,σ k=some v)→(∀(k:Nat) (o:Oper) (d:Nat),l[k]?=some o→o.dst=some d→a.tmps.getD d undef=σ.val k)→Q .normal a w) :
  ∀(fuel:Nat) (listed:Array Bool) (a:Act) (w:World),listed.size=l.length→JJ c l L0 J listed a w →
   (∀(k:Nat) (o:Oper) (i:Nat),listed.getD k false=true→l[k]?=some o→bindsOn o i=true→listed.getD i false=true) →
   ((List.range l.length).filter fun k=>!listed.getD k false).length≤fuel→wpAnyIn (FW c.ro) 1 c.P .any l.toArray Q fuel listed a w:=by
 have hdspec:=dstB_spec hdst
 have hset:∀(listed:Array Bool) (i k:Nat),listed.size=l.length→k < l.length→(listed.setIfInBounds i true).getD k false=if k=i then true else listed.getD k false:=by
  intro listed i k hs hk
  by_cases h:k=i
  ·subst h;simp [Array.getD,hs,hk]
  rw [if_neg h];simp [Array.getD,hs,hk,Ne.symm h]
 have hall:∀(listed:Array Bool) (a:Act) (w:World),listed.size=l.length→JJ c l L0 J listed a w→(∀k,k < l.length→listed.getD k false=true)→Q .normal a w:=by
  rintro listed a w hs ⟨σ,bs,hP,hS,hst,hv⟩ hl
  refine hfin a w σ bs hP hS (fun k hk=>(hst k hk).1 (hl k hk)) fun k o d hk hd=>?_
  obtain ⟨v,hkv⟩:=(hst k (List.getElem?_eq_some_iff.1 hk).1).1 (hl k (List.getElem?_eq_some_iff.1 hk).1)
  rw [hv k o d v hkv hk hd,As.val,hkv];rfl
 intro fuel
 induction fuel with
 | zero =>
  intro listed a w hs hJ hcl hf
  have hnone:∀k,k < l.length→listed.getD k false=true:=by
   intro k hk
   cases hh:listed.getD k false with
   | true=>rfl
   | false =>
    have:k∈(List.range l.length).filter fun k=>!listed.getD k false:=by simp [hk];simpa using hh
    have h0:((List.range l.length).filter fun k=>!listed.getD k false)=[]:=List.eq_nil_of_length_eq_zero (by omega)
    rw [h0] at this;cases this
  refine ⟨?_,hall listed a w hs hJ hnone⟩
  cases hr:Region.ready .any l.toArray listed with
  | nil=>rfl
  | cons i r =>
   obtain ⟨h1,o,h2,h3⟩:=mem_ready.1 (by rw [hr];simp:i∈Region.ready .any l.toArray listed)
   have hi:i < l.length:=(List.getElem?_eq_some_iff.1 (by simpa using h2)).1
   have:=hnone i hi
   simp [Array.getD,hs,hi] at this h1;rw [this] at h1;cases h1
 | succ fuel ih =>
  intro listed a w hs hJ hcl hf
  refine ⟨fun h0=>hall listed a w hs hJ fun k hk=>?_,fun i hi=>?_⟩
  ·refine Nat.strongRecOn k (motive:=fun k=>k < l.length→listed.getD k false=true) (fun k ihk hk=>?_) hk
   cases hh:listed.getD k false with
   | true=>rfl
   | false =>
    have:k∈Region.ready .any l.toArray listed:=by
     refine mem_ready.2 ⟨by simp [Array.getD,hs,hk] at hh ⊢;exact hh,l[k],by simp [hk],fun e he hb=>?_⟩
     have:=backB_spec hback k l[k] (by simp [hk]) e he hb
     exact ihk e.on (by omega) (by omega)
    rw [h0] at this;cases this
  obtain ⟨h1,o,h2,h3⟩:=mem_ready.1 hi
  have ho:l[i]?=some o:=by simpa using h2
  have hil:i < l.length:=(List.getElem?_eq_some_iff.1 ho).1
  have hun:listed.getD i false=false:=by simp [Array.getD,hs,hil] at h1 ⊢;exact h1
  have hpre:∀m,bindsOn o m=true→listed.getD m false=true:=fun m hm=>by
   obtain ⟨e,he,hb,rfl⟩:=bindsOn_iff.1 hm;exact h3 e he hb
  obtain ⟨σ,bs,hP,hS,hst,hv⟩:=hJ
  have hno:∀k,k < l.length→listed.getD k false=false→σ k=none:=fun k hk hf=>by
   cases hc:σ k with
   | none=>rfl
   | some v=>have:=(hst k hk).2 ⟨v,hc⟩;rw [hf] at this;cases this
  obtain ⟨Lk,hLk,hto⟩:=hop i o ho σ bs hP (hno i hil hun) (fun m hm hb=>(hst m hm).1 (hpre m hb)) (fun m o' hm hb=>by
   refine hno m (List.getElem?_eq_some_iff.1 hm).1 ?_
   cases hc:listed.getD m false with
   | false=>rfl
   | true=>have:=hcl m o' i hc hm hb;rw [hun] at this;cases this)
  have hSk:=lk_sat hS (fun m om d hb hm hd=>by
   obtain ⟨v,hmv⟩:=(hst m (List.getElem?_eq_some_iff.1 hm).1).1 (hpre m hb)
   rw [hv m om d v hmv hm hd,As.val,hmv];rfl) hLk
  have hgo:=hto a w hSk
  have hK:∀u w' v bs',J (σ.set i v) bs'→Sat c (putS [] o.dst v) ⟨bs',[]⟩ (a.put o.dst u) w'→wpAnyIn (FW c.ro) 1 c.P .any l.toArray Q fuel (listed.setIfInBounds i true) (a.put o.dst u) w':=by
   intro u w' v bs' hP' hS'
   have hkeep:∀t,o.dst≠some t→(a.put o.dst u).tmps.getD t undef=a.tmps.getD t undef:=by
    intro t ht
    cases hd:o.dst with
    | none=>rfl
    | some d =>
     have hne:d≠t:=fun e=>ht (by rw [hd,e])
     show (a.tmps.setIfInBounds d u).getD t undef=_
     simp only [Array.getD,Array.size_setIfInBounds]
     split
     ·rename_i ht';exact Array.getElem_setIfInBounds_ne ht' hne
     rfl
   refine ih _ _ _ (by simpa using hs) ⟨σ.set i v,bs',hP',⟨hS'.size,hS'.defers,fun t v hl=>?_,hS'.ext,hS'.nodup,hS'.heap,hS'.own⟩,?_,?_⟩ ?_ ?_
   ·rw [hkeep t (fun hd=>?_)]
    ·exact hS.slots t v hl
    have:=(hdspec.1 i o t ho hd).1
    exact hasKey_none this t hl rfl
   ·intro k hk
    rw [hset listed i k hs hk]
    unfold As.set
    by_cases h:k=i
    ·rw [if_pos h,if_pos h];exact ⟨fun _=>⟨v,rfl⟩,fun _=>rfl⟩
    rw [if_neg h,if_neg h];exact hst k hk
   ·intro k o' d v' hk hl hd
    unfold As.set at hk
    by_cases hki:k=i
    ·rw [if_pos hki] at hk;cases hk
     subst hki
     rw [ho] at hl;cases hl
     refine hS'.slots d _ ?_
     rw [hd];simp [putS,look]
    rw [if_neg hki] at hk
    rw [hkeep d (fun hd'=>hki (hdspec.2 k i o' o d hl ho hd hd'))]
    exact hv k o' d v' hk hl hd
   ·intro k o' m hl hk hb
    have hkl:k < l.length:=(List.getElem?_eq_some_iff.1 hk).1
    obtain ⟨e,he,hbe,hem⟩:=bindsOn_iff.1 hb
    have hml:m < l.length:=by have:=backB_spec hback k o' hk e he hbe;omega
    rw [hset listed i k hs hkl] at hl
    rw [hset listed i m hs hml]
    by_cases hmi:m=i
    ·rw [if_pos hmi]
    rw [if_neg hmi]
    by_cases hki:k=i
    ·subst hki;rw [ho] at hk;cases hk;exact hpre m hb
    rw [if_neg hki] at hl;exact hcl k o' m hl hk hb
   have hsub:((List.range l.length).filter fun k=>!(listed.setIfInBounds i true).getD k false)=(((List.range l.length).filter fun k=>!listed.getD k false).filter (· != i)):=by
    rw [List.filter_filter]
    apply List.filter_congr
    intro k hk
    have hk':k < l.length:=by simpa using hk
    rw [hset listed i k hs hk']
    by_cases h:k=i
    ·subst h;simp
    simp [h]
   rw [hsub]
   have hmem:i∈(List.range l.length).filter fun k=>!listed.getD k false:=by simp [hil];simpa using hun
   have h1:=List.length_filter_le (· != i) ((List.range l.length).filter fun k=>!listed.getD k false)
   rcases Nat.lt_or_ge (((List.range l.length).filter fun k=>!listed.getD k false).filter (· != i)).length ((List.range l.length).filter fun k=>!listed.getD k false).length with h | h
   ·omega
   have heq:=Nat.le_antisymm h1 h
   have:=List.length_filter_eq_length_iff.1 heq i hmem
   simp at this
  unfold wpOpIn
  simp only [h2]
  unfold wpListIn at hgo
  split
  ·rename_i hw
   rw [if_pos hw] at hgo
   exact eff_uponV (c:=c) hgo hK (hnd o (List.mem_of_getElem? ho)) hS.defers
  rename_i hw
  rw [if_neg hw] at hgo
  obtain ⟨hab,v,bs',h1',h2'⟩:=hgo
  exact ⟨hab,hK undef w v bs' h1' h2'⟩
inductive DsA (l:List Oper) (σ:As):Slots→Prop
 | nil:DsA l σ []
 | cons {t:Nat} {u:Value} {ds:Slots} (j:Nat) (hd:(l[j]?).bind (·.dst)=some t) (hv:σ.val j=u) (r:DsA l σ ds):DsA l σ ((t,u)::ds)
theorem DsA.look_ok {σ:As} {a:Act} (hA:∀(j:Nat) (oj:Oper) (d:Nat),l[j]?=some oj→oj.dst=some d→a.tmps.getD d undef=σ.val j):∀{ds:Slots},DsA l σ ds→∀{t:Nat} {v:Value},look ds t=some v→a.tmps.getD t undef=v
 | _,.nil,t,v,h=>by simp [look] at h
 | _,@DsA.cons _ _ t' u ds j hdj hv r,t,v,hl=>by
  simp only [look] at hl
  cases hb:Nat.beq t' t with
  | true =>
   rw [hb] at hl;have:=Nat.eq_of_beq_eq_true hb;subst this;cases hl
   cases hj:l[j]? with
   | none=>simp [hj] at hdj
   | some oj=>simp [hj] at hdj;rw [hA j oj t' hj hdj,hv]
  | false=>rw [hb] at hl;exact r.look_ok hA hl
theorem TC.drawJ {id:Nat} {bs:Blocks} (hm:c.P.follows .mixedOrders=true) (J:As→Blocks→Prop) (hb:backB l 0=true)
  (hd:dstB L0 l []=true) (hok:okAll c.n l=true) (hnd:ndAll l=true) (hP:J (fun _=>none) bs) (hq:∀(k:Nat) (o:Oper),l[k]?=some o→OpJ c l L0 J k o)
  (h:∀σ bs',J σ bs'→(∀k,k < l.length→∃v,σ k=some v)→∃ds,DsA l σ ds∧TE Q .normal c (ds++L0) ⟨bs',[]⟩):TC c (.region id l.toArray true) Q L0 ⟨bs,[]⟩:=by
 intro a w s
 refine wpIn_region_any hm ?_
 have s1:Sat c L0 ⟨bs,[]⟩ a { w with drawn:=w.drawn+1 }:=⟨s.size,s.defers,s.slots,⟨s.ext.os,s.ext.tape,s.ext.output,s.ext.size,s.ext.same⟩,s.nodup,s.heap,s.own⟩
 have hfalse:∀k,(Array.replicate l.toArray.size false).getD k false=false:=by intro k;simp [Array.getD]
 refine drawJ_any (J:=J) hb hd (fun k o d hk ho=>okAll_spec hok k o d hk ho) (ndAll_spec hnd) hq ?_ _ _ _ _ (by simp) ⟨fun _=>none,bs,hP,s1,fun k hk=>⟨fun h=>(by rw [hfalse] at h;cases h),fun ⟨v,h⟩=>by cases h⟩,fun k o d v hl=>by cases hl⟩
  (fun k o i hl=>by rw [hfalse] at hl;cases hl) (Nat.le_trans (List.length_filter_le _ _) (by simp))
 intro a' w' σ bs' hP' hS' hall hv
 obtain ⟨ds,hds,hte⟩:=h σ bs' hP' hall
 refine hte a' w' ⟨hS'.size,hS'.defers,fun t v hl=>?_,hS'.ext,hS'.nodup,hS'.heap,hS'.own⟩
 rcases look_append hl with hl' | hl'
 ·exact hds.look_ok hv hl'
 exact hS'.slots t v hl'
end
section
variable {c:Cx} {Q:Exit→Act→World→Prop} {L0:Slots}
def One (c:Cx) (l:List Oper) (L0:Slots) (W:Nat→Nat→Prop) (R:Nat→Value→Blocks→Prop) (s:Nat) (Post:Blocks→Prop) (bs0:Blocks) (k:Nat) (o:Oper):Prop :=
 ∀bs (V:Nat→Value),MS bs0 bs W→(∀m,m < l.length→bindsOn o m=true→R m (V m) bs) →
  ∃Lk,LkOk l.toArray L0 V o Lk∧TO c l.toArray (EffV c (fun v bs'=>(k=s→Post bs')∧(k≠s→MS bs bs' W∧R k v bs')) o.dst) [o] Lk ⟨bs,[]⟩
inductive OpM (c:Cx) (l:List Oper) (L0:Slots) (W:Nat→Nat→Prop) (R:Nat→Value→Blocks→Prop) (s:Nat) (Post:Blocks→Prop) (bs0:Blocks):Nat→List Oper→Prop
 | nil {k:Nat}:OpM c l L0 W R s Post bs0 k []
 | cons {k:Nat} {o:Oper} {os:List Oper} (h:One c l L0 W R s Post bs0 k o) (r:OpM c l L0 W R s Post bs0 (k+1) os):OpM c l L0 W R s Post bs0 k (o::os)
theorem OpM.at {l:List Oper} {W:Nat→Nat→Prop} {R:Nat→Value→Blocks→Prop} {s:Nat} {Post:Blocks→Prop} {bs0:Blocks}:∀{k:Nat} {os:List Oper},OpM c l L0 W R s Post bs0 k os→∀(i:Nat) (o:Oper),os[i]?=some o→One c l L0 W R s Post bs0 (k+i) o
 | _,_,.nil,i,o,h=>by simp at h
 | _,_,.cons h r,i,o,hi=>by
  cases i with
  | zero=>simp at hi;subst hi;exact h
  | succ i=>have:=r.at i o (by simpa using hi);rwa [show ∀k:Nat,k+1+i=k+(i+1) from fun k=>by omega] at this
def lastB (l:List Oper) (s:Nat):Bool:=match l[s]? with
 | none=>true
 | some o=>(List.range l.length).all fun k=>Nat.beq k s||bindsOn o k
def dlB (l:List Oper) (dl:List (Nat×Nat)):Bool:=dl.all fun p=>match (l[p.2]?).bind (·.dst) with
 | some t=>Nat.beq t p.1&&Nat.blt p.2 l.length
 | none=>false
theorem dlB_spec {l:List Oper} {σ:As}:∀{dl:List (Nat×Nat)},dlB l dl=true→DsA l σ (dl.map fun p=>(p.1,σ.val p.2))
 | [],_=>.nil
 | p::dl,h=>by
  have h2:dlB l dl=true:=by unfold dlB at h ⊢;rw [List.all_cons,Bool.and_eq_true] at h;exact h.2
  refine .cons p.2 ?_ rfl (dlB_spec h2)
  have h1:(match (l[p.2]?).bind (·.dst) with | some t=>Nat.beq t p.1&&Nat.blt p.2 l.length | none=>false)=true:=by unfold dlB at h;rw [List.all_cons,Bool.and_eq_true] at h;exact h.1
  cases hc:(l[p.2]?).bind (·.dst) with
  | none=>rw [hc] at h1;cases h1
  | some t =>
   rw [hc] at h1
   rw [Bool.and_eq_true] at h1
   rw [Nat.eq_of_beq_eq_true h1.1]
theorem TO.effMono {l:List Oper} {o:Oper} {Lk:Slots} {bs:Blocks} {P1 P2:Value→Blocks→Prop} (hnd:notDefer o.op=true) (hp:∀v b,P1 v b→P2 v b) (h:TO c l.toArray (EffV c P1 o.dst) [o] Lk ⟨bs,[]⟩):TO c l.toArray (EffV c P2 o.dst) [o] Lk ⟨bs,[]⟩:=by
 intro a w s
 have hgo:=h a w s
 unfold wpListIn at hgo ⊢
 split
 ·rename_i hw
  rw [if_pos hw] at hgo
  exact eff_uponV (c:=c) hgo (fun u w' v b h1 h2=>⟨v,b,hp v b h1,h2⟩) hnd s.defers
 rename_i hw
 rw [if_neg hw] at hgo
 obtain ⟨hab,v,b,h1,h2⟩:=hgo
 exact ⟨hab,v,b,hp v b h1,h2⟩
theorem TC.drawM {id:Nat} {l:List Oper} {bs:Blocks} (hm:c.P.follows .mixedOrders=true) (W:Nat→Nat→Prop) (R:Nat→Value→Blocks→Prop) (s:Nat) (Post:Blocks→Prop) (dl:List (Nat×Nat))
  (hst:∀k v bs bs',MS bs bs' W→R k v bs→R k v bs') (hb:backB l 0=true)
  (hd:dstB L0 l []=true) (hok:okAll c.n l=true) (hnd:ndAll l=true) (hs:lastB l s=true) (hdl:dlB l dl=true) (hq:OpM c l L0 W R s Post bs 0 l)
  (h:∀bs' (V:Nat→Value),(s < l.length→Post bs')→(l.length≤s→MS bs bs' W∧∀k,k < l.length→R k (V k) bs')→TE Q .normal c (dl.map (fun p=>(p.1,V p.2))++L0) ⟨bs',[]⟩):TC c (.region id l.toArray true) Q L0 ⟨bs,[]⟩:=by
 have hop:∀(k:Nat) (o:Oper),l[k]?=some o→One c l L0 W R s Post bs k o:=fun k o hk=>by have:=hq.at k o hk;rwa [Nat.zero_add] at this
 refine TC.drawJ hm (fun σ b=>(∀k v,σ k=some v→k < l.length)∧(σ s=none→MS bs b W∧∀k v,σ k=some v→R k v b)∧(∀v,σ s=some v→Post b)) hb hd hok hnd ⟨fun k v h=>(by cases h),fun _=>⟨.refl _ _,fun k v h=>(by cases h)⟩,fun v h=>(by cases h)⟩ (fun k o hk σ b hJ hn hpre hpost=>?_) (fun σ b hJ hall=>⟨_,dlB_spec hdl,?_⟩)
 ·have hkl:=(List.getElem?_eq_some_iff.1 hk).1
  have hsn:σ s=none:=by
   by_cases e:k=s
   ·rw [← e];exact hn
   cases hc:l[s]? with
   | none =>
    cases hv:σ s with
    | none=>rfl
    | some v=>have:=hJ.1 s v hv;rw [List.getElem?_eq_none_iff] at hc;omega
   | some o' =>
    refine hpost s o' hc ?_
    unfold lastB at hs
    rw [hc] at hs
    have:=List.all_eq_true.1 hs k (by simpa using hkl)
    rw [Bool.or_eq_true] at this
    rcases this with h1 | h1
    ·exact absurd (Nat.eq_of_beq_eq_true h1) e
    exact h1
  obtain ⟨hms,hR⟩:=hJ.2.1 hsn
  obtain ⟨Lk,hl,hto⟩:=hop k o hk b σ.val hms (fun m hml hbm=>by
   obtain ⟨v,hv⟩:=hpre m hml hbm
   rw [As.val,hv];exact hR m v hv)
  refine ⟨Lk,hl,?_⟩
  have hmono:∀v bs',((k=s→Post bs')∧(k≠s→MS b bs' W∧R k v bs'))→((∀i u,σ.set k v i=some u→i < l.length)∧(σ.set k v s=none→MS bs bs' W∧∀i u,σ.set k v i=some u→R i u bs')∧(∀u,σ.set k v s=some u→Post bs')):=by
   intro v bs' hp
   refine ⟨fun i u hi=>?_,fun hi=>?_,fun u hu=>?_⟩
   ·unfold As.set at hi
    by_cases e:i=k
    ·rw [e];exact hkl
    rw [if_neg e] at hi;exact hJ.1 i u hi
   ·unfold As.set at hi
    by_cases e:s=k
    ·rw [if_pos e] at hi;cases hi
    obtain ⟨h1,h2⟩:=hp.2 (fun q=>e q.symm)
    refine ⟨hms.trans h1,fun i u hu=>?_⟩
    unfold As.set at hu
    by_cases e2:i=k
    ·rw [if_pos e2] at hu;cases hu;rw [e2];exact h2
    rw [if_neg e2] at hu;exact hst i u b bs' h1 (hR i u hu)
   unfold As.set at hu
   by_cases e:s=k
   ·exact hp.1 e.symm
   rw [if_neg e,hsn] at hu;cases hu
  exact TO.effMono (ndAll_spec hnd o (List.mem_of_getElem? hk)) hmono hto
 refine h b σ.val (fun hl=>?_) (fun hl=>?_)
 ·obtain ⟨v,hv⟩:=hall s hl
  exact hJ.2.2 v hv
 have hsn:σ s=none:=by
  cases hv:σ s with
  | none=>rfl
  | some v=>have:=hJ.1 s v hv;omega
 obtain ⟨h1,h2⟩:=hJ.2.1 hsn
 refine ⟨h1,fun k hk=>?_⟩
 obtain ⟨v,hv⟩:=hall k hk
 rw [As.val,hv];exact h2 k v hv
end
section
variable {c:Cx} {ops:Array Oper} {Q:Exit→Act→World→Prop} {rest:List Oper} {L:Slots} {H:Hp} {bs:Blocks}
variable {d:Nat} {T:TypeId} {pos:String} {af:Array Edge} {g:Option (Nat×Bool)}
theorem TX.callM {k:FuncId} {vs:List Value} {args:List Operand} {ats:Array TypeId} (post:Value→Blocks→Prop)
  (hk:∀(args:Array Value) (w:World),(callFunc k args).run c.P w=.ok (.enter k args) w)
  (ha:evs L args=some vs) (hc:∀w,(bs.map (·.1)).Nodup→(∀p∈bs,w.heap[p.1]?=some p.2)→Ret c.P k vs w ⟨bs,[]⟩ fun v R=>∃bs',R=⟨bs',[]⟩∧post v bs') (hd:Nat.blt d c.n=true)
  (h:∀v bs',post v bs'→TO c ops Q rest ((d,v)::L) ⟨bs',[]⟩):TX c ops Q ⟨some d,.call ⟨.value (.func k),args.toArray,ats⟩,T,pos,af,g⟩ rest L ⟨bs,[]⟩:=by
 refine TX.call (fi:=[]) (ca:=[]) ⟨bs,[]⟩ Hp.nil (fun v R=>∃bs',R=⟨bs',[]⟩∧post v bs') hk rfl ha (by simp [Hp.all,Hp.add]) (fun a w s=>by
  have hp:=Hp.add_perm (⟨bs,[]⟩:Hp) Hp.nil
  have hall:((⟨bs,[]⟩:Hp).add Hp.nil).all=bs:=by simp [Hp.all,Hp.add]
  have:=hc w (by have:=s.nodup;rwa [hall] at this) (fun p hp=>s.heap p (by rw [hall];exact hp))
  simpa using this) hd ?_
 rintro v R ⟨bs',rfl,hp⟩
 have:=h v bs' hp
 have e:((⟨bs',[]⟩:Hp).add Hp.nil)=⟨bs',[]⟩:=by simp [Hp.add]
 rw [e];exact this
theorem TX.callN {k:FuncId} {vs:List Value} {args:List Operand} {ats:Array TypeId} (post:Value→Blocks→Prop)
  (hk:∀(args:Array Value) (w:World),(callFunc k args).run c.P w=.ok (.enter k args) w)
  (ha:evs L args=some vs) (hc:∀w,Ret c.P k vs w Hp.nil fun v R=>post v R.all) (hd:Nat.blt d c.n=true)
  (h:∀v nw,post v nw→(∀p∈nw,p.1∉ids bs)→TO c ops Q rest ((d,v)::L) ⟨nw++bs,[]⟩):TX c ops Q ⟨some d,.call ⟨.value (.func k),args.toArray,ats⟩,T,pos,af,g⟩ rest L ⟨bs,[]⟩:=by
 refine TX.call (fi:=[]) (ca:=[]) Hp.nil ⟨bs,[]⟩ (fun v R=>post v R.all) hk rfl ha (by simp [Hp.all,Hp.add]) (fun a w s=>by simpa using hc w) hd ?_
 intro v R hp a w s
 have hpm:((R.add ⟨bs,[]⟩).all).Perm ((⟨R.all++bs,[]⟩:Hp).all):=by
  refine (Hp.add_perm R ⟨bs,[]⟩).trans ?_
  rw [mall,mall]
 have s2:=s.perm hpm.symm
 refine h v R.all hp (fun p hpm2 hin=>?_) a w s2
 have hnd:=s2.nodup
 rw [mall,List.map_append,List.nodup_append] at hnd
 exact hnd.2.2 p.1 (List.mem_map.2 ⟨p,hpm2,rfl⟩) p.1 hin rfl
theorem app_ms {bs nw:Blocks} {W:Nat→Nat→Prop}:MS bs (nw++bs) W:=by
 refine ⟨fun x hx=>?_,?_,?_⟩
 ·unfold ids;rw [List.map_append];exact List.mem_append_right _ hx
 ·rintro x i v ⟨lx,Tx,fx,hx,hv⟩ _
  exact ⟨lx,Tx,fx,List.mem_append_right _ hx,hv⟩
 rintro x Tx k ⟨lx,fx,hx,hf,hs⟩
 exact ⟨lx,fx,List.mem_append_right _ hx,hf,hs⟩
theorem QV.neF {xT yT:TypeId} {x y:Operand} {k:IntKind} {m:Int} (hx:ev L x=some (.int k m)) (hy:ev L y=some (.int k m)):QV c ⟨some d,.binOp .neq xT x y yT,T,pos,af,g⟩ L H (.bool false):=by
 have:=QV.ibin (c:=c) (H:=H) (d:=d) (T:=T) (pos:=pos) (af:=af) (g:=g) (xT:=xT) (yT:=yT) (op:=.neq) (v:=.bool (m != m)) rfl hx hy
 rwa [bne_self_eq_false] at this
theorem TX.neF {xT yT:TypeId} {x y:Operand} {k:IntKind} {m:Int} (hx:ev L x=some (.int k m)) (hy:ev L y=some (.int k m)) (hd:Nat.blt d c.n=true) (h:TO c ops Q rest ((d,.bool false)::L) H):TX c ops Q ⟨some d,.binOp .neq xT x y yT,T,pos,af,g⟩ rest L H:=TX.val hd (QV.neF hx hy) h
end
end Go.HW
namespace Go.Proofs.YteicbpfkljnemaaGreat
open Go Go.HW Fl
def mtx (a b:Nat):List Int:=numsOf (fn91 (a:Int) (b:Int))
theorem fn91_size (a b:Int):(fn91 a b).size=8:=by
 unfold fn91 strOfNums
 first | rfl | simp
theorem mtx_len (a b:Nat):(mtx a b).length=8:=by unfold mtx;rw [numsOf_length,fn91_size]
theorem fn92_eq (a b:Nat):fn92 (a:Int) (b:Int)=some (mtx a b):=by
 unfold fn92 mtx
 rw [fn91_size];rfl
def mtv (a b t:Nat):Value:=.int .u8 ((mtx a b).getD t 0)
def MB (bs:Blocks) (q a b:Nat):Prop:=∀t,t < 8→Cell bs q t (mtv a b t)
theorem MB.id {bs:Blocks} {q a b:Nat} (h:MB bs q a b):q∈ids bs:=(h 0 (by omega)).id
theorem MB.step {bs bs':Blocks} {W:Nat→Nat→Prop} {q a b:Nat} (h:MB bs q a b) (ms:MS bs bs' W) (hw:∀i,¬W q i):MB bs' q a b:=fun t ht=>ms.keep _ _ _ (h t ht) (hw t)
theorem c92r (a b:Nat) (w:World):Ret Tryz.prog 92 [.int .i64 (a:Int),.int .i64 (b:Int)] w Hp.nil fun v R=>∃q cap,v=.slice (some ⟨q,0,none⟩) 8 cap∧MB R.all q a b:=by
 have h:=c92 (a:Int) (b:Int) _ (fn92_eq a b)
 have h2:=h w (fun _=>none) [] _ (dens_v [_,_]) rfl (fun _ _=>rfl) (fun p hp=>by simp at hp) (by simp) (fun _ _=>trivial)
 refine Ret.mono h2 ?_
 rintro v R ⟨c,ρ',F',rfl,_,hv,f,F2,rfl,hr,hF⟩
 have hF:F2=[]:=hF
 subst hF
 obtain ⟨sp,cap,hsp,hlen,ho,_⟩:=hr
 rw [SV.den,hsp] at hv
 have hv:=Option.some.inj hv
 subst hv
 have hl:=mtx_len a b
 rcases ho with ⟨_,_,hc,_⟩ | ⟨g,cur,rfl,⟨fz,hnf,rfl⟩,h1,h2,h3,h4⟩
 ·rw [hc] at hl;cases hl
 refine ⟨g,cap,by rw [hl],fun t ht=>⟨cur,5,fz,by simp [Hp.all],?_⟩⟩
 have h5:(cur.toList.take ((mtx a b).length * 1))[t]?=some (mtv a b t):=by
  have:cur.toList.take ((mtx a b).length * 1)=(mtx a b).flatMap (Et.int .u8).toEn.enc:=h4
  rw [this]
  have e:∀l:List Int,l.flatMap (Et.int .u8).toEn.enc=l.map fun x=>Value.int .u8 x:=fun l=>by
   induction l with
   | nil=>rfl
   | cons a l ih=>rw [List.flatMap_cons,ih];rfl
  rw [e,List.getElem?_map]
  unfold mtv
  rw [List.getD_eq_getElem?_getD]
  have:t < (mtx a b).length:=by omega
  simp [this]
 rw [List.getElem?_take] at h5
 split at h5
 ·simpa using h5
 cases h5
section
variable {b0:Blocks} {R A:Nat} {bk:Nat→Option Nat} {nn cc:Nat→Nat} {φ φ':Nat→Option Nat} {bs bs':Blocks} {W:Nat→Nat→Prop}
structure Fy (b0:Blocks) (R A:Nat) (bk:Nat→Option Nat) (nn cc:Nat→Nat) (φ:Nat→Option Nat) (bs:Blocks):Prop where
 a:φ A=some (R+1)
 hd:∀k,k < R→Cell bs A k (hdr bk nn cc k)
 bl:∀k,k < R→∀b,bk k=some b→φ b=some k∧HasB bs b 36 (cc k)∧nn k≤cc k
 no:∀k,k < R→bk k=none→nn k=0∧cc k=0
 sm:R≤1000000∧∀k,k < R→nn k≤1000000
 z:MS b0 bs (fun b _=>∃k,k < R∧bk k=some b)∧∀b∈ids b0,(∃k,k < R∧bk k=some b)∨φ b=some (R+1)
theorem Fy.step (h:Fy b0 R A bk nn cc φ bs) (ms:MS bs bs' W) (hw:∀b i,W b i→φ b≠some (R+1)):Fy b0 R A bk nn cc φ bs' :=
 ⟨h.a,fun k hk=>ms.keep _ _ _ (h.hd k hk) fun q=>hw _ _ q h.a,fun k hk b hb=>⟨(h.bl k hk b hb).1,ms.blk _ _ _ (h.bl k hk b hb).2.1,(h.bl k hk b hb).2.2⟩,h.no,h.sm,h.z.1.then ms (fun b i q hb=>(h.z.2 b hb).resolve_right (hw b i q)),h.z.2⟩
theorem Fy.phi (h:Fy b0 R A bk nn cc φ bs) (hR:0 < R) (hp:∀b∈ids bs,φ' b=φ b):Fy b0 R A bk nn cc φ' bs :=
 ⟨by rw [hp _ (h.hd 0 hR).id];exact h.a,h.hd,fun k hk b hb=>⟨by rw [hp _ (h.bl k hk b hb).2.1.id];exact (h.bl k hk b hb).1,(h.bl k hk b hb).2⟩,h.no,h.sm,h.z.1,fun b hb=>by rw [hp _ (h.z.1.ids b hb)];exact h.z.2 b hb⟩
def MC (R:Nat) (φ:Nat→Option Nat) (bs:Blocks) (b j k i:Nat):Prop:=∃q cap,Cell bs b j (.slice (some ⟨q,0,none⟩) 8 cap)∧φ q=some (R+3)∧MB bs q k i
theorem MC.step {b j k i:Nat} (h:MC R φ bs b j k i) (ms:MS bs bs' W) (hw:¬W b j) (hw3:∀b i,W b i→φ b≠some (R+3)):MC R φ bs' b j k i:=by
 obtain ⟨q,cap,h1,h2,h3⟩:=h
 exact ⟨q,cap,ms.keep _ _ _ h1 hw,h2,h3.step ms fun i hi=>hw3 _ _ hi h2⟩
theorem MC.phi {b j k i:Nat} (h:MC R φ bs b j k i) (hp:∀b∈ids bs,φ' b=φ b):MC R φ' bs b j k i:=by
 obtain ⟨q,cap,h1,h2,h3⟩:=h
 exact ⟨q,cap,h1,by rw [hp _ h3.id];exact h2,h3⟩
def RowY (R:Nat) (φ:Nat→Option Nat) (bk:Nat→Option Nat) (bs:Blocks) (k m:Nat):Prop:=∀b,bk k=some b→∀i,i < m→MC R φ bs b i k i
theorem RowY.step {k m:Nat} (h:RowY R φ bk bs k m) (ms:MS bs bs' W) (hw:∀b i,bk k=some b→W b i→m≤i) (hw3:∀b i,W b i→φ b≠some (R+3)):RowY R φ bk bs' k m:=fun b hb i hi=>(h b hb i hi).step ms (fun q=>by have:=hw b i hb q;omega) hw3
theorem RowY.phi {k m:Nat} (h:RowY R φ bk bs k m) (hp:∀b∈ids bs,φ' b=φ b):RowY R φ' bk bs k m:=fun b hb i hi=>(h b hb i hi).phi hp
structure Gy (R:Nat) (nn:Nat→Nat) (φ:Nat→Option Nat) (bs:Blocks) (G k:Nat) (m:Nat→Nat):Prop where
 g:φ G=some (R+2)
 hb:HasB bs G 44 R
 rw_:∀j,j < k→∃b c,Cell bs G j (.slice (some ⟨b,0,none⟩) (nn j+64) c)∧φ b=some j∧b∈ids bs∧∀i,i < m j→MC R φ bs b i j i
theorem Gy.step {G k:Nat} {m:Nat→Nat} (h:Gy R nn φ bs G k m) (ms:MS bs bs' W) (hw:∀b i,W b i→φ b≠some (R+2)∧∀j,j < k→φ b=some j→m j≤i) (hw3:∀b i,W b i→φ b≠some (R+3)):Gy R nn φ bs' G k m :=
 ⟨h.g,ms.blk _ _ _ h.hb,fun j hj=>by
  obtain ⟨b,c,h1,h2,h3,h4⟩:=h.rw_ j hj
  exact ⟨b,c,ms.keep _ _ _ h1 fun q=>(hw _ _ q).1 h.g,h2,ms.ids _ h3,fun i hi=>(h4 i hi).step ms (fun q=>by have:=(hw _ _ q).2 j hj h2;omega) hw3⟩⟩
theorem Gy.phi {G k:Nat} {m:Nat→Nat} (h:Gy R nn φ bs G k m) (hp:∀b∈ids bs,φ' b=φ b):Gy R nn φ' bs G k m :=
 ⟨by rw [hp _ h.hb.id];exact h.g,h.hb,fun j hj=>by
  obtain ⟨b,c,h1,h2,h3,h4⟩:=h.rw_ j hj
  exact ⟨b,c,h1,by rw [hp _ h3];exact h2,h3,fun i hi=>(h4 i hi).phi hp⟩⟩
theorem Gy.less {G k:Nat} {m m':Nat→Nat} (h:Gy R nn φ bs G k m) (hm:∀j,m' j≤m j):Gy R nn φ bs G k m' :=
 ⟨h.g,h.hb,fun j hj=>by
  obtain ⟨b,c,h1,h2,h3,h4⟩:=h.rw_ j hj
  exact ⟨b,c,h1,h2,h3,fun i hi=>h4 i (by have:=hm j;omega)⟩⟩
theorem Gy.put {G k b c:Nat} {m:Nat→Nat} {n:Nat} (h:Gy R nn φ bs G n m) (hkn:k≤n) (ms:MS bs bs' (fun b' i'=>b'=G∧i'=k)) (hc:Cell bs' G k (.slice (some ⟨b,0,none⟩) (nn k+64) c)) (hb:φ b=some k) (hbi:b∈ids bs) (hm:∀i,i < m k→MC R φ bs b i k i) (hbG:b≠G) (n':Nat) (hn':n'=max n (k+1)) (hR:n'≤R):Gy R nn φ bs' G n' m:=by
 have hw3:∀b i,(b=G∧i=k)→φ b≠some (R+3):=fun b i q=>by rw [q.1,h.g];intro e;have:=Option.some.inj e;omega
 refine ⟨h.g,ms.blk _ _ _ h.hb,fun j hj=>?_⟩
 by_cases e:j=k
 ·subst e
  exact ⟨b,c,hc,hb,ms.ids _ hbi,fun i hi=>(hm i hi).step ms (fun q=>hbG q.1) hw3⟩
 obtain ⟨b2,c2,h1,h2,h3,h4⟩:=h.rw_ j (by omega)
 refine ⟨b2,c2,ms.keep _ _ _ h1 fun q=>e q.2,h2,ms.ids _ h3,fun i hi=>(h4 i hi).step ms (fun q=>?_) hw3⟩
 have:φ G=some j:=by rw [← q.1];exact h2
 rw [h.g] at this
 have:=Option.some.inj this
 omega
def newφ (R:Nat) (bs:Blocks) (φ:Nat→Option Nat):Nat→Option Nat:=fun x=>open Classical in if x∈ids bs then φ x else some (R+3)
theorem newφ_old {R:Nat} {bs:Blocks} {φ:Nat→Option Nat}:∀b∈ids bs,newφ R bs φ b=φ b:=fun b hb=>if_pos hb
theorem newφ_new {R:Nat} {bs:Blocks} {φ:Nat→Option Nat} {q:Nat} (h:q∉ids bs):newφ R bs φ q=some (R+3):=if_neg h
end
end Go.Proofs.YteicbpfkljnemaaGreat
namespace Go.Proofs.YteicbpfkljnemaaGreat
open Go Go.HW Fl
set_option maxRecDepth 40000
theorem c12m {p q cp cq m:Nat} {bs:Blocks} {f:Nat→Int} {w:World} (hm:m≤1000000) (hp:∀i,i < m→Cell bs p i (.int .u8 (f i))) (hq:∀i,i < m→Cell bs q i (.int .u8 (f i))) (hnd:(bs.map (·.1)).Nodup) (hh:∀p∈bs,w.heap[p.1]?=some p.2) :
  Ret Tryz.prog 12 [.slice (some ⟨p,0,none⟩) m cp,.slice (some ⟨q,0,none⟩) m cq] w ⟨bs,[]⟩ (fun v R=>∃bs',R=⟨bs',[]⟩∧v=.bool true∧bs'=bs):=by
 refine Ret.of_body Tryz.func12 rfl Tryz.ntmps12 rfl (fun p hp=>hh p (by rw [mall] at hp;exact hp)) (by rw [mall];exact hnd) ?_
 refine TC.seq (TC.region ?_)
 refine AS ?_
 refine NT ?_
 refine TC.seq ?_
 refine TC.seq (TC.region ?_)
 refine MV ?_
 refine TO.u rfl rfl (TX.lenM Tryz.runUnderlying36 rfl rfl ?_)
 refine MV ?_
 refine TO.u rfl rfl (TX.lenM Tryz.runUnderlying36 rfl rfl ?_)
 refine TO.u rfl rfl (TX.neF rfl rfl rfl ?_)
 refine NT ?_
 refine TC.condF rfl ?_
 refine TC.skip ?_
 refine TE.thenN rfl rfl ?_
 refine TC.seq ?_
 refine TC.seq (TC.region ?_)
 refine AS ?_
 refine NT ?_
 refine TC.block ?_
 refine TC.keep (L':=[(5,.int .i64 ((0:Nat):Int)),(0,.slice (some ⟨p,0,none⟩) m cp),(1,.slice (some ⟨q,0,none⟩) m cq)]) ⟨rfl,rfl,rfl,trivial⟩ ?_
 refine TC.loopN (fun i L H=>L=[(5,.int .i64 (i:Int)),(0,.slice (some ⟨p,0,none⟩) m cp),(1,.slice (some ⟨q,0,none⟩) m cq)]∧H=⟨bs,[]⟩) m (fun K i L H hs hle hn=>?_) ⟨rfl,rfl⟩
 obtain ⟨rfl,rfl⟩:=hs
 refine TC.seq ?_
 refine TC.seq (TC.region ?_)
 refine MV ?_
 refine MV ?_
 refine TO.u rfl rfl (TX.lenM Tryz.runUnderlying36 rfl rfl ?_)
 refine IB ?_
 refine NT ?_
 refine TC.cond rfl (fun hb=>?_) (fun hb=>?_)
 ·have hi:i < m:=by have:=of_decide_eq_true hb;omega
  refine TC.skip ?_
  refine TE.thenN rfl rfl ?_
  refine TC.seq ?_
  refine TC.block ?_
  refine TC.seq ?_
  refine TC.keep (L':=[(5,.int .i64 (i:Int)),(0,.slice (some ⟨p,0,none⟩) m cp),(1,.slice (some ⟨q,0,none⟩) m cq)]) ⟨rfl,rfl,rfl,trivial⟩ ?_
  refine TC.draw hmixM 9 [.slice (some ⟨p,0,none⟩) m cp,.int .i64 (i:Int),.pointer (some ⟨p,i,none⟩),.int .u8 (f i),.slice (some ⟨q,0,none⟩) m cq,.int .i64 (i:Int),.pointer (some ⟨q,i,none⟩),.int .u8 (f i),.bool false] [(25,.bool false)] rfl rfl rfl rfl ?_ (.cons 8 rfl rfl rfl .nil) ?_
  ·refine QAll.u [(0,.slice (some ⟨p,0,none⟩) m cp)] (.old rfl .nil) rfl rfl (QV.move rfl).s rfl ?_
   refine QAll.u [(5,.int .i64 (i:Int))] (.old rfl .nil) rfl rfl (QV.move rfl).s rfl ?_
   refine QAll.u [(17,.slice (some ⟨p,0,none⟩) m cp),(18,.int .i64 (i:Int))] (.dat 0 rfl rfl rfl (.dat 1 rfl rfl rfl .nil)) rfl rfl (QV.ixN Tryz.runUnderlying36 Tryz.sizeOf5 rfl rfl hi).s rfl ?_
   refine QAll.u [(19,.pointer (some ⟨p,i,none⟩))] (.dat 2 rfl rfl rfl .nil) rfl rfl (QV.ldM Tryz.isAgg5 rfl (hp i hi)).s rfl ?_
   refine QAll.u [(1,.slice (some ⟨q,0,none⟩) m cq)] (.old rfl .nil) rfl rfl (QV.move rfl).s rfl ?_
   refine QAll.u [(5,.int .i64 (i:Int))] (.old rfl .nil) rfl rfl (QV.move rfl).s rfl ?_
   refine QAll.u [(21,.slice (some ⟨q,0,none⟩) m cq),(22,.int .i64 (i:Int))] (.dat 4 rfl rfl rfl (.dat 5 rfl rfl rfl .nil)) rfl rfl (QV.ixN Tryz.runUnderlying36 Tryz.sizeOf5 rfl rfl hi).s rfl ?_
   refine QAll.u [(23,.pointer (some ⟨q,i,none⟩))] (.dat 6 rfl rfl rfl .nil) rfl rfl (QV.ldM Tryz.isAgg5 rfl (hq i hi)).s rfl ?_
   refine QAll.u [(20,.int .u8 (f i)),(24,.int .u8 (f i))] (.dat 3 rfl rfl rfl (.dat 7 rfl rfl rfl .nil)) rfl rfl (QV.neF rfl rfl).s rfl ?_
   exact QAll.nil
  refine NT ?_
  refine TC.condF rfl ?_
  refine TC.skip ?_
  refine TE.blockN ?_
  refine TE.thenN rfl rfl ?_
  refine TC.region ?_
  refine MV ?_
  refine IB ?_
  refine AS ?_
  refine TO.nil ?_
  rw [wI (by omega)]
  refine TE.keep (L':=[(5,.int .i64 ((i+1:Nat):Int)),(0,.slice (some ⟨p,0,none⟩) m cp),(1,.slice (some ⟨q,0,none⟩) m cq)]) ⟨rfl,rfl,rfl,trivial⟩ ?_
  exact hn _ _ hi ⟨rfl,rfl⟩
 refine TC.exit ?_
 refine TE.thenX ?_
 refine TE.loopX ?_
 refine TE.blockH ?_
 refine TE.thenN rfl rfl ?_
 refine TC.seq (TC.region ?_)
 refine AS ?_
 refine NT ?_
 refine TC.ret ?_
 exact TE.fin (R:=⟨_,[]⟩) (TL.ret (R':=⟨bs,[]⟩) Tryz.results12 (.cons (.tmp rfl) .nil) (List.Sublist.refl _) ⟨bs,rfl,rfl,rfl⟩)
end Go.Proofs.YteicbpfkljnemaaGreat
namespace Go.Proofs.YteicbpfkljnemaaGreat
open Go Go.HW Fl
inductive RK
 | eq (v:Value)
 | mk (a b:Nat)
abbrev W0:Nat→Nat→Prop:=fun _ _=>False
def RV (ks:List RK) (b0:Blocks) (k:Nat) (v:Value) (bs:Blocks):Prop:=match ks[k]? with
 | some (.eq u)=>v=u
 | some (.mk a b)=>∃q cap,v=.slice (some ⟨q,0,none⟩) 8 cap∧q∉ids b0∧MB bs q a b
 | none=>True
theorem RV.st (ks:List RK) (b0:Blocks):∀k v bs bs',MS bs bs' W0→RV ks b0 k v bs→RV ks b0 k v bs':=by
 intro k v bs bs' ms h
 unfold RV at h ⊢
 split at h
 ·exact h
 ·obtain ⟨q,cap,h1,h2,h3⟩:=h
  exact ⟨q,cap,h1,h2,h3.step ms (fun _ q=>q)⟩
 trivial
theorem RV.ofEq {ks:List RK} {b0:Blocks} {k:Nat} {v:Value} {bs:Blocks} (h:ks[k]?=some (.eq v)):RV ks b0 k v bs:=by unfold RV;rw [h]
theorem RV.toEq {ks:List RK} {b0:Blocks} {k:Nat} {u v:Value} {bs:Blocks} (hr:RV ks b0 k u bs) (h:ks[k]?=some (.eq v)):u=v:=by unfold RV at hr;rw [h] at hr;exact hr
theorem RV.ofMk {ks:List RK} {b0:Blocks} {k a b q cap:Nat} {bs:Blocks} (h:ks[k]?=some (.mk a b)) (h2:q∉ids b0) (h3:MB bs q a b):RV ks b0 k (.slice (some ⟨q,0,none⟩) 8 cap) bs:=by unfold RV;rw [h];exact ⟨q,cap,rfl,h2,h3⟩
theorem RV.toMk {ks:List RK} {b0:Blocks} {k a b:Nat} {u:Value} {bs:Blocks} (hr:RV ks b0 k u bs) (h:ks[k]?=some (.mk a b)):∃q cap,u=.slice (some ⟨q,0,none⟩) 8 cap∧q∉ids b0∧MB bs q a b:=by unfold RV at hr;rw [h] at hr;exact hr
section
variable {c:Cx} {l:List Oper} {L0 Lk:Slots} {ks:List RK} {s k:Nat} {Post:Blocks→Prop} {b0:Blocks} {o:Oper}
def GdOk (l:List Oper) (o:Oper) (Lk:Slots):Prop:=o.guard=none∨∃j b d,o.guard=some (j,b)∧(l[j]?).bind (·.dst)=some d∧Go.HW.look Lk d=some (.bool b)
theorem TO.gd {Q:Exit→Act→World→Prop} {H:Hp} {rest:List Oper} (h:GdOk l o Lk) (hn:notDefer o.op=true) (hx:TX c l.toArray Q o rest Lk H):TO c l.toArray Q (o::rest) Lk H:=by
 rcases h with h | ⟨j,b,d,h1,h2,h3⟩
 ·exact TO.u h hn hx
 exact TO.g h1 (by simpa using h2) h3 hn hx
abbrev HV (l:List Oper) (ks:List RK) (b0:Blocks) (o:Oper) (V:Nat→Value) (bs:Blocks):Prop:=∀m v,Nat.blt m l.length=true→bindsOn o m=true→ks[m]?=some (.eq v)→V m=v
theorem hv_of {V:Nat→Value} {bs:Blocks} (h:∀m,m < l.length→bindsOn o m=true→RV ks b0 m (V m) bs):HV l ks b0 o V bs:=fun m v h1 h2 h3=>(h m (by simpa [Nat.blt_eq] using h1) h2).toEq h3
theorem One.q (Lk:Slots) (v:Value) (hk:ks[k]?=some (.eq v)) (hs:Nat.beq k s=false) (hl:∀V bs,HV l ks b0 o V bs→LkOk l.toArray L0 V o Lk) (hg:GdOk l o Lk) (hn:notDefer o.op=true) (hd:okD c.n o.dst=true) (h:∀bs,MS b0 bs W0→QV c o Lk ⟨bs,[]⟩ v) :
  One c l L0 W0 (RV ks b0) s Post b0 k o:=by
 intro bs V ms hR
 refine ⟨Lk,hl V bs (hv_of hR),TO.gd hg hn (TX.val hd (h bs ms) (TO.nil (TE.effV v ⟨fun e=>?_,fun _=>⟨.refl _ _,RV.ofEq hk⟩⟩ ?_)))⟩
 ·subst e;simp at hs
 cases hd2:o.dst with
 | none=>rw [hd2] at *;trivial
 | some d=>exact ⟨by simp [putS,Go.HW.look],trivial⟩
theorem dt {V:Nat→Value} {bs:Blocks} {t:Nat} {u:Value} {Lk:Slots} (j:Nat) (h:HV l ks b0 o V bs) (r:LkOk l.toArray L0 V o Lk) (he:(o.after.toList.any fun e=>Region.binds .any e&&Nat.beq e.on j)=true:=by rfl) (hd:(l.toArray[j]?).bind (·.dst)=some t:=by rfl) (h1:Nat.blt j l.length=true:=by rfl) (h2:bindsOn o j=true:=by rfl) (h3:ks[j]?=some (.eq u):=by rfl):LkOk l.toArray L0 V o ((t,u)::Lk):=.dat j he hd (h j _ h1 h2 h3) r
theorem Oq (Lk:Slots) (v:Value) (hl:∀V bs,HV l ks b0 o V bs→LkOk l.toArray L0 V o Lk) (h:∀bs,MS b0 bs W0→QV c o Lk ⟨bs,[]⟩ v) (hg:GdOk l o Lk:=by exact .inl rfl) (hk:ks[k]?=some (.eq v):=by rfl) (hs:Nat.beq k s=false:=by rfl) (hn:notDefer o.op=true:=by rfl) (hd:okD c.n o.dst=true:=by rfl) :
  One c l L0 W0 (RV ks b0) s Post b0 k o:=One.q Lk v hk hs hl hg hn hd h
theorem Om (t:Nat) (v:Value) (h:∀bs,MS b0 bs W0→QV c o [(t,v)] ⟨bs,[]⟩ v:=by exact fun bs ms=>QV.move rfl) (h0:Go.HW.look L0 t=some v:=by rfl) (hg:GdOk l o [(t,v)]:=by exact .inl rfl) (hk:ks[k]?=some (.eq v):=by rfl) (hs:Nat.beq k s=false:=by rfl) (hn:notDefer o.op=true:=by rfl) (hd:okD c.n o.dst=true:=by rfl) :
  One c l L0 W0 (RV ks b0) s Post b0 k o:=One.q [(t,v)] v hk hs (fun V bs h=>.old h0 .nil) hg hn hd h
theorem One.skip (Lk:Slots) {j d t:Nat} {b:Bool} (hk:ks[k]?=some (.eq undef)) (hs:Nat.beq k s=false) (hl:∀V bs,HV l ks b0 o V bs→LkOk l.toArray L0 V o Lk) (hg:o.guard=some (j,b)) (hj:(l[j]?).bind (·.dst)=some d) (hx:Go.HW.look Lk d=some undef∨∃b',Go.HW.look Lk d=some (.bool b')∧(b' == b)=false) (hd:o.dst=some t) (hdn:Nat.blt t c.n=true) :
  One c l L0 W0 (RV ks b0) s Post b0 k o:=by
 intro bs V ms hR
 have fin:TO c l.toArray (EffV c (fun v bs'=>(k=s→Post bs')∧(k≠s→MS bs bs' W0∧RV ks b0 k v bs')) o.dst) [] ((t,undef)::Lk) ⟨bs,[]⟩ :=
  TO.nil (TE.effV undef ⟨fun e=>by subst e;simp at hs,fun _=>⟨.refl _ _,RV.ofEq hk⟩⟩ (by rw [hd];exact ⟨by simp [Go.HW.look],trivial⟩))
 refine ⟨Lk,hl V bs (hv_of hR),?_⟩
 rcases hx with hx | ⟨b',hx,hb⟩
 ·exact TO.su hg (by simpa using hj) hx hd hdn fin
 exact TO.s hg (by simpa using hj) hx hb hd hdn fin
theorem One.mark {a b:Nat} {d:Nat} {x y:Operand} {ats:Array TypeId} {T:TypeId} {pos:String} {af:Array Edge} {g:Option (Nat×Bool)} (Lk:Slots) (hP:c.P=Tryz.prog) (hk:ks[k]?=some (.mk a b)) (hs:Nat.beq k s=false)
  (hl:∀V bs,HV l ks b0 ⟨some d,.call ⟨.value (.func 92),[x,y].toArray,ats⟩,T,pos,af,g⟩ V bs→LkOk l.toArray L0 V ⟨some d,.call ⟨.value (.func 92),[x,y].toArray,ats⟩,T,pos,af,g⟩ Lk)
  (hg:GdOk l ⟨some d,.call ⟨.value (.func 92),[x,y].toArray,ats⟩,T,pos,af,g⟩ Lk) (hx:evs Lk [x,y]=some [.int .i64 (a:Int),.int .i64 (b:Int)]) (hd:Nat.blt d c.n=true) :
  One c l L0 W0 (RV ks b0) s Post b0 k ⟨some d,.call ⟨.value (.func 92),[x,y].toArray,ats⟩,T,pos,af,g⟩:=by
 intro bs V ms hR
 refine ⟨Lk,hl V bs (hv_of hR),TO.gd hg rfl (TX.callN (fun v nw=>∃q cap,v=.slice (some ⟨q,0,none⟩) 8 cap∧MB nw q a b) (by rw [hP];exact Tryz.call92) hx (fun w=>by rw [hP];exact c92r a b w) hd ?_)⟩
 rintro v nw ⟨q,cap,rfl,hm⟩ hfr
 refine TO.nil (TE.effV (.slice (some ⟨q,0,none⟩) 8 cap) ⟨fun e=>by subst e;simp at hs,fun _=>⟨app_ms,RV.ofMk hk (fun hin=>?_) (fun t ht=>?_)⟩⟩ ⟨by simp [Go.HW.look],trivial⟩)
 ·obtain ⟨p,hp,e⟩:=List.mem_map.1 hm.id
  exact hfr p hp (by rw [e];exact ms.ids _ hin)
 obtain ⟨l,T,fr,h1,h2⟩:=hm t ht
 exact ⟨l,T,fr,List.mem_append_left _ h1,h2⟩
theorem One.same {a b q1 cap1 j tx ty:Nat} {d:Nat} {ats:Array TypeId} {T:TypeId} {pos:String} {af:Array Edge} {g:Option (Nat×Bool)} (Lk:Slots) (hP:c.P=Tryz.prog) (hk:ks[k]?=some (.eq (.bool true))) (hs:Nat.beq k s=false) (hj:ks[j]?=some (.mk a b)) (hjl:Nat.blt j l.length=true)
  (hjb:bindsOn ⟨some d,.call ⟨.value (.func 12),[.tmp tx,.tmp ty].toArray,ats⟩,T,pos,af,g⟩ j=true)
  (hl:∀V bs y,V j=y→HV l ks b0 ⟨some d,.call ⟨.value (.func 12),[.tmp tx,.tmp ty].toArray,ats⟩,T,pos,af,g⟩ V bs→LkOk l.toArray L0 V ⟨some d,.call ⟨.value (.func 12),[.tmp tx,.tmp ty].toArray,ats⟩,T,pos,af,g⟩ ((ty,y)::Lk))
  (hg:∀y,GdOk l ⟨some d,.call ⟨.value (.func 12),[.tmp tx,.tmp ty].toArray,ats⟩,T,pos,af,g⟩ ((ty,y)::Lk)) (hx:Go.HW.look Lk tx=some (.slice (some ⟨q1,0,none⟩) 8 cap1)) (hxy:Nat.beq ty tx=false) (hm1:MB b0 q1 a b) (hd:Nat.blt d c.n=true) :
  One c l L0 W0 (RV ks b0) s Post b0 k ⟨some d,.call ⟨.value (.func 12),[.tmp tx,.tmp ty].toArray,ats⟩,T,pos,af,g⟩:=by
 intro bs V ms hR
 obtain ⟨q,cap,hq,_,hm⟩:=(hR j (by simpa [Nat.blt_eq] using hjl) hjb).toMk hj
 refine ⟨_,hl V bs _ hq (hv_of hR),TO.gd (hg _) rfl (TX.callM (fun v bs'=>v=.bool true∧bs'=bs) (by rw [hP];exact Tryz.call12) (vs:=[.slice (some ⟨q1,0,none⟩) 8 cap1,.slice (some ⟨q,0,none⟩) 8 cap]) (by simp [evs,ev,Go.HW.look,hxy,hx]) (fun w hnd hh=>by
  rw [hP];exact c12m (f:=fun t=>(mtx a b).getD t 0) (by omega) (hm1.step ms (fun _ q=>q)) hm hnd hh) hd ?_)⟩
 rintro v bs' ⟨rfl,rfl⟩
 exact TO.nil (TE.effV (.bool true) ⟨fun e=>by subst e;simp at hs,fun _=>⟨.refl _ _,RV.ofEq hk⟩⟩ ⟨by simp [Go.HW.look],trivial⟩)
def Put (b0:Blocks) (pb pi a b:Nat) (bs':Blocks):Prop:=∃bs1 q cap,MS b0 bs1 W0∧q∉ids b0∧MB bs1 q a b∧MS bs1 bs' (fun b' i'=>b'=pb∧i'=pi)∧Cell bs' pb pi (.slice (some ⟨q,0,none⟩) 8 cap)
theorem One.put {pb pi a b n j tp tv:Nat} {A T Tb:TypeId} {pos:String} {af:Array Edge} {g:Option (Nat×Bool)} (Lk:Slots) (hs:k=s) (hsz:∀w,(sizeOf A).run c.P w=.ok 1 w) (hj:ks[j]?=some (.mk a b)) (hjl:Nat.blt j l.length=true) (hjb:bindsOn ⟨none,.store A (.tmp tp) (.tmp tv),T,pos,af,g⟩ j=true)
  (hl:∀V bs y,V j=y→HV l ks b0 ⟨none,.store A (.tmp tp) (.tmp tv),T,pos,af,g⟩ V bs→LkOk l.toArray L0 V ⟨none,.store A (.tmp tp) (.tmp tv),T,pos,af,g⟩ ((tv,y)::Lk)) (hg:g=none)
  (hx:Go.HW.look Lk tp=some (.pointer (some ⟨pb,pi,none⟩))) (hxy:Nat.beq tv tp=false) (hb:HasB b0 pb Tb n) (hi:pi < n):One c l L0 W0 (RV ks b0) s (Put b0 pb pi a b) b0 k ⟨none,.store A (.tmp tp) (.tmp tv),T,pos,af,g⟩:=by
 intro bs V ms hR
 obtain ⟨q,cap,hq,hn,hm⟩:=(hR j (by simpa [Nat.blt_eq] using hjl) hjb).toMk hj
 refine ⟨_,hl V bs _ hq (hv_of hR),TO.u hg rfl (TX.stM (v:=.slice (some ⟨q,0,none⟩) 8 cap) hsz (by simp [ev,Go.HW.look,hxy,hx]) (by simp [ev,Go.HW.look]) rfl rfl (ms.blk _ _ _ hb) hi (fun bs' ms2 hc=>?_))⟩
 exact TO.nil (TE.effV undef ⟨fun _=>⟨bs,q,cap,ms,hn,hm,ms2,hc⟩,fun h=>absurd hs h⟩ trivial)
end
section
variable {b0:Blocks} {R A:Nat} {bk:Nat→Option Nat} {nn cc:Nat→Nat} {φ φ':Nat→Option Nat} {bs bs':Blocks}
theorem Fy.new (h:Fy b0 R A bk nn cc φ bs) (hR:0 < R) (ms:MS bs bs' W0):Fy b0 R A bk nn cc (newφ R bs φ) bs':=(h.phi hR newφ_old).step ms (fun _ _ q=>q.elim)
theorem MC.new {b j k i:Nat} (h:MC R φ bs b j k i) (ms:MS bs bs' W0):MC R (newφ R bs φ) bs' b j k i:=(h.phi newφ_old).step ms (fun q=>q) (fun _ _ q=>q.elim)
theorem RowY.new {k m:Nat} (h:RowY R φ bk bs k m) (ms:MS bs bs' W0):RowY R (newφ R bs φ) bk bs' k m:=(h.phi newφ_old).step ms (fun _ _ _ q=>q.elim) (fun _ _ q=>q.elim)
theorem Gy.new {G k:Nat} {m:Nat→Nat} (h:Gy R nn φ bs G k m) (ms:MS bs bs' W0):Gy R nn (newφ R bs φ) bs' G k m:=(h.phi newφ_old).step ms (fun _ _ q=>q.elim) (fun _ _ q=>q.elim)
theorem msM0 (nw:Blocks):MS bs (nw++bs) W0:=app_ms
theorem msM (nw:Blocks) {bq:Blocks} (h:MS (nw++bs) bq (fun _ _=>False)):MS bs bq W0:=(msM0 nw).trans h
theorem fresh_of {nw:Blocks} {q a b:Nat} (h:MB nw q a b) (hf:∀p∈nw,p.1∉ids bs):q∉ids bs:=fun hin=>by
 obtain ⟨p,hp,e⟩:=List.mem_map.1 h.id
 exact hf p hp (by rw [e];exact hin)
theorem mb_app {nw:Blocks} {q a b:Nat} (h:MB nw q a b):MB (nw++bs) q a b:=fun t ht=>by
 obtain ⟨l,T,fr,h1,h2⟩:=h t ht
 exact ⟨l,T,fr,List.mem_append_left _ h1,h2⟩
def OC (bs:Blocks) (M:Nat):Prop:=∀j,j < 64→∃v,Cell bs M j v∧v.oneCell'=true
theorem OC.fn {M:Nat} (h:OC bs M):∃f:Nat→Value,∀j,j < 64→Cell bs M j (f j)∧(f j).oneCell'=true :=
 Classical.axiomOfChoice (r:=fun j v=>j < 64→Cell bs M j v∧v.oneCell'=true) (fun j=>by
  by_cases hj:j < 64
  ·obtain ⟨v,hv⟩:=h j hj
   exact ⟨v,fun _=>hv⟩
  exact ⟨undef,fun q=>absurd q hj⟩)
end
end Go.Proofs.YteicbpfkljnemaaGreat
namespace Go.Proofs.YteicbpfkljnemaaGreat
open Go Go.HW Fl
set_option maxRecDepth 40000
set_option maxHeartbeats 8000000
theorem c67m {b0:Blocks} {R A cA:Nat} {bk:Nat→Option Nat} {nn cc:Nat→Nat} {φ:Nat→Option Nat} {bs:Blocks} {w:World} (hR:0 < R) (hx:Fy b0 R A bk nn cc φ bs) (hnd:(bs.map (·.1)).Nodup) (hh:∀p∈bs,w.heap[p.1]?=some p.2) :
  Ret Tryz.prog 67 [.slice (some ⟨A,0,none⟩) R cA] w ⟨bs,[]⟩ (fun v Q=>∃bs',Q=⟨bs',[]⟩∧v=.bool true∧MS b0 bs' (fun b _=>∃k,k < R∧bk k=some b)):=by
 have hRs:=hx.sm.1
 have hns:=hx.sm.2
 refine Ret.of_body Tryz.func67 rfl Tryz.ntmps67 rfl (fun p hp=>hh p (by rw [mall] at hp;exact hp)) (by rw [mall];exact hnd) ?_
 refine TC.seq (TC.region ?_)
 refine AS ?_
 refine NT ?_
 refine TC.cut (fun L H=>∃bs φ,L=[(0,.slice (some ⟨A,0,none⟩) R cA)]∧H=⟨bs,[]⟩∧Fy b0 R A bk nn cc φ bs∧(∀j,j < R→RowY R φ bk bs j (nn j))) ?_ (fun L H hm=>?_)
 ·refine TC.seq (TC.region ?_)
  refine AS ?_
  refine NT ?_
  refine TC.block ?_
  refine TC.keep (L':=[(3,.int .i64 ((0:Nat):Int)),(0,.slice (some ⟨A,0,none⟩) R cA)]) ⟨rfl,rfl,trivial⟩ ?_
  refine TC.loopN (fun k L H=>∃bs φ,L=[(3,.int .i64 (k:Int)),(0,.slice (some ⟨A,0,none⟩) R cA)]∧H=⟨bs,[]⟩∧Fy b0 R A bk nn cc φ bs∧∀j,j < k→RowY R φ bk bs j (nn j)) R (fun K1 k L H hs hle1 hn1=>?_) ⟨bs,φ,rfl,rfl,hx,fun j hj=>absurd hj (by omega)⟩
  obtain ⟨bs,φ,rfl,rfl,hx,hrow⟩:=hs
  refine TC.seq ?_
  refine TC.seq (TC.region ?_)
  refine MV ?_
  refine MV ?_
  refine TO.u rfl rfl (TX.lenM Tryz.runUnderlying46 rfl rfl ?_)
  refine IB ?_
  refine NT ?_
  refine TC.cond rfl (fun hb=>?_) (fun hb=>?_)
  ·have hk:k < R:=by have:=of_decide_eq_true hb;omega
   refine TC.skip ?_
   refine TE.thenN rfl rfl ?_
   refine TC.seq ?_
   refine TC.block ?_
   refine TC.seq (TC.region ?_)
   refine AS ?_
   refine NT ?_
   refine TC.block ?_
   refine TC.keep (L':=[(4,.int .i64 ((0:Nat):Int)),(3,.int .i64 (k:Int)),(0,.slice (some ⟨A,0,none⟩) R cA)]) ⟨rfl,rfl,rfl,trivial⟩ ?_
   refine TC.loopN (fun i L H=>∃bs φ,L=[(4,.int .i64 (i:Int)),(3,.int .i64 (k:Int)),(0,.slice (some ⟨A,0,none⟩) R cA)]∧H=⟨bs,[]⟩∧Fy b0 R A bk nn cc φ bs∧(∀j,j < k→RowY R φ bk bs j (nn j))∧RowY R φ bk bs k i) (nn k) (fun K2 i L H hs hle2 hn2=>?_) ⟨bs,φ,rfl,rfl,hx,hrow,fun b hb i hi=>absurd hi (by omega)⟩
   obtain ⟨bs,φ,rfl,rfl,hx,hrow,hrk⟩:=hs
   refine TC.seq ?_
   refine TC.seq (TC.region ?_)
   refine MV ?_
   refine MV ?_
   refine MV ?_
   refine TO.u rfl rfl (TX.ixN Tryz.runUnderlying46 Tryz.sizeOf44 rfl rfl hk rfl ?_)
   refine TO.u rfl rfl (TX.ldM Tryz.isAgg44 rfl (hx.hd k hk) rfl ?_)
   refine TO.u rfl rfl (TX.lenM Tryz.runUnderlying44 rfl rfl ?_)
   refine IB ?_
   refine NT ?_
   refine TC.cond rfl (fun hb=>?_) (fun hb=>?_)
   ·have hi:i < nn k:=by have:=of_decide_eq_true hb;omega
    refine TC.skip ?_
    refine TE.thenN rfl rfl ?_
    refine TC.seq ?_
    refine TC.block ?_
    obtain ⟨b,hbk⟩:∃b,bk k=some b:=by
     cases hc:bk k with
     | none=>have:=(hx.no k hk hc).1;omega
     | some b=>exact ⟨b,rfl⟩
    have hd:Cell bs A k (.slice (some ⟨b,0,none⟩) (nn k) (cc k)):=by have:=hx.hd k hk;rw [hdr,hbk] at this;exact this
    obtain ⟨hφ,hB,hnc⟩:=hx.bl k hk b hbk
    have hnk:=hns k hk
    refine TC.keep (L':=[(4,.int .i64 (i:Int)),(3,.int .i64 (k:Int)),(0,.slice (some ⟨A,0,none⟩) R cA)]) ⟨rfl,rfl,rfl,trivial⟩ ?_
    refine TC.drawM hmixM W0 (RV [.eq (.slice (some ⟨A,0,none⟩) R cA),.eq (.int .i64 (k:Int)),.eq (.pointer (some ⟨A,k,none⟩)),.eq (.slice (some ⟨b,0,none⟩) (nn k) (cc k)),.eq (.int .i64 (i:Int)),.eq (.int .i64 (k:Int)),.eq (.int .i64 (i:Int)),.mk k i,.eq (.pointer (some ⟨b,i,none⟩)),.eq undef] bs) 9 (Put bs b i k i) [] (RV.st _ _) rfl rfl rfl rfl rfl rfl ?_ (fun bs1 V hp hr=>?_)
    ·refine .cons (Om 0 (.slice (some ⟨A,0,none⟩) R cA)) ?_
     refine .cons (Om 3 (.int .i64 (k:Int))) ?_
     refine .cons (Oq [(31,.slice (some ⟨A,0,none⟩) R cA),(32,.int .i64 (k:Int))] (.pointer (some ⟨A,k,none⟩)) (fun V bs h=>(dt 0 h (dt 1 h .nil))) (fun bs ms=>QV.ixN Tryz.runUnderlying46 Tryz.sizeOf44 rfl rfl hk)) ?_
     refine .cons (Oq [(33,.pointer (some ⟨A,k,none⟩))] (.slice (some ⟨b,0,none⟩) (nn k) (cc k)) (fun V bs h=>(dt 2 h .nil)) (fun bs ms=>QV.ldM Tryz.isAgg44 rfl (ms.keep _ _ _ hd (fun q=>q)))) ?_
     refine .cons (Om 4 (.int .i64 (i:Int))) ?_
     refine .cons (Om 3 (.int .i64 (k:Int))) ?_
     refine .cons (Om 4 (.int .i64 (i:Int))) ?_
     refine .cons (One.mark (a:=k) (b:=i) [(36,.int .i64 (k:Int)),(37,.int .i64 (i:Int))] rfl rfl rfl (fun V bs h=>(dt 5 h (dt 6 h .nil))) (.inl rfl) rfl rfl) ?_
     refine .cons (Oq [(34,.slice (some ⟨b,0,none⟩) (nn k) (cc k)),(35,.int .i64 (i:Int))] (.pointer (some ⟨b,i,none⟩)) (fun V bs h=>(dt 3 h (dt 4 h .nil))) (fun bs ms=>QV.ixN Tryz.runUnderlying44 Tryz.sizeOf36 rfl rfl hi)) ?_
     refine .cons (One.put (j:=7) [(39,.pointer (some ⟨b,i,none⟩))] rfl Tryz.sizeOf36 rfl rfl rfl (fun V bs y hy h=>.dat 7 rfl rfl hy (dt 8 h .nil)) rfl rfl rfl hB (by omega)) ?_
     exact .nil
    obtain ⟨bs2,q,cap,ms0,hq,hm,ms,hc⟩:=hp (by decide)
    refine TE.blockN ?_
    refine TE.thenN rfl rfl ?_
    refine TC.region ?_
    refine MV ?_
    refine IB ?_
    refine AS ?_
    refine TO.nil ?_
    rw [wI (by omega)]
    refine TE.keep (L':=[(4,.int .i64 ((i+1:Nat):Int)),(3,.int .i64 (k:Int)),(0,.slice (some ⟨A,0,none⟩) R cA)]) ⟨rfl,rfl,rfl,trivial⟩ ?_
    have hW:∀b' i',(b'=b∧i'=i)→newφ R bs φ b'=some k:=fun b' i' e=>by rw [e.1,newφ_old _ hB.id];exact hφ
    have h3:∀b' i',(b'=b∧i'=i)→newφ R bs φ b'≠some (R+3):=fun b' i' e=>by rw [hW b' i' e];intro e;have:=Option.some.inj e;omega
    refine hn2 _ _ hi ⟨bs1,newφ R bs φ,rfl,rfl,(hx.new hR ms0).step ms (fun b' i' q=>by rw [hW b' i' q];intro e;have:=Option.some.inj e;omega),fun j hj=>((hrow j hj).new ms0).step ms (fun b' i' hb' q=>by have h1:=(hx.bl j (by omega) b' hb').1;rw [q.1,hφ] at h1;have:=Option.some.inj h1;omega) h3,fun b' hb' i' hi'=>?_⟩
    rw [hbk] at hb';cases hb'
    rcases Nat.lt_or_ge i' i with h1 | h1
    ·exact ((hrk b hbk i' h1).new ms0).step ms (fun q=>by omega) h3
    obtain rfl:i'=i:=by omega
    exact ⟨q,cap,hc,newφ_new hq,hm.step ms (fun i2 e=>h3 q i2 e (newφ_new hq))⟩
   have hi:nn k≤i:=by have:=of_decide_eq_false hb;omega
   refine TC.exit ?_
   refine TE.thenX ?_
   refine TE.loopX ?_
   refine TE.blockH ?_
   refine TE.blockN ?_
   refine TE.thenN rfl rfl ?_
   refine TC.region ?_
   refine MV ?_
   refine IB ?_
   refine AS ?_
   refine TO.nil ?_
   rw [wI (by omega)]
   refine TE.keep (L':=[(3,.int .i64 ((k+1:Nat):Int)),(0,.slice (some ⟨A,0,none⟩) R cA)]) ⟨rfl,rfl,trivial⟩ ?_
   refine hn1 _ _ hk ⟨bs,φ,rfl,rfl,hx,fun j hj=>?_⟩
   rcases Nat.lt_or_ge j k with h1 | h1
   ·exact hrow j h1
   obtain rfl:j=k:=by omega
   exact fun b hb i' hi'=>hrk b hb i' (by omega)
  have hk:R≤k:=by have:=of_decide_eq_false hb;omega
  refine TC.exit ?_
  refine TE.thenX ?_
  refine TE.loopX ?_
  refine TE.blockH ?_
  refine TE.keep (L':=[(0,.slice (some ⟨A,0,none⟩) R cA)]) ⟨rfl,trivial⟩ ?_
  exact TE.mid ⟨bs,φ,rfl,rfl,hx,fun j hj=>hrow j (by omega)⟩
 clear hx
 obtain ⟨bs,φ,rfl,rfl,hx,hrow⟩:=hm
 refine TC.seq (TC.region ?_)
 refine MV ?_
 refine TO.u rfl rfl (TX.lenM Tryz.runUnderlying46 rfl rfl ?_)
 refine TO.u rfl rfl (TX.mkM (by':=24) Tryz.runUnderlying46 Tryz.typeInfo44 rfl rfl rfl rfl rfl rfl ⟨by omega,by omega⟩ rfl (fun G bsg hG ms0 hBG hz=>?_))
 refine AS ?_
 refine NT ?_
 have hGx:∃φ,Fy b0 R A bk nn cc φ bsg∧(∀j,j < R→RowY R φ bk bsg j (nn j))∧Gy R nn φ bsg G 0 (fun j=>nn j+64):=by
  have hp:∀b∈ids bs,(fun x=>if x=G then some (R+2) else φ x) b=φ b:=fun b hb=>if_neg (fun (e:b=G)=>hG (by rw [← e];exact hb))
  exact ⟨_,(hx.phi hR hp).step ms0 (fun _ _ q=>q.elim),fun j hj=>((hrow j hj).phi hp).step ms0 (fun _ _ _ q=>q.elim) (fun _ _ q=>q.elim),if_pos rfl,hBG,fun j hj=>absurd hj (by omega)⟩
 clear hx hrow hz hBG ms0
 obtain ⟨φ,hx,hrow,hg⟩:=hGx
 refine TC.cut (fun L H=>∃bs φ,L=[(5,.slice (some ⟨G,0,none⟩) R R),(0,.slice (some ⟨A,0,none⟩) R cA)]∧H=⟨bs,[]⟩∧Fy b0 R A bk nn cc φ bs∧(∀j,j < R→RowY R φ bk bs j (nn j))∧Gy R nn φ bs G R (fun j=>nn j+64)) ?_ (fun L H hm=>?_)
 ·refine TC.seq (TC.region ?_)
  refine AS ?_
  refine NT ?_
  refine TC.block ?_
  refine TC.keep (L':=[(6,.int .i64 ((0:Nat):Int)),(5,.slice (some ⟨G,0,none⟩) R R),(0,.slice (some ⟨A,0,none⟩) R cA)]) ⟨rfl,rfl,rfl,trivial⟩ ?_
  refine TC.loopN (fun k L H=>∃bs φ,L=[(6,.int .i64 (k:Int)),(5,.slice (some ⟨G,0,none⟩) R R),(0,.slice (some ⟨A,0,none⟩) R cA)]∧H=⟨bs,[]⟩∧Fy b0 R A bk nn cc φ bs∧(∀j,j < R→RowY R φ bk bs j (nn j))∧Gy R nn φ bs G k (fun j=>nn j+64)) R (fun K1 k L H hs hle1 hn1=>?_) ⟨bsg,φ,rfl,rfl,hx,hrow,hg⟩
  obtain ⟨bs,φ,rfl,rfl,hx,hrow,hg⟩:=hs
  refine TC.seq ?_
  refine TC.seq (TC.region ?_)
  refine MV ?_
  refine MV ?_
  refine TO.u rfl rfl (TX.lenM Tryz.runUnderlying46 rfl rfl ?_)
  refine IB ?_
  refine NT ?_
  refine TC.cond rfl (fun hb=>?_) (fun hb=>?_)
  ·have hk:k < R:=by have:=of_decide_eq_true hb;omega
   refine TC.skip ?_
   refine TE.thenN rfl rfl ?_
   refine TC.seq ?_
   refine TC.block ?_
   refine TC.seq (TC.region ?_)
   refine MV ?_
   refine MV ?_
   refine TO.u rfl rfl (TX.ixN Tryz.runUnderlying46 Tryz.sizeOf44 rfl rfl hk rfl ?_)
   refine TO.u rfl rfl (TX.ldM Tryz.isAgg44 rfl (hx.hd k hk) rfl ?_)
   refine AS ?_
   refine NT ?_
   have hnk:=hns k hk
   refine TC.cut (fun L H=>∃bs φ src cap,L=[(7,.slice (src.map fun b=>⟨b,0,none⟩) (nn k+64) cap),(6,.int .i64 (k:Int)),(5,.slice (some ⟨G,0,none⟩) R R),(0,.slice (some ⟨A,0,none⟩) R cA)]∧H=⟨bs,[]⟩∧Fy b0 R A bk nn cc φ bs∧(∀j,j < R→RowY R φ bk bs j (nn j))∧Gy R nn φ bs G k (fun j=>nn j+64)∧(∀b,src=some b→HasB bs b 36 cap∧nn k+64≤cap∧φ b=some k∧b∈ids bs∧∀i',i' < nn k+64→MC R φ bs b i' k i')∧(src=none→nn k+64=0∧cap=0)) ?_ (fun L H hm=>?_)
   ·refine TC.seq (TC.region ?_)
    refine AS ?_
    refine NT ?_
    refine TC.block ?_
    refine TC.keep (L':=[(8,.int .i64 ((0:Nat):Int)),(7,hdr bk nn cc k),(6,.int .i64 (k:Int)),(5,.slice (some ⟨G,0,none⟩) R R),(0,.slice (some ⟨A,0,none⟩) R cA)]) ⟨rfl,rfl,rfl,rfl,rfl,trivial⟩ ?_
    refine TC.loopN (fun i L H=>∃bs φ src cap,L=[(8,.int .i64 (i:Int)),(7,.slice (src.map fun b=>⟨b,0,none⟩) (nn k+i) cap),(6,.int .i64 (k:Int)),(5,.slice (some ⟨G,0,none⟩) R R),(0,.slice (some ⟨A,0,none⟩) R cA)]∧H=⟨bs,[]⟩∧Fy b0 R A bk nn cc φ bs∧(∀j,j < R→RowY R φ bk bs j (nn j))∧Gy R nn φ bs G k (fun j=>nn j+64)∧(∀b,src=some b→HasB bs b 36 cap∧nn k+i≤cap∧φ b=some k∧b∈ids bs∧∀i',i' < nn k+i→MC R φ bs b i' k i')∧(src=none→nn k+i=0∧cap=0)) 64 (fun K2 i L H hs hle2 hn2=>?_) ?_
    ·obtain ⟨bs,φ,src,cap,rfl,rfl,hx,hrow,hg,hs1,hs2⟩:=hs
     refine TC.seq ?_
     refine TC.seq (TC.region ?_)
     refine MV ?_
     refine IB ?_
     refine NT ?_
     refine TC.cond rfl (fun hb=>?_) (fun hb=>?_)
     ·have hi:i < 64:=by have:=of_decide_eq_true hb;omega
      refine TC.skip ?_
      refine TE.thenN rfl rfl ?_
      refine TC.seq ?_
      refine TC.block ?_
      refine TC.region ?_
      refine MV ?_
      refine MV ?_
      refine MV ?_
      refine MV ?_
      refine TO.u rfl rfl (TX.ixN Tryz.runUnderlying46 Tryz.sizeOf44 rfl rfl hk rfl ?_)
      refine TO.u rfl rfl (TX.ldM Tryz.isAgg44 rfl (hx.hd k hk) rfl ?_)
      refine TO.u rfl rfl (TX.lenM Tryz.runUnderlying44 rfl rfl ?_)
      refine MV ?_
      refine IB ?_
      rw [wA (by omega)]
      refine TO.u rfl rfl (TX.callN (fun v nw=>∃q cap,v=.slice (some ⟨q,0,none⟩) 8 cap∧MB nw q k (nn k+i)) Tryz.call92 rfl (fun w=>c92r k (nn k+i) w) rfl ?_)
      rintro _ nw ⟨q0,cap0,rfl,hm0⟩ hfr
      refine TO.u rfl rfl (TX.bsM Tryz.runUnderlying44 Tryz.sizeOf36 Tryz.zeroValue36 rfl (N:=En.sl) (some ⟨q0,0,none⟩,8,cap0) rfl rfl rfl (fun zl hzl=>by match zl,hzl with | [z],_=>rfl) rfl (fun q bq hq msq cq=>?_))
      refine TO.u rfl rfl (TX.apM (src:=src) (by':=24) Tryz.runUnderlying44 Tryz.typeInfo36 rfl rfl rfl rfl rfl rfl (fun b hb=>⟨(msM nw msq).blk _ _ _ (hs1 b hb).1,(hs1 b hb).2.1⟩) hs2 (fun _=>.slice (some ⟨q0,0,none⟩) 8 cap0) (fun j hj=>by (have h0:j=0:=by omega);subst h0;exact cq) (fun j hj=>rfl) (by omega) (by omega) (by omega) rfl (fun b' cap' bs' hb' ms hB' hcap hold hnew=>?_))
      refine AS ?_
      refine TO.nil ?_
      refine TE.blockN ?_
      refine TE.thenN rfl rfl ?_
      refine TC.region ?_
      refine MV ?_
      refine IB ?_
      refine AS ?_
      refine TO.nil ?_
      rw [wI (by omega)]
      refine TE.keep (L':=[(8,.int .i64 ((i+1:Nat):Int)),(7,(.slice ((some b').map fun b=>⟨b,0,none⟩) (nn k+(i+1)) cap')),(6,.int .i64 (k:Int)),(5,.slice (some ⟨G,0,none⟩) R R),(0,.slice (some ⟨A,0,none⟩) R cA)]) ⟨rfl,rfl,rfl,rfl,rfl,trivial⟩ ?_
      have ms0:MS bs bq W0:=msM nw msq
      have hq0:q0∉ids bs:=fresh_of hm0 hfr
      have hmq:MB bq q0 k (nn k+i):=(mb_app hm0).step msq (fun _ q=>q)
      have hφq:∀x∈ids bq,(if x=b' then some k else newφ R bs φ x)=newφ R bs φ x:=fun x hx'=>by
       by_cases e:x=b'
       ·rw [if_pos e,e]
        rcases hb' with ⟨h1,_⟩ | h1
        ·rw [newφ_old _ (hs1 b' h1).2.2.2.1];exact (hs1 b' h1).2.2.1.symm
        exact absurd (e▸hx') h1
       rw [if_neg e]
      have hφ0:(if q0=b' then some k else newφ R bs φ q0)=some (R+3):=by rw [hφq q0 hmq.id];exact newφ_new hq0
      have hW:∀b i',(src=some b∧nn k+i≤i')→(if b=b' then some k else newφ R bs φ b)=some k:=fun b i' q=>by
       rw [hφq b (ms0.ids _ (hs1 b q.1).2.2.2.1),newφ_old _ (hs1 b q.1).2.2.2.1];exact (hs1 b q.1).2.2.1
      have h3:∀b i',(src=some b∧nn k+i≤i')→(if b=b' then some k else newφ R bs φ b)≠some (R+3):=fun b i' q=>by rw [hW b i' q];intro e;have:=Option.some.inj e;omega
      refine hn2 _ _ hi ⟨bs',fun x=>if x=b' then some k else newφ R bs φ x,some b',cap',rfl,rfl,((hx.new hR ms0).phi hR hφq).step ms (fun b i' q=>?_),fun j hj=>(((hrow j hj).new ms0).phi hφq).step ms (fun b i' hb q=>?_) h3,((hg.new ms0).phi hφq).step ms (fun b i' q=>⟨?_,fun j hj e=>?_⟩) h3,fun b hb=>?_,fun h=>by cases h⟩
      ·rw [hW b i' q];intro e;have:=Option.some.inj e;omega
      ·have h1:=(hx.bl j hj b hb).1
       rw [(hs1 b q.1).2.2.1] at h1
       obtain rfl:k=j:=Option.some.inj h1
       omega
      ·rw [hW b i' q];intro e;have:=Option.some.inj e;omega
      ·rw [hW b i' q] at e;have:=Option.some.inj e;omega
      obtain rfl:b'=b:=Option.some.inj hb
      refine ⟨hB',by omega,if_pos rfl,hB'.id,fun i' hi'=>?_⟩
      rcases Nat.lt_or_ge i' (nn k+i) with h1 | h1
      ·cases hsrc:src with
       | none=>have:=(hs2 hsrc).1;omega
       | some b =>
        obtain ⟨q2,cap2,hc2,hφ2,hm2⟩:=(((hs1 b hsrc).2.2.2.2 i' h1).new ms0).phi hφq
        exact ⟨q2,cap2,hold b hsrc i' _ h1 hc2,hφ2,hm2.step ms (fun t e=>h3 _ _ e hφ2)⟩
      obtain rfl:i'=nn k+i:=by omega
      exact ⟨q0,cap0,hnew 0 (by omega),hφ0,hmq.step ms (fun t e=>h3 _ _ e hφ0)⟩
     have hi:64≤i:=by have:=of_decide_eq_false hb;omega
     refine TC.exit ?_
     refine TE.thenX ?_
     refine TE.loopX ?_
     refine TE.blockH ?_
     obtain rfl:i=64:=by omega
     refine TE.keep (L':=[(7,.slice (src.map fun b=>⟨b,0,none⟩) (nn k+64) cap),(6,.int .i64 (k:Int)),(5,.slice (some ⟨G,0,none⟩) R R),(0,.slice (some ⟨A,0,none⟩) R cA)]) ⟨rfl,rfl,rfl,rfl,trivial⟩ ?_
     exact TE.mid ⟨bs,φ,src,cap,rfl,rfl,hx,hrow,hg,hs1,hs2⟩
    refine ⟨bs,φ,bk k,cc k,rfl,rfl,hx,hrow,hg,fun b hb=>?_,fun h=>?_⟩
    ·obtain ⟨h1,h2,h3⟩:=hx.bl k hk b hb
     exact ⟨h2,h3,h1,h2.id,fun i' hi'=>hrow k hk b hb i' hi'⟩
    exact hx.no k hk h
   obtain ⟨bs,φ,src,cap,rfl,rfl,hx,hrow,hg,hs1,hs2⟩:=hm
   obtain ⟨b,rfl⟩:∃b,src=some b:=by
    cases hc:src with
    | none=>have:=(hs2 hc).1;omega
    | some b=>exact ⟨b,rfl⟩
   obtain ⟨h1,h2,h3,h4,h5⟩:=hs1 b rfl
   refine TC.region ?_
   refine MV ?_
   refine MV ?_
   refine MV ?_
   refine TO.u rfl rfl (TX.ixN Tryz.runUnderlying46 Tryz.sizeOf44 rfl rfl hk rfl ?_)
   refine TO.u rfl rfl (TX.stM (v:=.slice (some ⟨b,0,none⟩) (nn k+64) cap) Tryz.sizeOf44 rfl rfl rfl rfl hg.hb (by omega) (fun bs1 ms c1=>?_))
   refine TO.nil ?_
   refine TE.blockN ?_
   refine TE.thenN rfl rfl ?_
   refine TC.region ?_
   refine MV ?_
   refine IB ?_
   refine AS ?_
   refine TO.nil ?_
   rw [wI (by omega)]
   refine TE.keep (L':=[(6,.int .i64 ((k+1:Nat):Int)),(5,.slice (some ⟨G,0,none⟩) R R),(0,.slice (some ⟨A,0,none⟩) R cA)]) ⟨rfl,rfl,rfl,trivial⟩ ?_
   have hbG:b≠G:=fun e=>by rw [e,hg.g] at h3;have:=Option.some.inj h3;omega
   have h3G:∀b' i',(b'=G∧i'=k)→φ b'≠some (R+3):=fun b' i' q=>by rw [q.1,hg.g];intro e;have:=Option.some.inj e;omega
   exact hn1 _ _ hk ⟨bs1,φ,rfl,rfl,hx.step ms (fun b' i' q=>by rw [q.1,hg.g];intro e;have:=Option.some.inj e;omega),fun j hj=>(hrow j hj).step ms (fun b' i' hb' q=>by have h1:=(hx.bl j hj b' hb').1;rw [q.1,hg.g] at h1;have:=Option.some.inj h1;omega) h3G,hg.put (Nat.le_refl k) ms c1 h3 h4 (fun i' hi'=>h5 i' hi') hbG _ (by omega) (by omega)⟩
  have hk:R≤k:=by have:=of_decide_eq_false hb;omega
  refine TC.exit ?_
  refine TE.thenX ?_
  refine TE.loopX ?_
  refine TE.blockH ?_
  refine TE.keep (L':=[(5,.slice (some ⟨G,0,none⟩) R R),(0,.slice (some ⟨A,0,none⟩) R cA)]) ⟨rfl,rfl,trivial⟩ ?_
  obtain rfl:k=R:=by omega
  exact TE.mid ⟨bs,φ,rfl,rfl,hx,hrow,hg⟩
 clear hx hrow hg
 obtain ⟨bs,φ,rfl,rfl,hx,hrow,hg⟩:=hm
 refine TC.cut (fun L H=>∃bs,L=[(5,.slice (some ⟨G,0,none⟩) R R),(0,.slice (some ⟨A,0,none⟩) R cA)]∧H=⟨bs,[]⟩∧Fy b0 R A bk nn cc φ bs∧(∀j,j < R→RowY R φ bk bs j (nn j))∧Gy R nn φ bs G R (fun j=>nn j+64)) ?_ (fun L H hm=>?_)
 ·refine TC.seq (TC.region ?_)
  refine AS ?_
  refine NT ?_
  refine TC.block ?_
  refine TC.keep (L':=[(9,.int .i64 ((0:Nat):Int)),(5,.slice (some ⟨G,0,none⟩) R R),(0,.slice (some ⟨A,0,none⟩) R cA)]) ⟨rfl,rfl,rfl,trivial⟩ ?_
  refine TC.loopN (fun k L H=>∃bs,L=[(9,.int .i64 (k:Int)),(5,.slice (some ⟨G,0,none⟩) R R),(0,.slice (some ⟨A,0,none⟩) R cA)]∧H=⟨bs,[]⟩∧Fy b0 R A bk nn cc φ bs∧(∀j,j < R→RowY R φ bk bs j (nn j))∧Gy R nn φ bs G R (fun j=>nn j+64)) R (fun K1 k L H hs hle1 hn1=>?_) ⟨bs,rfl,rfl,hx,hrow,hg⟩
  obtain ⟨bs,rfl,rfl,hx,hrow,hg⟩:=hs
  refine TC.seq ?_
  refine TC.seq (TC.region ?_)
  refine MV ?_
  refine MV ?_
  refine TO.u rfl rfl (TX.lenM Tryz.runUnderlying46 rfl rfl ?_)
  refine IB ?_
  refine NT ?_
  refine TC.cond rfl (fun hb=>?_) (fun hb=>?_)
  ·have hk:k < R:=by have:=of_decide_eq_true hb;omega
   refine TC.skip ?_
   refine TE.thenN rfl rfl ?_
   refine TC.seq ?_
   refine TC.block ?_
   have hnk:=hns k hk
   refine TC.seq (TC.region ?_)
   refine AS ?_
   refine NT ?_
   refine TC.block ?_
   refine TC.keep (L':=[(10,.int .i64 ((0:Nat):Int)),(9,.int .i64 (k:Int)),(5,.slice (some ⟨G,0,none⟩) R R),(0,.slice (some ⟨A,0,none⟩) R cA)]) ⟨rfl,rfl,rfl,rfl,trivial⟩ ?_
   refine TC.loopN (fun i L H=>∃bs,L=[(10,.int .i64 (i:Int)),(9,.int .i64 (k:Int)),(5,.slice (some ⟨G,0,none⟩) R R),(0,.slice (some ⟨A,0,none⟩) R cA)]∧H=⟨bs,[]⟩∧Fy b0 R A bk nn cc φ bs∧(∀j,j < R→RowY R φ bk bs j (nn j))∧Gy R nn φ bs G R (fun j=>nn j+64)) (nn k+64) (fun K2 i L H hs hle2 hn2=>?_) ⟨bs,rfl,rfl,hx,hrow,hg⟩
   obtain ⟨bs,rfl,rfl,hx,hrow,hg⟩:=hs
   obtain ⟨b',c',hG,hφ',hid',hmk⟩:=hg.rw_ k hk
   refine TC.seq ?_
   refine TC.seq (TC.region ?_)
   refine MV ?_
   refine MV ?_
   refine MV ?_
   refine TO.u rfl rfl (TX.ixN Tryz.runUnderlying46 Tryz.sizeOf44 rfl rfl hk rfl ?_)
   refine TO.u rfl rfl (TX.ldM Tryz.isAgg44 rfl hG rfl ?_)
   refine TO.u rfl rfl (TX.lenM Tryz.runUnderlying44 rfl rfl ?_)
   refine IB ?_
   refine NT ?_
   refine TC.cond rfl (fun hb=>?_) (fun hb=>?_)
   ·have hi:i < nn k+64:=by have:=of_decide_eq_true hb;omega
    refine TC.skip ?_
    refine TE.thenN rfl rfl ?_
    refine TC.seq ?_
    refine TC.block ?_
    refine TC.seq ?_
    refine TC.keep (L':=[(10,.int .i64 (i:Int)),(9,.int .i64 (k:Int)),(5,.slice (some ⟨G,0,none⟩) R R),(0,.slice (some ⟨A,0,none⟩) R cA)]) ⟨rfl,rfl,rfl,rfl,trivial⟩ ?_
    obtain ⟨q1,cap1,hc1,_,hm1⟩:=hmk i hi
    by_cases hi2:i < nn k
    ·obtain ⟨b,hbk⟩:∃b,bk k=some b:=by
      cases hc:bk k with
      | none=>have:=(hx.no k hk hc).1;omega
      | some b=>exact ⟨b,rfl⟩
     have hd:Cell bs A k (.slice (some ⟨b,0,none⟩) (nn k) (cc k)):=by have:=hx.hd k hk;rw [hdr,hbk] at this;exact this
     obtain ⟨q2,cap2,hc2,_,hm2⟩:=hrow k hk b hbk i hi2
     refine TC.drawM hmixM W0 (RV [.eq (.slice (some ⟨G,0,none⟩) R R),.eq (.int .i64 (k:Int)),.eq (.pointer (some ⟨G,k,none⟩)),.eq ((.slice (some ⟨b',0,none⟩) (nn k+64) c')),.eq (.int .i64 (i:Int)),.eq (.pointer (some ⟨b',i,none⟩)),.eq (.slice (some ⟨q1,0,none⟩) 8 cap1),.eq (.int .i64 (k:Int)),.eq (.int .i64 (i:Int)),.mk k i,.eq (.bool true),.eq (.bool false),.eq (.bool false),.eq (.int .i64 (i:Int)),.eq (.slice (some ⟨A,0,none⟩) R cA),.eq (.int .i64 (k:Int)),.eq (.pointer (some ⟨A,k,none⟩)),.eq (.slice (some ⟨b,0,none⟩) (nn k) (cc k)),.eq (.int .i64 (nn k:Int)),.eq (.bool true),.eq (.bool true),.eq (.slice (some ⟨A,0,none⟩) R cA),.eq (.int .i64 (k:Int)),.eq (.pointer (some ⟨A,k,none⟩)),.eq (.slice (some ⟨b,0,none⟩) (nn k) (cc k)),.eq (.int .i64 (i:Int)),.eq (.pointer (some ⟨b,i,none⟩)),.eq (.slice (some ⟨q2,0,none⟩) 8 cap2),.eq (.int .i64 (k:Int)),.eq (.int .i64 (i:Int)),.mk k i,.eq (.bool true),.eq (.bool false),.eq (.bool false),.eq (.bool false)] bs) 1000 (fun _=>True) [(122,34)] (RV.st _ _) rfl rfl rfl rfl rfl rfl ?_ (fun bs1 V hp hr=>?_)
     ·refine .cons (Om 5 (.slice (some ⟨G,0,none⟩) R R)) ?_
      refine .cons (Om 9 (.int .i64 (k:Int))) ?_
      refine .cons (Oq [(88,.slice (some ⟨G,0,none⟩) R R),(89,.int .i64 (k:Int))] (.pointer (some ⟨G,k,none⟩)) (fun V bs h=>(dt 0 h (dt 1 h .nil))) (fun bs ms=>QV.ixN Tryz.runUnderlying46 Tryz.sizeOf44 rfl rfl hk)) ?_
      refine .cons (Oq [(90,.pointer (some ⟨G,k,none⟩))] ((.slice (some ⟨b',0,none⟩) (nn k+64) c')) (fun V bs h=>(dt 2 h .nil)) (fun bs ms=>QV.ldM Tryz.isAgg44 rfl (ms.keep _ _ _ hG (fun q=>q)))) ?_
      refine .cons (Om 10 (.int .i64 (i:Int))) ?_
      refine .cons (Oq [(91,(.slice (some ⟨b',0,none⟩) (nn k+64) c')),(92,.int .i64 (i:Int))] (.pointer (some ⟨b',i,none⟩)) (fun V bs h=>(dt 3 h (dt 4 h .nil))) (fun bs ms=>QV.ixN Tryz.runUnderlying44 Tryz.sizeOf36 rfl rfl hi)) ?_
      refine .cons (Oq [(93,.pointer (some ⟨b',i,none⟩))] (.slice (some ⟨q1,0,none⟩) 8 cap1) (fun V bs h=>(dt 5 h .nil)) (fun bs ms=>QV.ldM Tryz.isAgg36 rfl (ms.keep _ _ _ hc1 (fun q=>q)))) ?_
      refine .cons (Om 9 (.int .i64 (k:Int))) ?_
      refine .cons (Om 10 (.int .i64 (i:Int))) ?_
      refine .cons (One.mark (a:=k) (b:=i) [(95,.int .i64 (k:Int)),(96,.int .i64 (i:Int))] rfl rfl rfl (fun V bs h=>(dt 7 h (dt 8 h .nil))) (.inl rfl) rfl rfl) ?_
      refine .cons (One.same (j:=9) [(94,.slice (some ⟨q1,0,none⟩) 8 cap1)] rfl rfl rfl rfl rfl rfl (fun V bs y hy h=>.dat 9 rfl rfl hy (dt 6 h .nil)) (fun y=>(.inl rfl)) rfl rfl hm1 rfl) ?_
      refine .cons (Oq [(98,.bool true)] (.bool false) (fun V bs h=>(dt 10 h .nil)) (fun bs ms=>QV.not (b:=true) rfl)) ?_
      refine .cons (Oq [(99,.bool false)] (.bool false) (fun V bs h=>(dt 11 h .nil)) (fun bs ms=>QV.move rfl)) ?_
      refine .cons (One.q [(10,.int .i64 (i:Int)),(100,.bool false)] (.int .i64 (i:Int)) rfl rfl (fun V bs h=>(.old rfl (dt 12 h .nil))) (.inr ⟨12,false,100,rfl,rfl,rfl⟩) rfl rfl (fun bs ms=>QV.move rfl)) ?_
      refine .cons (One.q [(0,.slice (some ⟨A,0,none⟩) R cA),(100,.bool false)] (.slice (some ⟨A,0,none⟩) R cA) rfl rfl (fun V bs h=>(.old rfl (dt 12 h .nil))) (.inr ⟨12,false,100,rfl,rfl,rfl⟩) rfl rfl (fun bs ms=>QV.move rfl)) ?_
      refine .cons (One.q [(9,.int .i64 (k:Int)),(100,.bool false)] (.int .i64 (k:Int)) rfl rfl (fun V bs h=>(.old rfl (dt 12 h .nil))) (.inr ⟨12,false,100,rfl,rfl,rfl⟩) rfl rfl (fun bs ms=>QV.move rfl)) ?_
      refine .cons (One.q [(102,.slice (some ⟨A,0,none⟩) R cA),(103,.int .i64 (k:Int)),(100,.bool false)] (.pointer (some ⟨A,k,none⟩)) rfl rfl (fun V bs h=>(dt 14 h (dt 15 h (dt 12 h .nil)))) (.inr ⟨12,false,100,rfl,rfl,rfl⟩) rfl rfl (fun bs ms=>QV.ixN Tryz.runUnderlying46 Tryz.sizeOf44 rfl rfl hk)) ?_
      refine .cons (One.q [(104,.pointer (some ⟨A,k,none⟩)),(100,.bool false)] (.slice (some ⟨b,0,none⟩) (nn k) (cc k)) rfl rfl (fun V bs h=>(dt 16 h (dt 12 h .nil))) (.inr ⟨12,false,100,rfl,rfl,rfl⟩) rfl rfl (fun bs ms=>QV.ldM Tryz.isAgg44 rfl (ms.keep _ _ _ hd (fun q=>q)))) ?_
      refine .cons (One.q [(105,.slice (some ⟨b,0,none⟩) (nn k) (cc k)),(100,.bool false)] (.int .i64 (nn k:Int)) rfl rfl (fun V bs h=>(dt 17 h (dt 12 h .nil))) (.inr ⟨12,false,100,rfl,rfl,rfl⟩) rfl rfl (fun bs ms=>QV.lenM Tryz.runUnderlying44 rfl)) ?_
      refine .cons (One.q [(101,.int .i64 (i:Int)),(106,.int .i64 (nn k:Int)),(100,.bool false)] (.bool true) rfl rfl (fun V bs h=>(dt 13 h (dt 18 h (dt 12 h .nil)))) (.inr ⟨12,false,100,rfl,rfl,rfl⟩) rfl rfl (fun bs ms=>QV.ltB rfl rfl (decide_eq_true (by omega)))) ?_
      refine .cons (One.q [(107,.bool true),(100,.bool false)] (.bool true) rfl rfl (fun V bs h=>(dt 19 h (dt 12 h .nil))) (.inr ⟨12,false,100,rfl,rfl,rfl⟩) rfl rfl (fun bs ms=>QV.move rfl)) ?_
      refine .cons (One.q [(0,.slice (some ⟨A,0,none⟩) R cA),(108,.bool true)] (.slice (some ⟨A,0,none⟩) R cA) rfl rfl (fun V bs h=>(.old rfl (dt 20 h .nil))) (.inr ⟨20,true,108,rfl,rfl,rfl⟩) rfl rfl (fun bs ms=>QV.move rfl)) ?_
      refine .cons (One.q [(9,.int .i64 (k:Int)),(108,.bool true)] (.int .i64 (k:Int)) rfl rfl (fun V bs h=>(.old rfl (dt 20 h .nil))) (.inr ⟨20,true,108,rfl,rfl,rfl⟩) rfl rfl (fun bs ms=>QV.move rfl)) ?_
      refine .cons (One.q [(109,.slice (some ⟨A,0,none⟩) R cA),(110,.int .i64 (k:Int)),(108,.bool true)] (.pointer (some ⟨A,k,none⟩)) rfl rfl (fun V bs h=>(dt 21 h (dt 22 h (dt 20 h .nil)))) (.inr ⟨20,true,108,rfl,rfl,rfl⟩) rfl rfl (fun bs ms=>QV.ixN Tryz.runUnderlying46 Tryz.sizeOf44 rfl rfl hk)) ?_
      refine .cons (One.q [(111,.pointer (some ⟨A,k,none⟩)),(108,.bool true)] (.slice (some ⟨b,0,none⟩) (nn k) (cc k)) rfl rfl (fun V bs h=>(dt 23 h (dt 20 h .nil))) (.inr ⟨20,true,108,rfl,rfl,rfl⟩) rfl rfl (fun bs ms=>QV.ldM Tryz.isAgg44 rfl (ms.keep _ _ _ hd (fun q=>q)))) ?_
      refine .cons (One.q [(10,.int .i64 (i:Int)),(108,.bool true)] (.int .i64 (i:Int)) rfl rfl (fun V bs h=>(.old rfl (dt 20 h .nil))) (.inr ⟨20,true,108,rfl,rfl,rfl⟩) rfl rfl (fun bs ms=>QV.move rfl)) ?_
      refine .cons (One.q [(112,.slice (some ⟨b,0,none⟩) (nn k) (cc k)),(113,.int .i64 (i:Int)),(108,.bool true)] (.pointer (some ⟨b,i,none⟩)) rfl rfl (fun V bs h=>(dt 24 h (dt 25 h (dt 20 h .nil)))) (.inr ⟨20,true,108,rfl,rfl,rfl⟩) rfl rfl (fun bs ms=>QV.ixN Tryz.runUnderlying44 Tryz.sizeOf36 rfl rfl hi2)) ?_
      refine .cons (One.q [(114,.pointer (some ⟨b,i,none⟩)),(108,.bool true)] (.slice (some ⟨q2,0,none⟩) 8 cap2) rfl rfl (fun V bs h=>(dt 26 h (dt 20 h .nil))) (.inr ⟨20,true,108,rfl,rfl,rfl⟩) rfl rfl (fun bs ms=>QV.ldM Tryz.isAgg36 rfl (ms.keep _ _ _ hc2 (fun q=>q)))) ?_
      refine .cons (One.q [(9,.int .i64 (k:Int)),(108,.bool true)] (.int .i64 (k:Int)) rfl rfl (fun V bs h=>(.old rfl (dt 20 h .nil))) (.inr ⟨20,true,108,rfl,rfl,rfl⟩) rfl rfl (fun bs ms=>QV.move rfl)) ?_
      refine .cons (One.q [(10,.int .i64 (i:Int)),(108,.bool true)] (.int .i64 (i:Int)) rfl rfl (fun V bs h=>(.old rfl (dt 20 h .nil))) (.inr ⟨20,true,108,rfl,rfl,rfl⟩) rfl rfl (fun bs ms=>QV.move rfl)) ?_
      refine .cons (One.mark (a:=k) (b:=i) [(116,.int .i64 (k:Int)),(117,.int .i64 (i:Int)),(108,.bool true)] rfl rfl rfl (fun V bs h=>(dt 28 h (dt 29 h (dt 20 h .nil)))) (.inr ⟨20,true,108,rfl,rfl,rfl⟩) rfl rfl) ?_
      refine .cons (One.same (j:=30) [(115,.slice (some ⟨q2,0,none⟩) 8 cap2),(108,.bool true)] rfl rfl rfl rfl rfl rfl (fun V bs y hy h=>.dat 30 rfl rfl hy (dt 27 h (dt 20 h .nil))) (fun y=>(.inr ⟨20,true,108,rfl,rfl,rfl⟩)) rfl rfl hm2 rfl) ?_
      refine .cons (One.q [(119,.bool true),(108,.bool true)] (.bool false) rfl rfl (fun V bs h=>(dt 31 h (dt 20 h .nil))) (.inr ⟨20,true,108,rfl,rfl,rfl⟩) rfl rfl (fun bs ms=>QV.not (b:=true) rfl)) ?_
      refine .cons (One.q [(108,.bool true),(120,.bool false),(100,.bool false)] (.bool false) rfl rfl (fun V bs h=>(dt 20 h (dt 32 h (dt 12 h .nil)))) (.inr ⟨12,false,100,rfl,rfl,rfl⟩) rfl rfl (fun bs ms=>QV.pickT rfl rfl)) ?_
      refine .cons (Oq [(100,.bool false),(121,.bool false)] (.bool false) (fun V bs h=>(dt 12 h (dt 33 h .nil))) (fun bs ms=>QV.pickF rfl rfl)) ?_
      exact .nil
     obtain ⟨ms0,hRV⟩:=hr (by decide)
     refine TE.keep (L':=[(122,.bool false),(10,.int .i64 (i:Int)),(9,.int .i64 (k:Int)),(5,.slice (some ⟨G,0,none⟩) R R),(0,.slice (some ⟨A,0,none⟩) R cA)]) ⟨congrArg some ((hRV 34 (by decide)).toEq rfl),rfl,rfl,rfl,rfl,trivial⟩ ?_
     refine TE.thenN rfl rfl ?_
     refine TC.condF rfl ?_
     refine TC.skip ?_
     refine TE.blockN ?_
     refine TE.thenN rfl rfl ?_
     refine TC.region ?_
     refine MV ?_
     refine IB ?_
     refine AS ?_
     refine TO.nil ?_
     rw [wI (by omega)]
     refine TE.keep (L':=[(10,.int .i64 ((i+1:Nat):Int)),(9,.int .i64 (k:Int)),(5,.slice (some ⟨G,0,none⟩) R R),(0,.slice (some ⟨A,0,none⟩) R cA)]) ⟨rfl,rfl,rfl,rfl,trivial⟩ ?_
     exact hn2 _ _ hi ⟨bs1,rfl,rfl,hx.step ms0 (fun _ _ q=>q.elim),fun j hj=>(hrow j hj).step ms0 (fun _ _ _ q=>q.elim) (fun _ _ q=>q.elim),hg.step ms0 (fun _ _ q=>q.elim) (fun _ _ q=>q.elim)⟩
    refine TC.drawM hmixM W0 (RV [.eq (.slice (some ⟨G,0,none⟩) R R),.eq (.int .i64 (k:Int)),.eq (.pointer (some ⟨G,k,none⟩)),.eq ((.slice (some ⟨b',0,none⟩) (nn k+64) c')),.eq (.int .i64 (i:Int)),.eq (.pointer (some ⟨b',i,none⟩)),.eq (.slice (some ⟨q1,0,none⟩) 8 cap1),.eq (.int .i64 (k:Int)),.eq (.int .i64 (i:Int)),.mk k i,.eq (.bool true),.eq (.bool false),.eq (.bool false),.eq (.int .i64 (i:Int)),.eq (.slice (some ⟨A,0,none⟩) R cA),.eq (.int .i64 (k:Int)),.eq (.pointer (some ⟨A,k,none⟩)),.eq (hdr bk nn cc k),.eq (.int .i64 (nn k:Int)),.eq (.bool false),.eq (.bool false),.eq undef,.eq undef,.eq undef,.eq undef,.eq undef,.eq undef,.eq undef,.eq undef,.eq undef,.eq undef,.eq undef,.eq undef,.eq (.bool false),.eq (.bool false)] bs) 1000 (fun _=>True) [(122,34)] (RV.st _ _) rfl rfl rfl rfl rfl rfl ?_ (fun bs1 V hp hr=>?_)
    ·refine .cons (Om 5 (.slice (some ⟨G,0,none⟩) R R)) ?_
     refine .cons (Om 9 (.int .i64 (k:Int))) ?_
     refine .cons (Oq [(88,.slice (some ⟨G,0,none⟩) R R),(89,.int .i64 (k:Int))] (.pointer (some ⟨G,k,none⟩)) (fun V bs h=>(dt 0 h (dt 1 h .nil))) (fun bs ms=>QV.ixN Tryz.runUnderlying46 Tryz.sizeOf44 rfl rfl hk)) ?_
     refine .cons (Oq [(90,.pointer (some ⟨G,k,none⟩))] ((.slice (some ⟨b',0,none⟩) (nn k+64) c')) (fun V bs h=>(dt 2 h .nil)) (fun bs ms=>QV.ldM Tryz.isAgg44 rfl (ms.keep _ _ _ hG (fun q=>q)))) ?_
     refine .cons (Om 10 (.int .i64 (i:Int))) ?_
     refine .cons (Oq [(91,(.slice (some ⟨b',0,none⟩) (nn k+64) c')),(92,.int .i64 (i:Int))] (.pointer (some ⟨b',i,none⟩)) (fun V bs h=>(dt 3 h (dt 4 h .nil))) (fun bs ms=>QV.ixN Tryz.runUnderlying44 Tryz.sizeOf36 rfl rfl hi)) ?_
     refine .cons (Oq [(93,.pointer (some ⟨b',i,none⟩))] (.slice (some ⟨q1,0,none⟩) 8 cap1) (fun V bs h=>(dt 5 h .nil)) (fun bs ms=>QV.ldM Tryz.isAgg36 rfl (ms.keep _ _ _ hc1 (fun q=>q)))) ?_
     refine .cons (Om 9 (.int .i64 (k:Int))) ?_
     refine .cons (Om 10 (.int .i64 (i:Int))) ?_
     refine .cons (One.mark (a:=k) (b:=i) [(95,.int .i64 (k:Int)),(96,.int .i64 (i:Int))] rfl rfl rfl (fun V bs h=>(dt 7 h (dt 8 h .nil))) (.inl rfl) rfl rfl) ?_
     refine .cons (One.same (j:=9) [(94,.slice (some ⟨q1,0,none⟩) 8 cap1)] rfl rfl rfl rfl rfl rfl (fun V bs y hy h=>.dat 9 rfl rfl hy (dt 6 h .nil)) (fun y=>(.inl rfl)) rfl rfl hm1 rfl) ?_
     refine .cons (Oq [(98,.bool true)] (.bool false) (fun V bs h=>(dt 10 h .nil)) (fun bs ms=>QV.not (b:=true) rfl)) ?_
     refine .cons (Oq [(99,.bool false)] (.bool false) (fun V bs h=>(dt 11 h .nil)) (fun bs ms=>QV.move rfl)) ?_
     refine .cons (One.q [(10,.int .i64 (i:Int)),(100,.bool false)] (.int .i64 (i:Int)) rfl rfl (fun V bs h=>(.old rfl (dt 12 h .nil))) (.inr ⟨12,false,100,rfl,rfl,rfl⟩) rfl rfl (fun bs ms=>QV.move rfl)) ?_
     refine .cons (One.q [(0,.slice (some ⟨A,0,none⟩) R cA),(100,.bool false)] (.slice (some ⟨A,0,none⟩) R cA) rfl rfl (fun V bs h=>(.old rfl (dt 12 h .nil))) (.inr ⟨12,false,100,rfl,rfl,rfl⟩) rfl rfl (fun bs ms=>QV.move rfl)) ?_
     refine .cons (One.q [(9,.int .i64 (k:Int)),(100,.bool false)] (.int .i64 (k:Int)) rfl rfl (fun V bs h=>(.old rfl (dt 12 h .nil))) (.inr ⟨12,false,100,rfl,rfl,rfl⟩) rfl rfl (fun bs ms=>QV.move rfl)) ?_
     refine .cons (One.q [(102,.slice (some ⟨A,0,none⟩) R cA),(103,.int .i64 (k:Int)),(100,.bool false)] (.pointer (some ⟨A,k,none⟩)) rfl rfl (fun V bs h=>(dt 14 h (dt 15 h (dt 12 h .nil)))) (.inr ⟨12,false,100,rfl,rfl,rfl⟩) rfl rfl (fun bs ms=>QV.ixN Tryz.runUnderlying46 Tryz.sizeOf44 rfl rfl hk)) ?_
     refine .cons (One.q [(104,.pointer (some ⟨A,k,none⟩)),(100,.bool false)] (hdr bk nn cc k) rfl rfl (fun V bs h=>(dt 16 h (dt 12 h .nil))) (.inr ⟨12,false,100,rfl,rfl,rfl⟩) rfl rfl (fun bs ms=>QV.ldM Tryz.isAgg44 rfl (ms.keep _ _ _ (hx.hd k hk) (fun q=>q)))) ?_
     refine .cons (One.q [(105,hdr bk nn cc k),(100,.bool false)] (.int .i64 (nn k:Int)) rfl rfl (fun V bs h=>(dt 17 h (dt 12 h .nil))) (.inr ⟨12,false,100,rfl,rfl,rfl⟩) rfl rfl (fun bs ms=>QV.lenM Tryz.runUnderlying44 rfl)) ?_
     refine .cons (One.q [(101,.int .i64 (i:Int)),(106,.int .i64 (nn k:Int)),(100,.bool false)] (.bool false) rfl rfl (fun V bs h=>(dt 13 h (dt 18 h (dt 12 h .nil)))) (.inr ⟨12,false,100,rfl,rfl,rfl⟩) rfl rfl (fun bs ms=>QV.ltB rfl rfl (decide_eq_false (by omega)))) ?_
     refine .cons (One.q [(107,.bool false),(100,.bool false)] (.bool false) rfl rfl (fun V bs h=>(dt 19 h (dt 12 h .nil))) (.inr ⟨12,false,100,rfl,rfl,rfl⟩) rfl rfl (fun bs ms=>QV.move rfl)) ?_
     refine .cons (One.skip [(108,.bool false)] rfl rfl (fun V bs h=>(dt 20 h .nil)) rfl rfl (.inr ⟨_,rfl,rfl⟩) rfl rfl) ?_
     refine .cons (One.skip [(108,.bool false)] rfl rfl (fun V bs h=>(dt 20 h .nil)) rfl rfl (.inr ⟨_,rfl,rfl⟩) rfl rfl) ?_
     refine .cons (One.skip [(108,.bool false)] rfl rfl (fun V bs h=>(dt 20 h .nil)) rfl rfl (.inr ⟨_,rfl,rfl⟩) rfl rfl) ?_
     refine .cons (One.skip [(108,.bool false)] rfl rfl (fun V bs h=>(dt 20 h .nil)) rfl rfl (.inr ⟨_,rfl,rfl⟩) rfl rfl) ?_
     refine .cons (One.skip [(108,.bool false)] rfl rfl (fun V bs h=>(dt 20 h .nil)) rfl rfl (.inr ⟨_,rfl,rfl⟩) rfl rfl) ?_
     refine .cons (One.skip [(108,.bool false)] rfl rfl (fun V bs h=>(dt 20 h .nil)) rfl rfl (.inr ⟨_,rfl,rfl⟩) rfl rfl) ?_
     refine .cons (One.skip [(108,.bool false)] rfl rfl (fun V bs h=>(dt 20 h .nil)) rfl rfl (.inr ⟨_,rfl,rfl⟩) rfl rfl) ?_
     refine .cons (One.skip [(108,.bool false)] rfl rfl (fun V bs h=>(dt 20 h .nil)) rfl rfl (.inr ⟨_,rfl,rfl⟩) rfl rfl) ?_
     refine .cons (One.skip [(108,.bool false)] rfl rfl (fun V bs h=>(dt 20 h .nil)) rfl rfl (.inr ⟨_,rfl,rfl⟩) rfl rfl) ?_
     refine .cons (One.skip [(108,.bool false)] rfl rfl (fun V bs h=>(dt 20 h .nil)) rfl rfl (.inr ⟨_,rfl,rfl⟩) rfl rfl) ?_
     refine .cons (One.skip [(108,.bool false)] rfl rfl (fun V bs h=>(dt 20 h .nil)) rfl rfl (.inr ⟨_,rfl,rfl⟩) rfl rfl) ?_
     refine .cons (One.skip [(108,.bool false)] rfl rfl (fun V bs h=>(dt 20 h .nil)) rfl rfl (.inr ⟨_,rfl,rfl⟩) rfl rfl) ?_
     refine .cons (One.q [(108,.bool false),(120,undef),(100,.bool false)] (.bool false) rfl rfl (fun V bs h=>(dt 20 h (dt 32 h (dt 12 h .nil)))) (.inr ⟨12,false,100,rfl,rfl,rfl⟩) rfl rfl (fun bs ms=>QV.pickF rfl rfl)) ?_
     refine .cons (Oq [(100,.bool false),(121,.bool false)] (.bool false) (fun V bs h=>(dt 12 h (dt 33 h .nil))) (fun bs ms=>QV.pickF rfl rfl)) ?_
     exact .nil
    obtain ⟨ms0,hRV⟩:=hr (by decide)
    refine TE.keep (L':=[(122,.bool false),(10,.int .i64 (i:Int)),(9,.int .i64 (k:Int)),(5,.slice (some ⟨G,0,none⟩) R R),(0,.slice (some ⟨A,0,none⟩) R cA)]) ⟨congrArg some ((hRV 34 (by decide)).toEq rfl),rfl,rfl,rfl,rfl,trivial⟩ ?_
    refine TE.thenN rfl rfl ?_
    refine TC.condF rfl ?_
    refine TC.skip ?_
    refine TE.blockN ?_
    refine TE.thenN rfl rfl ?_
    refine TC.region ?_
    refine MV ?_
    refine IB ?_
    refine AS ?_
    refine TO.nil ?_
    rw [wI (by omega)]
    refine TE.keep (L':=[(10,.int .i64 ((i+1:Nat):Int)),(9,.int .i64 (k:Int)),(5,.slice (some ⟨G,0,none⟩) R R),(0,.slice (some ⟨A,0,none⟩) R cA)]) ⟨rfl,rfl,rfl,rfl,trivial⟩ ?_
    exact hn2 _ _ hi ⟨bs1,rfl,rfl,hx.step ms0 (fun _ _ q=>q.elim),fun j hj=>(hrow j hj).step ms0 (fun _ _ _ q=>q.elim) (fun _ _ q=>q.elim),hg.step ms0 (fun _ _ q=>q.elim) (fun _ _ q=>q.elim)⟩
   have hi:nn k+64≤i:=by have:=of_decide_eq_false hb;omega
   refine TC.exit ?_
   refine TE.thenX ?_
   refine TE.loopX ?_
   refine TE.blockH ?_
   refine TE.blockN ?_
   refine TE.thenN rfl rfl ?_
   refine TC.region ?_
   refine MV ?_
   refine IB ?_
   refine AS ?_
   refine TO.nil ?_
   rw [wI (by omega)]
   refine TE.keep (L':=[(9,.int .i64 ((k+1:Nat):Int)),(5,.slice (some ⟨G,0,none⟩) R R),(0,.slice (some ⟨A,0,none⟩) R cA)]) ⟨rfl,rfl,rfl,trivial⟩ ?_
   exact hn1 _ _ hk ⟨bs,rfl,rfl,hx,hrow,hg⟩
  have hk:R≤k:=by have:=of_decide_eq_false hb;omega
  refine TC.exit ?_
  refine TE.thenX ?_
  refine TE.loopX ?_
  refine TE.blockH ?_
  refine TE.keep (L':=[(5,.slice (some ⟨G,0,none⟩) R R),(0,.slice (some ⟨A,0,none⟩) R cA)]) ⟨rfl,rfl,trivial⟩ ?_
  exact TE.mid ⟨bs,rfl,rfl,hx,hrow,hg⟩
 clear hx hrow hg
 obtain ⟨bs,rfl,rfl,hx,hrow,hg⟩:=hm
 replace hg:Gy R nn φ bs G R nn:=hg.less (fun j=>by omega)
 refine TC.cut (fun L H=>∃bs φ,L=[(5,.slice (some ⟨G,0,none⟩) R R),(0,.slice (some ⟨A,0,none⟩) R cA)]∧H=⟨bs,[]⟩∧Fy b0 R A bk nn cc φ bs∧(∀j,j < R→RowY R φ bk bs j (nn j))∧Gy R nn φ bs G R nn) ?_ (fun L H hm=>?_)
 ·refine TC.seq (TC.region ?_)
  refine AS ?_
  refine NT ?_
  refine TC.block ?_
  refine TC.keep (L':=[(11,.int .i64 ((0:Nat):Int)),(5,.slice (some ⟨G,0,none⟩) R R),(0,.slice (some ⟨A,0,none⟩) R cA)]) ⟨rfl,rfl,rfl,trivial⟩ ?_
  refine TC.loopN (fun k L H=>∃bs φ,L=[(11,.int .i64 (k:Int)),(5,.slice (some ⟨G,0,none⟩) R R),(0,.slice (some ⟨A,0,none⟩) R cA)]∧H=⟨bs,[]⟩∧Fy b0 R A bk nn cc φ bs∧(∀j,j < R→RowY R φ bk bs j (nn j))∧Gy R nn φ bs G R nn) R (fun K1 k L H hs hle1 hn1=>?_) ⟨bs,φ,rfl,rfl,hx,hrow,hg⟩
  obtain ⟨bs,φ,rfl,rfl,hx,hrow,hg⟩:=hs
  refine TC.seq ?_
  refine TC.seq (TC.region ?_)
  refine MV ?_
  refine MV ?_
  refine TO.u rfl rfl (TX.lenM Tryz.runUnderlying46 rfl rfl ?_)
  refine IB ?_
  refine NT ?_
  refine TC.cond rfl (fun hb=>?_) (fun hb=>?_)
  ·have hk:k < R:=by have:=of_decide_eq_true hb;omega
   refine TC.skip ?_
   refine TE.thenN rfl rfl ?_
   refine TC.seq ?_
   refine TC.block ?_
   have hnk:=hns k hk
   refine TC.seq (TC.region ?_)
   refine TO.u rfl rfl (TX.mkM (by':=24) (k:=64) Tryz.runUnderlying44 Tryz.typeInfo36 rfl rfl rfl rfl rfl rfl ⟨by decide,by decide⟩ rfl (fun M bm hM ms0 hBM hz=>?_))
   refine AS ?_
   refine NT ?_
   have hMx:∃φ,Fy b0 R A bk nn cc φ bm∧(∀j,j < R→RowY R φ bk bm j (nn j))∧Gy R nn φ bm G R nn∧HasB bm M 36 64∧OC bm M∧φ M=some (R+4):=by
    have hp:∀b∈ids bs,(fun x=>if x=M then some (R+4) else φ x) b=φ b:=fun b hb=>if_neg (fun (e:b=M)=>hM (by rw [← e];exact hb))
    exact ⟨_,(hx.phi hR hp).step ms0 (fun _ _ q=>q.elim),fun j hj=>((hrow j hj).phi hp).step ms0 (fun _ _ _ q=>q.elim) (fun _ _ q=>q.elim),(hg.phi hp).step ms0 (fun _ _ q=>q.elim) (fun _ _ q=>q.elim),hBM,fun j hj=>⟨_,hz j hj,rfl⟩,if_pos rfl⟩
   clear hx hg hrow hz ms0 hBM
   obtain ⟨φ,hx,hrow,hg,hBM,hoc,hφM⟩:=hMx
   refine TC.cut (fun L H=>∃bs φ,L=[(12,.slice (some ⟨M,0,none⟩) 64 64),(11,.int .i64 (k:Int)),(5,.slice (some ⟨G,0,none⟩) R R),(0,.slice (some ⟨A,0,none⟩) R cA)]∧H=⟨bs,[]⟩∧Fy b0 R A bk nn cc φ bs∧(∀j,j < R→RowY R φ bk bs j (nn j))∧Gy R nn φ bs G R nn∧HasB bs M 36 64∧OC bs M∧φ M=some (R+4)) ?_ (fun L H hm=>?_)
   ·refine TC.seq (TC.region ?_)
    refine AS ?_
    refine NT ?_
    refine TC.block ?_
    refine TC.keep (L':=[(13,.int .i64 ((0:Nat):Int)),(12,.slice (some ⟨M,0,none⟩) 64 64),(11,.int .i64 (k:Int)),(5,.slice (some ⟨G,0,none⟩) R R),(0,.slice (some ⟨A,0,none⟩) R cA)]) ⟨rfl,rfl,rfl,rfl,rfl,trivial⟩ ?_
    refine TC.loopN (fun i L H=>∃bs φ,L=[(13,.int .i64 (i:Int)),(12,.slice (some ⟨M,0,none⟩) 64 64),(11,.int .i64 (k:Int)),(5,.slice (some ⟨G,0,none⟩) R R),(0,.slice (some ⟨A,0,none⟩) R cA)]∧H=⟨bs,[]⟩∧Fy b0 R A bk nn cc φ bs∧(∀j,j < R→RowY R φ bk bs j (nn j))∧Gy R nn φ bs G R nn∧HasB bs M 36 64∧OC bs M∧φ M=some (R+4)) 64 (fun K2 i L H hs hle2 hn2=>?_) ⟨bm,φ,rfl,rfl,hx,hrow,hg,hBM,hoc,hφM⟩
    obtain ⟨bs,φ,rfl,rfl,hx,hrow,hg,hBM,hoc,hφM⟩:=hs
    refine TC.seq ?_
    refine TC.seq (TC.region ?_)
    refine MV ?_
    refine IB ?_
    refine NT ?_
    refine TC.cond rfl (fun hb=>?_) (fun hb=>?_)
    ·have hi:i < 64:=by have:=of_decide_eq_true hb;omega
     refine TC.skip ?_
     refine TE.thenN rfl rfl ?_
     refine TC.seq ?_
     refine TC.block ?_
     refine TC.region ?_
     refine MV ?_
     refine MV ?_
     refine MV ?_
     refine MV ?_
     refine TO.u rfl rfl (TX.lenM Tryz.runUnderlying46 rfl rfl ?_)
     refine IB ?_
     rw [wA (by omega)]
     refine MV ?_
     refine TO.u rfl rfl (TX.callN (fun v nw=>∃q cap,v=.slice (some ⟨q,0,none⟩) 8 cap∧MB nw q (k+R) i) Tryz.call92 rfl (fun w=>c92r (k+R) i w) rfl ?_)
     rintro _ nw ⟨q0,cap0,rfl,hm0⟩ hfr
     refine TO.u rfl rfl (TX.ixN Tryz.runUnderlying44 Tryz.sizeOf36 rfl rfl hi rfl ?_)
     refine TO.u rfl rfl (TX.stM (v:=.slice (some ⟨q0,0,none⟩) 8 cap0) Tryz.sizeOf36 rfl rfl rfl rfl ((msM0 nw).blk _ _ _ hBM) hi (fun bs1 ms c1=>?_))
     refine TO.nil ?_
     refine TE.blockN ?_
     refine TE.thenN rfl rfl ?_
     refine TC.region ?_
     refine MV ?_
     refine IB ?_
     refine AS ?_
     refine TO.nil ?_
     rw [wI (by omega)]
     refine TE.keep (L':=[(13,.int .i64 ((i+1:Nat):Int)),(12,.slice (some ⟨M,0,none⟩) 64 64),(11,.int .i64 (k:Int)),(5,.slice (some ⟨G,0,none⟩) R R),(0,.slice (some ⟨A,0,none⟩) R cA)]) ⟨rfl,rfl,rfl,rfl,rfl,trivial⟩ ?_
     have ms0:MS bs (nw++bs) W0:=msM0 nw
     have hMi:M∈ids bs:=hBM.id
     have hφM2:newφ R bs φ M=some (R+4):=by rw [newφ_old _ hMi];exact hφM
     have h3:∀b' i',(b'=M∧i'=i)→newφ R bs φ b'≠some (R+3):=fun b' i' e=>by rw [e.1,hφM2];intro e;have:=Option.some.inj e;omega
     refine hn2 _ _ hi ⟨bs1,newφ R bs φ,rfl,rfl,(hx.new hR ms0).step ms (fun b' i' q=>by rw [q.1,hφM2];intro e;have:=Option.some.inj e;omega),fun j hj=>((hrow j hj).new ms0).step ms (fun b' i' hb' q=>by have h1:=(hx.bl j hj b' hb').1;rw [q.1,hφM] at h1;have:=Option.some.inj h1;omega) h3,(hg.new ms0).step ms (fun b' i' q=>by rw [q.1,hφM2];exact ⟨fun e=>by have:=Option.some.inj e;omega,fun j hj e=>by have:=Option.some.inj e;omega⟩) h3,ms.blk _ _ _ (ms0.blk _ _ _ hBM),fun j hj=>?_,hφM2⟩
     by_cases e:j=i
     ·subst e;exact ⟨_,c1,rfl⟩
     obtain ⟨v,h1,h2⟩:=hoc j hj
     exact ⟨v,ms.keep _ _ _ (ms0.keep _ _ _ h1 (fun q=>q)) (fun q=>e q.2),h2⟩
    have hi:64≤i:=by have:=of_decide_eq_false hb;omega
    refine TC.exit ?_
    refine TE.thenX ?_
    refine TE.loopX ?_
    refine TE.blockH ?_
    refine TE.keep (L':=[(12,.slice (some ⟨M,0,none⟩) 64 64),(11,.int .i64 (k:Int)),(5,.slice (some ⟨G,0,none⟩) R R),(0,.slice (some ⟨A,0,none⟩) R cA)]) ⟨rfl,rfl,rfl,rfl,trivial⟩ ?_
    exact TE.mid ⟨bs,φ,rfl,rfl,hx,hrow,hg,hBM,hoc,hφM⟩
   clear hx hrow hg hBM hoc hφM
   obtain ⟨bs,φ,rfl,rfl,hx,hrow,hg,hBM,hoc,hφM⟩:=hm
   obtain ⟨news,hnews⟩:=hoc.fn
   refine TC.region ?_
   refine MV ?_
   refine MV ?_
   refine MV ?_
   refine MV ?_
   refine TO.u rfl rfl (TX.ixN Tryz.runUnderlying46 Tryz.sizeOf44 rfl rfl hk rfl ?_)
   refine TO.u rfl rfl (TX.ldM Tryz.isAgg44 rfl (hx.hd k hk) rfl ?_)
   refine MV ?_
   refine TO.u rfl rfl (TX.apM (src:=bk k) (q:=M) (by':=24) Tryz.runUnderlying44 Tryz.typeInfo36 rfl rfl rfl rfl rfl rfl (fun b hb=>⟨(hx.bl k hk b hb).2.1,(hx.bl k hk b hb).2.2⟩) (hx.no k hk) news (fun j hj=>(hnews j hj).1) (fun j hj=>(hnews j hj).2) (by omega) (by omega) (by omega) rfl (fun b' cap' bs' hb' ms hB' hcap hold hnew=>?_))
   have hφq:∀x∈ids bs,(if x=b' then some k else φ x)=φ x:=fun x hx'=>by
    by_cases e:x=b'
    ·rw [if_pos e,e]
     rcases hb' with ⟨h1,_⟩ | h1
     ·exact (hx.bl k hk b' h1).1.symm
     exact absurd (e▸hx') h1
    rw [if_neg e]
   have hW:∀b i',(bk k=some b∧nn k≤i')→(if b=b' then some k else φ b)=some k:=fun b i' q=>by
    rw [hφq b (hx.bl k hk b q.1).2.1.id];exact (hx.bl k hk b q.1).1
   have h3:∀b i',(bk k=some b∧nn k≤i')→(if b=b' then some k else φ b)≠some (R+3):=fun b i' q=>by rw [hW b i' q];intro e;have:=Option.some.inj e;omega
   have hcb:∀i',i' < nn k→MC R (fun x=>if x=b' then some k else φ x) bs' b' i' k i':=fun i' hi'=>by
    cases hsrc:bk k with
    | none=>have:=(hx.no k hk hsrc).1;omega
    | some b =>
     obtain ⟨q2,cap2,hc2,hφ2,hm2⟩:=(hrow k hk b hsrc i' hi').phi hφq
     exact ⟨q2,cap2,hold b hsrc i' _ hi' hc2,hφ2,hm2.step ms (fun t e=>h3 _ _ e hφ2)⟩
   replace hrow:∀j,j < R→RowY R (fun x=>if x=b' then some k else φ x) bk bs' j (nn j):=fun j hj=>((hrow j hj).phi hφq).step ms (fun b i' hb q=>by
    have h1:=(hx.bl j hj b hb).1
    rw [(hx.bl k hk b q.1).1] at h1
    obtain rfl:k=j:=Option.some.inj h1
    exact q.2) h3
   replace hg:Gy R nn (fun x=>if x=b' then some k else φ x) bs' G R nn:=(hg.phi hφq).step ms (fun b i' q=>⟨by rw [hW b i' q];intro e;have:=Option.some.inj e;omega,fun j hj e=>by rw [hW b i' q] at e;have:=Option.some.inj e;subst this;exact q.2⟩) h3
   replace hx:Fy b0 R A bk nn cc (fun x=>if x=b' then some k else φ x) bs':=(hx.phi hR hφq).step ms (fun b i' q=>by rw [hW b i' q];intro e;have:=Option.some.inj e;omega)
   refine TO.u rfl rfl (TX.ixN Tryz.runUnderlying46 Tryz.sizeOf44 rfl rfl hk rfl ?_)
   refine TO.u rfl rfl (TX.stM (v:=.slice (some ⟨b',0,none⟩) (nn k+64) cap') Tryz.sizeOf44 rfl rfl rfl rfl hg.hb (by omega) (fun bs1 ms1 c1=>?_))
   refine TO.nil ?_
   refine TE.blockN ?_
   refine TE.thenN rfl rfl ?_
   refine TC.region ?_
   refine MV ?_
   refine IB ?_
   refine AS ?_
   refine TO.nil ?_
   rw [wI (by omega)]
   refine TE.keep (L':=[(11,.int .i64 ((k+1:Nat):Int)),(5,.slice (some ⟨G,0,none⟩) R R),(0,.slice (some ⟨A,0,none⟩) R cA)]) ⟨rfl,rfl,rfl,trivial⟩ ?_
   have hbG:b'≠G:=fun e=>by have h3:=hg.g;rw [← e,if_pos rfl] at h3;have:=Option.some.inj h3;omega
   have h3G:∀b i',(b=G∧i'=k)→(if b=b' then some k else φ b)≠some (R+3):=fun b i' q=>by rw [q.1];have:=hg.g;intro e;rw [this] at e;have:=Option.some.inj e;omega
   exact hn1 _ _ hk ⟨bs1,_,rfl,rfl,hx.step ms1 (fun b i' q=>by rw [q.1,hg.g];intro e;have:=Option.some.inj e;omega),fun j hj=>(hrow j hj).step ms1 (fun b i' hb q=>by have h1:=(hx.bl j hj b hb).1;rw [q.1,hg.g] at h1;have:=Option.some.inj h1;omega) h3G,hg.put (by omega) ms1 c1 (if_pos rfl) hB'.id hcb hbG _ (by omega) (by omega)⟩
  have hk:R≤k:=by have:=of_decide_eq_false hb;omega
  refine TC.exit ?_
  refine TE.thenX ?_
  refine TE.loopX ?_
  refine TE.blockH ?_
  refine TE.keep (L':=[(5,.slice (some ⟨G,0,none⟩) R R),(0,.slice (some ⟨A,0,none⟩) R cA)]) ⟨rfl,rfl,trivial⟩ ?_
  exact TE.mid ⟨bs,φ,rfl,rfl,hx,hrow,hg⟩
 clear hx hrow hg
 obtain ⟨bs,φ,rfl,rfl,hx,hrow,hg⟩:=hm
 refine TC.cut (fun L H=>∃bs,L=[(5,.slice (some ⟨G,0,none⟩) R R),(0,.slice (some ⟨A,0,none⟩) R cA)]∧H=⟨bs,[]⟩∧Fy b0 R A bk nn cc φ bs∧(∀j,j < R→RowY R φ bk bs j (nn j))∧Gy R nn φ bs G R nn) ?_ (fun L H hm=>?_)
 ·refine TC.seq (TC.region ?_)
  refine AS ?_
  refine NT ?_
  refine TC.block ?_
  refine TC.keep (L':=[(14,.int .i64 ((0:Nat):Int)),(5,.slice (some ⟨G,0,none⟩) R R),(0,.slice (some ⟨A,0,none⟩) R cA)]) ⟨rfl,rfl,rfl,trivial⟩ ?_
  refine TC.loopN (fun k L H=>∃bs,L=[(14,.int .i64 (k:Int)),(5,.slice (some ⟨G,0,none⟩) R R),(0,.slice (some ⟨A,0,none⟩) R cA)]∧H=⟨bs,[]⟩∧Fy b0 R A bk nn cc φ bs∧(∀j,j < R→RowY R φ bk bs j (nn j))∧Gy R nn φ bs G R nn) R (fun K1 k L H hs hle1 hn1=>?_) ⟨bs,rfl,rfl,hx,hrow,hg⟩
  obtain ⟨bs,rfl,rfl,hx,hrow,hg⟩:=hs
  refine TC.seq ?_
  refine TC.seq (TC.region ?_)
  refine MV ?_
  refine MV ?_
  refine TO.u rfl rfl (TX.lenM Tryz.runUnderlying46 rfl rfl ?_)
  refine IB ?_
  refine NT ?_
  refine TC.cond rfl (fun hb=>?_) (fun hb=>?_)
  ·have hk:k < R:=by have:=of_decide_eq_true hb;omega
   refine TC.skip ?_
   refine TE.thenN rfl rfl ?_
   refine TC.seq ?_
   refine TC.block ?_
   have hnk:=hns k hk
   refine TC.seq (TC.region ?_)
   refine AS ?_
   refine NT ?_
   refine TC.block ?_
   refine TC.keep (L':=[(15,.int .i64 ((0:Nat):Int)),(14,.int .i64 (k:Int)),(5,.slice (some ⟨G,0,none⟩) R R),(0,.slice (some ⟨A,0,none⟩) R cA)]) ⟨rfl,rfl,rfl,rfl,trivial⟩ ?_
   refine TC.loopN (fun i L H=>∃bs,L=[(15,.int .i64 (i:Int)),(14,.int .i64 (k:Int)),(5,.slice (some ⟨G,0,none⟩) R R),(0,.slice (some ⟨A,0,none⟩) R cA)]∧H=⟨bs,[]⟩∧Fy b0 R A bk nn cc φ bs∧(∀j,j < R→RowY R φ bk bs j (nn j))∧Gy R nn φ bs G R nn) (nn k) (fun K2 i L H hs hle2 hn2=>?_) ⟨bs,rfl,rfl,hx,hrow,hg⟩
   obtain ⟨bs,rfl,rfl,hx,hrow,hg⟩:=hs
   obtain ⟨b',c',hG,hφ',hid',hmk⟩:=hg.rw_ k hk
   refine TC.seq ?_
   refine TC.seq (TC.region ?_)
   refine MV ?_
   refine MV ?_
   refine MV ?_
   refine TO.u rfl rfl (TX.ixN Tryz.runUnderlying46 Tryz.sizeOf44 rfl rfl hk rfl ?_)
   refine TO.u rfl rfl (TX.ldM Tryz.isAgg44 rfl (hx.hd k hk) rfl ?_)
   refine TO.u rfl rfl (TX.lenM Tryz.runUnderlying44 rfl rfl ?_)
   refine IB ?_
   refine NT ?_
   refine TC.cond rfl (fun hb=>?_) (fun hb=>?_)
   ·have hi:i < nn k:=by have:=of_decide_eq_true hb;omega
    refine TC.skip ?_
    refine TE.thenN rfl rfl ?_
    refine TC.seq ?_
    refine TC.block ?_
    refine TC.seq ?_
    refine TC.keep (L':=[(15,.int .i64 (i:Int)),(14,.int .i64 (k:Int)),(5,.slice (some ⟨G,0,none⟩) R R),(0,.slice (some ⟨A,0,none⟩) R cA)]) ⟨rfl,rfl,rfl,rfl,trivial⟩ ?_
    obtain ⟨q1,cap1,hc1,_,hm1⟩:=hmk i hi
    have hi2:=hi
    obtain ⟨b,hbk⟩:∃b,bk k=some b:=by
     cases hc:bk k with
     | none=>have:=(hx.no k hk hc).1;omega
     | some b=>exact ⟨b,rfl⟩
    have hd:Cell bs A k (.slice (some ⟨b,0,none⟩) (nn k) (cc k)):=by have:=hx.hd k hk;rw [hdr,hbk] at this;exact this
    obtain ⟨q2,cap2,hc2,_,hm2⟩:=hrow k hk b hbk i hi2
    refine TC.drawM hmixM W0 (RV [.eq (.slice (some ⟨A,0,none⟩) R cA),.eq (.int .i64 (k:Int)),.eq (.pointer (some ⟨A,k,none⟩)),.eq (.slice (some ⟨b,0,none⟩) (nn k) (cc k)),.eq (.int .i64 (i:Int)),.eq (.pointer (some ⟨b,i,none⟩)),.eq (.slice (some ⟨q2,0,none⟩) 8 cap2),.eq (.int .i64 (k:Int)),.eq (.int .i64 (i:Int)),.mk k i,.eq (.bool true),.eq (.bool false),.eq (.bool false),.eq (.slice (some ⟨G,0,none⟩) R R),.eq (.int .i64 (k:Int)),.eq (.pointer (some ⟨G,k,none⟩)),.eq ((.slice (some ⟨b',0,none⟩) (nn k+64) c')),.eq (.int .i64 (i:Int)),.eq (.pointer (some ⟨b',i,none⟩)),.eq (.slice (some ⟨q1,0,none⟩) 8 cap1),.eq (.int .i64 (k:Int)),.eq (.int .i64 (i:Int)),.mk k i,.eq (.bool true),.eq (.bool false),.eq (.bool false)] bs) 1000 (fun _=>True) [(192,25)] (RV.st _ _) rfl rfl rfl rfl rfl rfl ?_ (fun bs1 V hp hr=>?_)
    ·refine .cons (Om 0 (.slice (some ⟨A,0,none⟩) R cA)) ?_
     refine .cons (Om 14 (.int .i64 (k:Int))) ?_
     refine .cons (Oq [(167,.slice (some ⟨A,0,none⟩) R cA),(168,.int .i64 (k:Int))] (.pointer (some ⟨A,k,none⟩)) (fun V bs h=>(dt 0 h (dt 1 h .nil))) (fun bs ms=>QV.ixN Tryz.runUnderlying46 Tryz.sizeOf44 rfl rfl hk)) ?_
     refine .cons (Oq [(169,.pointer (some ⟨A,k,none⟩))] (.slice (some ⟨b,0,none⟩) (nn k) (cc k)) (fun V bs h=>(dt 2 h .nil)) (fun bs ms=>QV.ldM Tryz.isAgg44 rfl (ms.keep _ _ _ hd (fun q=>q)))) ?_
     refine .cons (Om 15 (.int .i64 (i:Int))) ?_
     refine .cons (Oq [(170,.slice (some ⟨b,0,none⟩) (nn k) (cc k)),(171,.int .i64 (i:Int))] (.pointer (some ⟨b,i,none⟩)) (fun V bs h=>(dt 3 h (dt 4 h .nil))) (fun bs ms=>QV.ixN Tryz.runUnderlying44 Tryz.sizeOf36 rfl rfl hi2)) ?_
     refine .cons (Oq [(172,.pointer (some ⟨b,i,none⟩))] (.slice (some ⟨q2,0,none⟩) 8 cap2) (fun V bs h=>(dt 5 h .nil)) (fun bs ms=>QV.ldM Tryz.isAgg36 rfl (ms.keep _ _ _ hc2 (fun q=>q)))) ?_
     refine .cons (Om 14 (.int .i64 (k:Int))) ?_
     refine .cons (Om 15 (.int .i64 (i:Int))) ?_
     refine .cons (One.mark (a:=k) (b:=i) [(174,.int .i64 (k:Int)),(175,.int .i64 (i:Int))] rfl rfl rfl (fun V bs h=>(dt 7 h (dt 8 h .nil))) (.inl rfl) rfl rfl) ?_
     refine .cons (One.same (j:=9) [(173,.slice (some ⟨q2,0,none⟩) 8 cap2)] rfl rfl rfl rfl rfl rfl (fun V bs y hy h=>.dat 9 rfl rfl hy (dt 6 h .nil)) (fun y=>(.inl rfl)) rfl rfl hm2 rfl) ?_
     refine .cons (Oq [(177,.bool true)] (.bool false) (fun V bs h=>(dt 10 h .nil)) (fun bs ms=>QV.not (b:=true) rfl)) ?_
     refine .cons (Oq [(178,.bool false)] (.bool false) (fun V bs h=>(dt 11 h .nil)) (fun bs ms=>QV.move rfl)) ?_
     refine .cons (One.q [(5,.slice (some ⟨G,0,none⟩) R R),(179,.bool false)] (.slice (some ⟨G,0,none⟩) R R) rfl rfl (fun V bs h=>(.old rfl (dt 12 h .nil))) (.inr ⟨12,false,179,rfl,rfl,rfl⟩) rfl rfl (fun bs ms=>QV.move rfl)) ?_
     refine .cons (One.q [(14,.int .i64 (k:Int)),(179,.bool false)] (.int .i64 (k:Int)) rfl rfl (fun V bs h=>(.old rfl (dt 12 h .nil))) (.inr ⟨12,false,179,rfl,rfl,rfl⟩) rfl rfl (fun bs ms=>QV.move rfl)) ?_
     refine .cons (One.q [(180,.slice (some ⟨G,0,none⟩) R R),(181,.int .i64 (k:Int)),(179,.bool false)] (.pointer (some ⟨G,k,none⟩)) rfl rfl (fun V bs h=>(dt 13 h (dt 14 h (dt 12 h .nil)))) (.inr ⟨12,false,179,rfl,rfl,rfl⟩) rfl rfl (fun bs ms=>QV.ixN Tryz.runUnderlying46 Tryz.sizeOf44 rfl rfl hk)) ?_
     refine .cons (One.q [(182,.pointer (some ⟨G,k,none⟩)),(179,.bool false)] ((.slice (some ⟨b',0,none⟩) (nn k+64) c')) rfl rfl (fun V bs h=>(dt 15 h (dt 12 h .nil))) (.inr ⟨12,false,179,rfl,rfl,rfl⟩) rfl rfl (fun bs ms=>QV.ldM Tryz.isAgg44 rfl (ms.keep _ _ _ hG (fun q=>q)))) ?_
     refine .cons (One.q [(15,.int .i64 (i:Int)),(179,.bool false)] (.int .i64 (i:Int)) rfl rfl (fun V bs h=>(.old rfl (dt 12 h .nil))) (.inr ⟨12,false,179,rfl,rfl,rfl⟩) rfl rfl (fun bs ms=>QV.move rfl)) ?_
     refine .cons (One.q [(183,(.slice (some ⟨b',0,none⟩) (nn k+64) c')),(184,.int .i64 (i:Int)),(179,.bool false)] (.pointer (some ⟨b',i,none⟩)) rfl rfl (fun V bs h=>(dt 16 h (dt 17 h (dt 12 h .nil)))) (.inr ⟨12,false,179,rfl,rfl,rfl⟩) rfl rfl (fun bs ms=>QV.ixN Tryz.runUnderlying44 Tryz.sizeOf36 rfl rfl (by omega))) ?_
     refine .cons (One.q [(185,.pointer (some ⟨b',i,none⟩)),(179,.bool false)] (.slice (some ⟨q1,0,none⟩) 8 cap1) rfl rfl (fun V bs h=>(dt 18 h (dt 12 h .nil))) (.inr ⟨12,false,179,rfl,rfl,rfl⟩) rfl rfl (fun bs ms=>QV.ldM Tryz.isAgg36 rfl (ms.keep _ _ _ hc1 (fun q=>q)))) ?_
     refine .cons (One.q [(14,.int .i64 (k:Int)),(179,.bool false)] (.int .i64 (k:Int)) rfl rfl (fun V bs h=>(.old rfl (dt 12 h .nil))) (.inr ⟨12,false,179,rfl,rfl,rfl⟩) rfl rfl (fun bs ms=>QV.move rfl)) ?_
     refine .cons (One.q [(15,.int .i64 (i:Int)),(179,.bool false)] (.int .i64 (i:Int)) rfl rfl (fun V bs h=>(.old rfl (dt 12 h .nil))) (.inr ⟨12,false,179,rfl,rfl,rfl⟩) rfl rfl (fun bs ms=>QV.move rfl)) ?_
     refine .cons (One.mark (a:=k) (b:=i) [(187,.int .i64 (k:Int)),(188,.int .i64 (i:Int)),(179,.bool false)] rfl rfl rfl (fun V bs h=>(dt 20 h (dt 21 h (dt 12 h .nil)))) (.inr ⟨12,false,179,rfl,rfl,rfl⟩) rfl rfl) ?_
     refine .cons (One.same (j:=22) [(186,.slice (some ⟨q1,0,none⟩) 8 cap1),(179,.bool false)] rfl rfl rfl rfl rfl rfl (fun V bs y hy h=>.dat 22 rfl rfl hy (dt 19 h (dt 12 h .nil))) (fun y=>(.inr ⟨12,false,179,rfl,rfl,rfl⟩)) rfl rfl hm1 rfl) ?_
     refine .cons (One.q [(190,.bool true),(179,.bool false)] (.bool false) rfl rfl (fun V bs h=>(dt 23 h (dt 12 h .nil))) (.inr ⟨12,false,179,rfl,rfl,rfl⟩) rfl rfl (fun bs ms=>QV.not (b:=true) rfl)) ?_
     refine .cons (Oq [(179,.bool false),(191,.bool false)] (.bool false) (fun V bs h=>(dt 12 h (dt 24 h .nil))) (fun bs ms=>QV.pickF rfl rfl)) ?_
     exact .nil
    obtain ⟨ms0,hRV⟩:=hr (by decide)
    refine TE.keep (L':=[(192,.bool false),(15,.int .i64 (i:Int)),(14,.int .i64 (k:Int)),(5,.slice (some ⟨G,0,none⟩) R R),(0,.slice (some ⟨A,0,none⟩) R cA)]) ⟨congrArg some ((hRV 25 (by decide)).toEq rfl),rfl,rfl,rfl,rfl,trivial⟩ ?_
    refine TE.thenN rfl rfl ?_
    refine TC.condF rfl ?_
    refine TC.skip ?_
    refine TE.blockN ?_
    refine TE.thenN rfl rfl ?_
    refine TC.region ?_
    refine MV ?_
    refine IB ?_
    refine AS ?_
    refine TO.nil ?_
    rw [wI (by omega)]
    refine TE.keep (L':=[(15,.int .i64 ((i+1:Nat):Int)),(14,.int .i64 (k:Int)),(5,.slice (some ⟨G,0,none⟩) R R),(0,.slice (some ⟨A,0,none⟩) R cA)]) ⟨rfl,rfl,rfl,rfl,trivial⟩ ?_
    exact hn2 _ _ hi ⟨bs1,rfl,rfl,hx.step ms0 (fun _ _ q=>q.elim),fun j hj=>(hrow j hj).step ms0 (fun _ _ _ q=>q.elim) (fun _ _ q=>q.elim),hg.step ms0 (fun _ _ q=>q.elim) (fun _ _ q=>q.elim)⟩
   have hi:nn k≤i:=by have:=of_decide_eq_false hb;omega
   refine TC.exit ?_
   refine TE.thenX ?_
   refine TE.loopX ?_
   refine TE.blockH ?_
   refine TE.blockN ?_
   refine TE.thenN rfl rfl ?_
   refine TC.region ?_
   refine MV ?_
   refine IB ?_
   refine AS ?_
   refine TO.nil ?_
   rw [wI (by omega)]
   refine TE.keep (L':=[(14,.int .i64 ((k+1:Nat):Int)),(5,.slice (some ⟨G,0,none⟩) R R),(0,.slice (some ⟨A,0,none⟩) R cA)]) ⟨rfl,rfl,rfl,trivial⟩ ?_
   exact hn1 _ _ hk ⟨bs,rfl,rfl,hx,hrow,hg⟩
  have hk:R≤k:=by have:=of_decide_eq_false hb;omega
  refine TC.exit ?_
  refine TE.thenX ?_
  refine TE.loopX ?_
  refine TE.blockH ?_
  refine TE.keep (L':=[(5,.slice (some ⟨G,0,none⟩) R R),(0,.slice (some ⟨A,0,none⟩) R cA)]) ⟨rfl,rfl,trivial⟩ ?_
  exact TE.mid ⟨bs,rfl,rfl,hx,hrow,hg⟩
 clear hx hrow hg
 obtain ⟨bs,rfl,rfl,hx,hrow,hg⟩:=hm
 refine TC.seq (TC.region ?_)
 refine AS ?_
 refine NT ?_
 refine TC.ret ?_
 exact TE.fin (R:=⟨_,[]⟩) (TL.ret (R':=⟨bs,[]⟩) Tryz.results67 (.cons (.tmp rfl) .nil) (List.Sublist.refl _) ⟨bs,rfl,rfl,hx.z.1⟩)
end Go.Proofs.YteicbpfkljnemaaGreat
namespace Go.Proofs.YteicbpfkljnemaaGreat
open Go Go.HW Fl
abbrev Hd:=Option Nat×Nat×Nat
def hv (h:Hd):Value:=.slice (h.1.map fun b=>⟨b,0,none⟩) h.2.1 h.2.2
def bks (l:List Hd):List Nat:=l.filterMap (·.1)
structure RowsOk (bs:Blocks) (T:TypeId) (l:List Hd):Prop where
 some_:∀h∈l,∀b,h.1=some b→HasB bs b T h.2.2∧h.2.1≤h.2.2
 none_:∀h∈l,h.1=none→h.2.1=0∧h.2.2=0
 sm:∀h∈l,h.2.1≤1000000
 nd:(bks l).Nodup
 len:l.length≤1000000
theorem RowsOk.step {bs bs':Blocks} {T:TypeId} {l:List Hd} {W:Nat→Nat→Prop} (h:RowsOk bs T l) (ms:MS bs bs' W):RowsOk bs' T l :=
 ⟨fun x hx b hb=>⟨ms.blk _ _ _ (h.some_ x hx b hb).1,(h.some_ x hx b hb).2⟩,h.none_,h.sm,h.nd,h.len⟩
def bkOf (l:List Hd) (k:Nat):Option Nat:=(l[k]?).bind (·.1)
def nnOf (l:List Hd) (k:Nat):Nat:=((l[k]?).map (·.2.1)).getD 0
def ccOf (l:List Hd) (k:Nat):Nat:=((l[k]?).map (·.2.2)).getD 0
theorem bk_mem {l:List Hd} {k b:Nat} (h:bkOf l k=some b):b∈bks l:=by
 unfold bkOf at h
 cases hc:l[k]? with
 | none=>rw [hc] at h;cases h
 | some x=>rw [hc] at h;exact List.mem_filterMap.2 ⟨x,List.mem_of_getElem? hc,h⟩
theorem bk_inj:∀{l:List Hd},(bks l).Nodup→∀k k' b,bkOf l k=some b→bkOf l k'=some b→k=k'
 | [],_,k,k',b,h,_=>by simp [bkOf] at h
 | x::l,hn,k,k',b,h,h'=>by
  have ht:(bks l).Nodup:=by
   unfold bks at hn ⊢
   rw [List.filterMap_cons] at hn
   cases hx:x.1 with
   | none=>rw [hx] at hn;exact hn
   | some y=>rw [hx] at hn;exact (List.nodup_cons.1 hn).2
  have h0:∀j,x.1=some b→bkOf l j=some b→False:=fun j hx hj=>by
   unfold bks at hn
   rw [List.filterMap_cons,hx] at hn
   exact (List.nodup_cons.1 hn).1 (bk_mem hj)
  cases k with
  | zero=>cases k' with
   | zero=>rfl
   | succ k'=>exact (h0 k' (by simpa [bkOf] using h) (by simpa [bkOf] using h')).elim
  | succ k=>cases k' with
   | zero=>exact (h0 k (by simpa [bkOf] using h') (by simpa [bkOf] using h)).elim
   | succ k'=>rw [bk_inj ht k k' b (by simpa [bkOf] using h) (by simpa [bkOf] using h')]
theorem phi_ex (R:Nat) (bk:Nat→Option Nat) (inj:∀k k' b,bk k=some b→bk k'=some b→k=k'):∃φ:Nat→Option Nat,(∀k,k < R→∀b,bk k=some b→φ b=some k)∧∀x,(∃k,k < R∧bk k=some x)∨φ x=some (R+1):=by
 classical
 refine ⟨fun x=>if h:∃k,k < R∧bk k=some x then some h.choose else some (R+1),fun k hk b hb=>?_,fun x=>?_⟩
 ·have h:∃k,k < R∧bk k=some b:=⟨k,hk,hb⟩
  show (if h:∃k,k < R∧bk k=some b then some h.choose else some (R+1))=some k
  rw [dif_pos h,inj _ _ _ h.choose_spec.2 hb]
 by_cases h:∃k,k < R∧bk k=some x
 ·exact .inl h
 right
 show (if h:∃k,k < R∧bk k=some x then some h.choose else some (R+1))=_
 rw [dif_neg h]
theorem hd_of {bs:Blocks} {A:Nat} {l:List Hd} (hc:∀i h,l[i]?=some h→Cell bs A i (hv h)):∀k,k < l.length→Cell bs A k (hdr (bkOf l) (nnOf l) (ccOf l) k):=fun k hk=>by
 have:=hc k l[k] (List.getElem?_eq_getElem hk)
 unfold hdr bkOf nnOf ccOf
 rw [List.getElem?_eq_getElem hk]
 exact this
theorem at_of {l:List Hd} {k:Nat} (hk:k < l.length):bkOf l k=l[k].1∧nnOf l k=l[k].2.1∧ccOf l k=l[k].2.2:=by
 unfold bkOf nnOf ccOf
 rw [List.getElem?_eq_getElem hk]
 exact ⟨rfl,rfl,rfl⟩
theorem c65l {A cA:Nat} {l:List Hd} {bs:Blocks} {w:World} (hne:0 < l.length) (hA:A∉bks l) (hc:∀i h,l[i]?=some h→Cell bs A i (hv h)) (ho:RowsOk bs 5 l) (hnd:(bs.map (·.1)).Nodup) (hh:∀p∈bs,w.heap[p.1]?=some p.2) :
  Ret Tryz.prog 65 [.slice (some ⟨A,0,none⟩) l.length cA] w ⟨bs,[]⟩ (fun v Q=>∃bs',Q=⟨bs',[]⟩∧v=.bool true∧MS bs bs' (fun b _=>b∈bks l)):=by
 obtain ⟨φ,h1,h2⟩:=phi_ex l.length (bkOf l) (bk_inj ho.nd)
 refine Ret.mono (c65m (b0:=bs) (bk:=bkOf l) (nn:=nnOf l) (cc:=ccOf l) (φ:=φ) hne ⟨(h2 A).resolve_left fun ⟨k,_,hk⟩=>hA (bk_mem hk),hd_of hc,fun k hk b hb=>⟨h1 k hk b hb,?_⟩,fun k hk hb=>?_,⟨ho.len,fun k hk=>?_⟩,.refl _ _,fun b _=>h2 b⟩ hnd hh) ?_
 ·rw [(at_of hk).2.1,(at_of hk).2.2]
  exact ho.some_ _ (List.getElem_mem hk) b (by rw [← (at_of hk).1];exact hb)
 ·rw [(at_of hk).2.1,(at_of hk).2.2]
  exact ho.none_ _ (List.getElem_mem hk) (by rw [← (at_of hk).1];exact hb)
 ·rw [(at_of hk).2.1]
  exact ho.sm _ (List.getElem_mem hk)
 rintro v Q ⟨bs',e,hv,ms⟩
 exact ⟨bs',e,hv,ms.mono fun b i ⟨k,_,hb⟩=>bk_mem hb⟩
theorem c67l {A cA:Nat} {l:List Hd} {bs:Blocks} {w:World} (hne:0 < l.length) (hA:A∉bks l) (hc:∀i h,l[i]?=some h→Cell bs A i (hv h)) (ho:RowsOk bs 36 l) (hnd:(bs.map (·.1)).Nodup) (hh:∀p∈bs,w.heap[p.1]?=some p.2) :
  Ret Tryz.prog 67 [.slice (some ⟨A,0,none⟩) l.length cA] w ⟨bs,[]⟩ (fun v Q=>∃bs',Q=⟨bs',[]⟩∧v=.bool true∧MS bs bs' (fun b _=>b∈bks l)):=by
 obtain ⟨φ,h1,h2⟩:=phi_ex l.length (bkOf l) (bk_inj ho.nd)
 refine Ret.mono (c67m (b0:=bs) (bk:=bkOf l) (nn:=nnOf l) (cc:=ccOf l) (φ:=φ) hne ⟨(h2 A).resolve_left fun ⟨k,_,hk⟩=>hA (bk_mem hk),hd_of hc,fun k hk b hb=>⟨h1 k hk b hb,?_⟩,fun k hk hb=>?_,⟨ho.len,fun k hk=>?_⟩,.refl _ _,fun b _=>h2 b⟩ hnd hh) ?_
 ·rw [(at_of hk).2.1,(at_of hk).2.2]
  exact ho.some_ _ (List.getElem_mem hk) b (by rw [← (at_of hk).1];exact hb)
 ·rw [(at_of hk).2.1,(at_of hk).2.2]
  exact ho.none_ _ (List.getElem_mem hk) (by rw [← (at_of hk).1];exact hb)
 ·rw [(at_of hk).2.1]
  exact ho.sm _ (List.getElem_mem hk)
 rintro v Q ⟨bs',e,hv,ms⟩
 exact ⟨bs',e,hv,ms.mono fun b i ⟨k,_,hb⟩=>bk_mem hb⟩
structure SlB (bs:Blocks) (s:Option Nat) (T:TypeId) (c:Nat) (l:List Hd):Prop where
 some_:∀b,s=some b→HasB bs b T c∧l.length≤c∧∀i h,l[i]?=some h→Cell bs b i (hv h)
 none_:s=none→l=[]∧c=0
 ne:l=[]→s=none
structure Bag (b0 bs:Blocks) (B:Nat) (s5:Option Nat) (c5:Nat) (l5:List Hd) (s7:Option Nat) (c7:Nat) (l7:List Hd):Prop where
 ms:MS b0 bs W0
 bB:HasB bs B 105 24
 nB:B∉ids b0
 f5:Cell bs B 5 (.slice (s5.map fun b=>⟨b,0,none⟩) l5.length c5)
 f7:Cell bs B 7 (.slice (s7.map fun b=>⟨b,0,none⟩) l7.length c7)
 fo:∀i,i < 24→i≠5→i≠7→Cell bs B i (.slice none 0 0)
 d5:∀b,s5=some b→b≠B∧b∉ids b0∧s7≠some b
 d7:∀b,s7=some b→b≠B∧b∉ids b0
 i5:SlB bs s5 36 c5 l5
 i7:SlB bs s7 44 c7 l7
section
variable {b0 bs bq bs' bs2:Blocks} {B:Nat} {s5:Option Nat} {c5:Nat} {l5:List Hd} {s7:Option Nat} {c7:Nat} {l7:List Hd} {h:Hd} {b' cap':Nat}
theorem take_next {l:List Hd} {i:Nat} (hi:i < l.length):l.take (i+1)=l.take i++[l[i]]:=by rw [List.take_succ,List.getElem?_eq_getElem hi];rfl
theorem SlB.put {s:Option Nat} {T:TypeId} {c:Nat} {l:List Hd} (hs:SlB bs s T c l) (ms1:MS bs bq W0) (ms3:MS bs' bs2 (fun b i=>b=B∧True)) (hbB:b'≠B)
  (hB':HasB bs' b' T cap') (hcap:l.length+1≤cap') (hold:∀b,s=some b→∀i v,i < l.length→Cell bq b i v→Cell bs' b' i v) (hnew:∀j,j < 1→Cell bs' b' (l.length+j) (hv h)):SlB bs2 (some b') T cap' (l++[h]):=by
 refine ⟨fun b hb=>?_,fun e=>(by cases e),fun e=>absurd (congrArg List.length e) (by simp)⟩
 cases hb
 refine ⟨ms3.blk _ _ _ hB',by simpa using hcap,fun i x hi=>?_⟩
 refine ms3.keep _ _ _ ?_ (fun q=>hbB q.1)
 rcases Nat.lt_or_ge i l.length with h1 | h1
 ·rw [List.getElem?_append_left h1] at hi
  cases hsrc:s with
  | none=>rw [(hs.none_ hsrc).1] at h1;exact absurd h1 (Nat.not_lt_zero _)
  | some b=>exact hold b hsrc i _ h1 (ms1.keep _ _ _ ((hs.some_ b hsrc).2.2 i x hi) (fun q=>q))
 rw [List.getElem?_append_right h1] at hi
 have:i - l.length=0:=by
  have:=(List.getElem?_eq_some_iff.1 hi).1
  simp at this;omega
 rw [this] at hi
 have hx:h=x:=by simpa using hi
 subst hx
 have:=hnew 0 (by omega)
 rwa [show l.length+0=i from by omega] at this
theorem SlB.keep {s:Option Nat} {T:TypeId} {c:Nat} {l:List Hd} {W:Nat→Nat→Prop} (hs:SlB bs s T c l) (ms:MS bs bs' W) (hw:∀b,s=some b→∀i,¬W b i):SlB bs' s T c l :=
 ⟨fun b hb=>⟨ms.blk _ _ _ (hs.some_ b hb).1,(hs.some_ b hb).2.1,fun i x hi=>ms.keep _ _ _ ((hs.some_ b hb).2.2 i x hi) (hw b hb i)⟩,hs.none_,hs.ne⟩
theorem Bag.put5 (hB:Bag b0 bs B s5 c5 l5 s7 c7 l7) (ms1:MS bs bq (fun _ _=>False)) (ms2:MS bq bs' (fun b i=>s5=some b∧l5.length≤i)) (ms3:MS bs' bs2 (fun b i=>b=B∧i=5))
  (hb':(s5=some b'∧cap'=c5)∨b'∉ids bq) (hB':HasB bs' b' 36 cap') (hcap:l5.length+1≤cap') (hold:∀b,s5=some b→∀i v,i < l5.length→Cell bq b i v→Cell bs' b' i v) (hnew:∀j,j < 1→Cell bs' b' (l5.length+j) (hv h))
  (c3:Cell bs2 B 5 (.slice (some ⟨b',0,none⟩) (l5.length+1) cap')):Bag b0 bs2 B (some b') cap' (l5++[h]) s7 c7 l7:=by
 have hbB:b'≠B:=fun e=>by
  rcases hb' with ⟨h1,_⟩ | h1
  ·exact (hB.d5 b' h1).1 e
  exact h1 (by rw [e];exact ms1.ids _ hB.bB.id)
 have nB2:∀i,¬(s5=some B∧l5.length≤i):=fun i q=>(hB.d5 B q.1).1 rfl
 refine ⟨((MS.then hB.ms ms1 (fun _ _ q _=>q)).then ms2 (fun x i q hx=>(hB.d5 x q.1).2.1 hx)).then ms3 (fun x i q hx=>hB.nB (by rw [← q.1];exact hx)),ms3.blk _ _ _ (ms2.blk _ _ _ (ms1.blk _ _ _ hB.bB)),hB.nB,by simpa using c3,
  ms3.keep _ _ _ (ms2.keep _ _ _ (ms1.keep _ _ _ hB.f7 (fun q=>q)) (nB2 7)) (fun q=>by omega),fun i hi h5 h7=>ms3.keep _ _ _ (ms2.keep _ _ _ (ms1.keep _ _ _ (hB.fo i hi h5 h7) (fun q=>q)) (nB2 i)) (fun q=>h5 q.2),fun b hb=>?_,hB.d7,?_,?_⟩
 ·cases hb
  refine ⟨hbB,fun hin=>?_,fun e=>?_⟩
  ·rcases hb' with ⟨h1,_⟩ | h1
   ·exact (hB.d5 b' h1).2.1 hin
   exact h1 (ms1.ids _ (hB.ms.ids _ hin))
  rcases hb' with ⟨h1,_⟩ | h1
  ·exact (hB.d5 b' h1).2.2 e
  exact h1 (ms1.ids _ (hB.i7.some_ b' e).1.id)
 ·exact hB.i5.put (B:=B) ms1 (ms3.mono fun b i q=>⟨q.1,trivial⟩) hbB hB' hcap hold hnew
 exact ((hB.i7.keep ms1 (fun _ _ _ q=>q)).keep ms2 (fun b hb i q=>(hB.d5 b q.1).2.2 hb)).keep ms3 (fun b hb i q=>(hB.d7 b hb).1 q.1)
theorem Bag.put7 (hB:Bag b0 bs B s5 c5 l5 s7 c7 l7) (ms1:MS bs bq (fun _ _=>False)) (ms2:MS bq bs' (fun b i=>s7=some b∧l7.length≤i)) (ms3:MS bs' bs2 (fun b i=>b=B∧i=7))
  (hb':(s7=some b'∧cap'=c7)∨b'∉ids bq) (hB':HasB bs' b' 44 cap') (hcap:l7.length+1≤cap') (hold:∀b,s7=some b→∀i v,i < l7.length→Cell bq b i v→Cell bs' b' i v) (hnew:∀j,j < 1→Cell bs' b' (l7.length+j) (hv h))
  (c3:Cell bs2 B 7 (.slice (some ⟨b',0,none⟩) (l7.length+1) cap')):Bag b0 bs2 B s5 c5 l5 (some b') cap' (l7++[h]):=by
 have hbB:b'≠B:=fun e=>by
  rcases hb' with ⟨h1,_⟩ | h1
  ·exact (hB.d7 b' h1).1 e
  exact h1 (by rw [e];exact ms1.ids _ hB.bB.id)
 have nB2:∀i,¬(s7=some B∧l7.length≤i):=fun i q=>(hB.d7 B q.1).1 rfl
 refine ⟨((MS.then hB.ms ms1 (fun _ _ q _=>q)).then ms2 (fun x i q hx=>(hB.d7 x q.1).2 hx)).then ms3 (fun x i q hx=>hB.nB (by rw [← q.1];exact hx)),ms3.blk _ _ _ (ms2.blk _ _ _ (ms1.blk _ _ _ hB.bB)),hB.nB,
  ms3.keep _ _ _ (ms2.keep _ _ _ (ms1.keep _ _ _ hB.f5 (fun q=>q)) (nB2 5)) (fun q=>by omega),by simpa using c3,fun i hi h5 h7=>ms3.keep _ _ _ (ms2.keep _ _ _ (ms1.keep _ _ _ (hB.fo i hi h5 h7) (fun q=>q)) (nB2 i)) (fun q=>h7 q.2),fun b hb=>?_,fun b hb=>?_,?_,?_⟩
 ·refine ⟨(hB.d5 b hb).1,(hB.d5 b hb).2.1,fun e=>?_⟩
  cases e
  rcases hb' with ⟨h1,_⟩ | h1
  ·exact (hB.d5 _ hb).2.2 h1
  exact h1 (ms1.ids _ (hB.i5.some_ _ hb).1.id)
 ·cases hb
  refine ⟨hbB,fun hin=>?_⟩
  rcases hb' with ⟨h1,_⟩ | h1
  ·exact (hB.d7 b' h1).2 hin
  exact h1 (ms1.ids _ (hB.ms.ids _ hin))
 ·exact ((hB.i5.keep ms1 (fun _ _ _ q=>q)).keep ms2 (fun b hb i q=>(hB.d5 b hb).2.2 q.1)).keep ms3 (fun b hb i q=>(hB.d5 b hb).1 q.1)
 exact hB.i7.put (B:=B) ms1 (ms3.mono fun b i q=>⟨q.1,trivial⟩) hbB hB' hcap hold hnew
end
end Go.Proofs.YteicbpfkljnemaaGreat
namespace Go.Proofs.YteicbpfkljnemaaGreat
open Go Go.HW Fl
set_option maxRecDepth 40000
set_option maxHeartbeats 4000000
theorem c58m {b0 bs:Blocks} {B:Nat} {s5:Option Nat} {c5:Nat} {l5:List Hd} {s7:Option Nat} {c7:Nat} {l7:List Hd} {h:Hd} {w:World} (hB:Bag b0 bs B s5 c5 l5 s7 c7 l7) (hl:l5.length≤1000000) (hnd:(bs.map (·.1)).Nodup) (hh:∀p∈bs,w.heap[p.1]?=some p.2) :
  Ret Tryz.prog 58 [.pointer (some ⟨B,0,none⟩),hv h] w ⟨bs,[]⟩ (fun v Q=>∃bs',Q=⟨bs',[]⟩∧∃s5 c5,Bag b0 bs' B s5 c5 (l5++[h]) s7 c7 l7):=by
 refine Ret.of_body Tryz.func58 rfl Tryz.ntmps58 rfl (fun p hp=>hh p (by rw [mall] at hp;exact hp)) (by rw [mall];exact hnd) ?_
 refine TC.region ?_
 refine MV ?_
 refine MV ?_
 refine TO.u rfl rfl (TX.nilCheckP rfl rfl ?_)
 refine TO.u rfl rfl (TX.fieldAddr' Tryz.runUnderlying105 rfl Tryz.sizeOf44 rfl rfl rfl ?_)
 refine TO.u rfl rfl (TX.ldM Tryz.isAgg44 rfl hB.f5 rfl ?_)
 refine MV ?_
 refine TO.u rfl rfl (TX.bsM Tryz.runUnderlying44 Tryz.sizeOf36 Tryz.zeroValue36 rfl (N:=En.sl) (h.1.map (fun b=>(⟨b,0,none⟩:Addr)),h.2.1,h.2.2) rfl rfl rfl (fun zl hzl=>by match zl,hzl with | [z],_=>rfl) rfl (fun q bq hq ms1 cq=>?_))
 refine TO.u rfl rfl (TX.apM (src:=s5) (by':=24) Tryz.runUnderlying44 Tryz.typeInfo36 rfl rfl rfl rfl rfl rfl (fun b hb=>⟨ms1.blk _ _ _ (hB.i5.some_ b hb).1,(hB.i5.some_ b hb).2.1⟩) (fun e=>⟨by rw [(hB.i5.none_ e).1];rfl,(hB.i5.none_ e).2⟩) (fun _=>hv h) (fun j hj=>by (have h0:j=0:=by omega);subst h0;exact cq) (fun j hj=>rfl) (by omega) (by omega) (by omega) rfl (fun b' cap' bs' hb' ms2 hB' hcap hold hnew=>?_))
 refine TO.u rfl rfl (TX.nilCheckP rfl rfl ?_)
 refine TO.u rfl rfl (TX.fieldAddr' Tryz.runUnderlying105 rfl Tryz.sizeOf44 rfl rfl rfl ?_)
 refine TO.u rfl rfl (TX.stM (v:=(.slice (some ⟨b',0,none⟩) (l5.length+1) cap')) Tryz.sizeOf44 rfl rfl rfl rfl (ms2.blk _ _ _ (ms1.blk _ _ _ hB.bB)) (show 5 < 24 by omega) (fun bs2 ms3 c3=>?_))
 refine TO.nil ?_
 have hB2:Bag b0 bs2 B (some b') cap' (l5++[h]) s7 c7 l7:=hB.put5 ms1 ms2 ms3 hb' hB' hcap hold hnew c3
 exact TE.finN (R:=⟨_,[]⟩) (TL.ret (R':=⟨bs2,[]⟩) Tryz.results58 .nil (List.Sublist.refl _) ⟨bs2,rfl,_,_,hB2⟩)
theorem c41m {b0 bs:Blocks} {B:Nat} {s5:Option Nat} {c5:Nat} {l5:List Hd} {s7:Option Nat} {c7:Nat} {l7:List Hd} {h:Hd} {hs:List Hd} {w:World} (hB:Bag b0 bs B s5 c5 l5 s7 c7 l7) (hl:l7.length≤1000000) (hl5:l5.length+hs.length≤1000000) (hlen:h.2.1=hs.length) (hcs:∀b,h.1=some b→∀i x,hs[i]?=some x→Cell b0 b i (hv x)) (hno:h.1=none→hs=[]) (hnd:(bs.map (·.1)).Nodup) (hh:∀p∈bs,w.heap[p.1]?=some p.2) :
  Ret Tryz.prog 41 [.pointer (some ⟨B,0,none⟩),hv h] w ⟨bs,[]⟩ (fun v Q=>∃bs',Q=⟨bs',[]⟩∧∃s5 c5 s7 c7,Bag b0 bs' B s5 c5 (l5++hs) s7 c7 (l7++[h])):=by
 refine Ret.of_body Tryz.func41 rfl Tryz.ntmps41 rfl (fun p hp=>hh p (by rw [mall] at hp;exact hp)) (by rw [mall];exact hnd) ?_
 refine TC.seq (TC.region ?_)
 refine MV ?_
 refine MV ?_
 refine TO.u rfl rfl (TX.nilCheckP rfl rfl ?_)
 refine TO.u rfl rfl (TX.fieldAddr' Tryz.runUnderlying105 rfl Tryz.sizeOf46 rfl rfl rfl ?_)
 refine TO.u rfl rfl (TX.ldM Tryz.isAgg46 rfl hB.f7 rfl ?_)
 refine MV ?_
 refine TO.u rfl rfl (TX.bsM Tryz.runUnderlying46 Tryz.sizeOf44 Tryz.zeroValue44 rfl (N:=En.sl) (h.1.map (fun b=>(⟨b,0,none⟩:Addr)),h.2.1,h.2.2) rfl rfl rfl (fun zl hzl=>by match zl,hzl with | [z],_=>rfl) rfl (fun q bq hq ms1 cq=>?_))
 refine TO.u rfl rfl (TX.apM (src:=s7) (by':=24) Tryz.runUnderlying46 Tryz.typeInfo44 rfl rfl rfl rfl rfl rfl (fun b hb=>⟨ms1.blk _ _ _ (hB.i7.some_ b hb).1,(hB.i7.some_ b hb).2.1⟩) (fun e=>⟨by rw [(hB.i7.none_ e).1];rfl,(hB.i7.none_ e).2⟩) (fun _=>hv h) (fun j hj=>by (have h0:j=0:=by omega);subst h0;exact cq) (fun j hj=>rfl) (by omega) (by omega) (by omega) rfl (fun b' cap' bs' hb' ms2 hB' hcap hold hnew=>?_))
 refine TO.u rfl rfl (TX.nilCheckP rfl rfl ?_)
 refine TO.u rfl rfl (TX.fieldAddr' Tryz.runUnderlying105 rfl Tryz.sizeOf46 rfl rfl rfl ?_)
 refine TO.u rfl rfl (TX.stM (v:=(.slice (some ⟨b',0,none⟩) (l7.length+1) cap')) Tryz.sizeOf46 rfl rfl rfl rfl (ms2.blk _ _ _ (ms1.blk _ _ _ hB.bB)) (show 7 < 24 by omega) (fun bs2 ms3 c3=>?_))
 refine TO.nil ?_
 have hB2:Bag b0 bs2 B s5 c5 l5 (some b') cap' (l7++[h]):=hB.put7 ms1 ms2 ms3 hb' hB' hcap hold hnew c3
 refine TE.thenN rfl rfl ?_
 refine TC.seq (TC.region ?_)
 refine AS ?_
 refine NT ?_
 refine TC.block ?_
 refine TC.keep (L':=[(4,.int .i64 ((0:Nat):Int)),(0,.pointer (some ⟨B,0,none⟩)),(1,hv h)]) ⟨rfl,rfl,rfl,trivial⟩ ?_
 clear ms1 ms2 ms3 hb' hB' hcap hold hnew c3
 refine TC.loopN (fun i L H=>∃bs s5 c5,L=[(4,.int .i64 (i:Int)),(0,.pointer (some ⟨B,0,none⟩)),(1,hv h)]∧H=⟨bs,[]⟩∧Bag b0 bs B s5 c5 (l5++hs.take i) (some b') cap' (l7++[h])) hs.length (fun K1 i L H hs' hle hn=>?_) ⟨bs2,s5,c5,rfl,rfl,by simpa using hB2⟩
 obtain ⟨bs,s5,c5,rfl,rfl,hB⟩:=hs'
 refine TC.seq ?_
 refine TC.seq (TC.region ?_)
 refine MV ?_
 refine MV ?_
 refine TO.u rfl rfl (TX.lenM Tryz.runUnderlying44 rfl rfl ?_)
 refine IB ?_
 refine NT ?_
 refine TC.cond rfl (fun hb=>?_) (fun hb=>?_)
 ·have hi:i < hs.length:=by have:=of_decide_eq_true hb;omega
  obtain ⟨b,hhb⟩:∃b,h.1=some b:=by
   cases hc:h.1 with
   | none=>rw [hno hc] at hi;exact absurd hi (Nat.not_lt_zero _)
   | some b=>exact ⟨b,rfl⟩
  have hcell:Cell bs b i (hv hs[i]):=hB.ms.keep _ _ _ (hcs b hhb i _ (List.getElem?_eq_getElem hi)) (fun q=>q)
  have hhv:hv h=.slice (some ⟨b,0,none⟩) h.2.1 h.2.2:=by unfold hv;rw [hhb];rfl
  refine TC.skip ?_
  refine TE.thenN rfl rfl ?_
  refine TC.seq ?_
  refine TC.block ?_
  refine TC.keep (L':=[(4,.int .i64 (i:Int)),(0,.pointer (some ⟨B,0,none⟩)),(1,.slice (some ⟨b,0,none⟩) h.2.1 h.2.2)]) ⟨rfl,rfl,congrArg some hhv,trivial⟩ ?_
  refine TC.region ?_
  refine MV ?_
  refine MV ?_
  refine MV ?_
  refine TO.u rfl rfl (TX.ixN Tryz.runUnderlying44 Tryz.sizeOf36 rfl rfl (by omega) rfl ?_)
  refine TO.u rfl rfl (TX.ldM Tryz.isAgg36 rfl hcell rfl ?_)
  refine TO.u rfl rfl (TX.callM (fun v bs'=>∃s5 c5,Bag b0 bs' B s5 c5 (l5++hs.take i++[hs[i]]) (some b') cap' (l7++[h])) Tryz.call58 (vs:=[.pointer (some ⟨B,0,none⟩),hv hs[i]]) rfl (fun w hnd hh=>c58m hB (by simp;omega) hnd hh) rfl ?_)
  rintro v bs' ⟨s5',c5',hB'⟩
  refine TO.nil ?_
  refine TE.blockN ?_
  refine TE.thenN rfl rfl ?_
  refine TC.region ?_
  refine MV ?_
  refine IB ?_
  refine AS ?_
  refine TO.nil ?_
  rw [wI (by omega)]
  refine TE.keep (L':=[(4,.int .i64 ((i+1:Nat):Int)),(0,.pointer (some ⟨B,0,none⟩)),(1,hv h)]) ⟨rfl,rfl,congrArg some hhv.symm,trivial⟩ ?_
  exact hn _ _ hi ⟨bs',s5',c5',rfl,rfl,by rw [take_next hi,← List.append_assoc];exact hB'⟩
 have hi:hs.length≤i:=by have:=of_decide_eq_false hb;omega
 rw [List.take_of_length_le hi] at hB
 refine TC.exit ?_
 refine TE.thenX ?_
 refine TE.loopX ?_
 refine TE.blockH ?_
 exact TE.finN (R:=⟨_,[]⟩) (TL.ret (R':=⟨bs,[]⟩) Tryz.results41 .nil (List.Sublist.refl _) ⟨bs,rfl,_,_,_,_,hB⟩)
end Go.Proofs.YteicbpfkljnemaaGreat
namespace Go.HW
open Go Go.RowKit
theorem HasB.ty {bs:Blocks} (hn:(bs.map (·.1)).Nodup) {b k k':Nat} {T T':TypeId} (h:HasB bs b T k) (h':HasB bs b T' k'):T=T':=by
 obtain ⟨l,fz,hm,_,_⟩:=h
 obtain ⟨l',fz',hm',_,_⟩:=h'
 have:=nodup_obj hn hm hm'
 cases this;rfl
theorem Ret.frameM {P:Program} {f:FuncId} {args:List Value} {w:World} {post:Value→Hp→Prop} {bs:Blocks} (hnd:(bs.map (·.1)).Nodup) (hh:∀p∈bs,w.heap[p.1]?=some p.2) (h:Ret P f args w Hp.nil fun v R=>post v R∧R=Hp.nil):Ret P f args w ⟨bs,[]⟩ fun v R=>∃bs',R=⟨bs',[]⟩∧post v Hp.nil∧bs'=bs:=by
 refine Calls.mono h fun e w' ⟨v,R',he,hf,hp,hR⟩=>⟨v,⟨bs,[]⟩,he,?_,bs,rfl,hR▸hp,rfl⟩
 have hlt:∀p∈bs,p.1 < w.heap.size:=fun p hpm=>by
  have:=hh p hpm
  exact (Array.getElem?_eq_some_iff.1 this).1
 refine ⟨⟨hf.ext.os,hf.ext.tape,hf.ext.output,hf.ext.size,fun k hk hn=>hf.ext.same k hk (by simp [Hp.all])⟩,by rw [mall];exact hnd,fun p hpm=>?_,fun p hpm=>.inl (List.mem_map.2 ⟨p,hpm,rfl⟩)⟩
 rw [mall] at hpm
 rw [hf.ext.same p.1 (hlt p hpm) (by simp [Hp.all])]
 exact hh p hpm
section
variable {c:Cx} {ops:Array Oper} {Q:Exit→Act→World→Prop} {rest:List Oper} {L:Slots} {H:Hp} {bs:Blocks}
variable {d:Nat} {T:TypeId} {pos:String} {af:Array Edge} {g:Option (Nat×Bool)}
theorem TX.boxM {A:TypeId} {x:Operand} {v:Value} {l:List Value} (hx:ev L x=some v) (hl:v.cells=l.toArray) (hd:Nat.blt d c.n=true)
  (h:∀b,b∉ids bs→TO c ops Q rest ((d,.pointer (some ⟨b,0,none⟩))::L) ⟨(b,.cells l.toArray A)::bs,[]⟩):TX c ops Q ⟨some d,.box A x,T,pos,af,g⟩ rest L ⟨bs,[]⟩ :=
 TX.box hx hl hd fun b a w s=>h b (by have:=s.nodup;rw [mall,List.map_cons,List.nodup_cons] at this;exact this.1) a w s
end
end Go.HW
namespace Go.Proofs.YteicbpfkljnemaaGreat
open Go Go.HW Fl
section
variable {b0 bs:Blocks} {B:Nat} {s5:Option Nat} {c5:Nat} {l5:List Hd} {s7:Option Nat} {c7:Nat} {l7:List Hd} {w:World}
theorem bks_some {l:List Hd} {b:Nat} (h:b∈bks l):∃x∈l,x.1=some b:=by
 obtain ⟨x,h1,h2⟩:=List.mem_filterMap.1 h
 exact ⟨x,h1,h2⟩
theorem not_bks {T T':TypeId} {l:List Hd} {b k:Nat} (hn:(bs.map (·.1)).Nodup) (hb:HasB bs b T k) (ho:RowsOk bs T' l) (hT:T≠T'):b∉bks l:=fun h=>by
 obtain ⟨x,h1,h2⟩:=bks_some h
 exact hT (hb.ty hn (ho.some_ x h1 b h2).1)
theorem c65b (hB:Bag b0 bs B s5 c5 l5 s7 c7 l7) (ho:RowsOk bs 5 l5) (hnd:(bs.map (·.1)).Nodup) (hh:∀p∈bs,w.heap[p.1]?=some p.2) :
  Ret Tryz.prog 65 [.slice (s5.map fun b=>⟨b,0,none⟩) l5.length c5] w ⟨bs,[]⟩ (fun v Q=>∃bs',Q=⟨bs',[]⟩∧v=.bool true∧MS bs bs' (fun b _=>b∈bks l5)):=by
 cases hs:s5 with
 | none =>
  obtain ⟨h1,h2⟩:=hB.i5.none_ hs
  rw [h1,h2]
  refine Ret.mono (Ret.frameM (post:=fun v _=>v=.bool true) hnd hh (Con.ret0 (c65 true (by rfl)) (dens_v [_]) (fun _ _=>trivial))) ?_
  rintro v Q ⟨bs',rfl,hv,rfl⟩
  exact ⟨_,rfl,hv,.refl _ _⟩
 | some A =>
  obtain ⟨h1,h2,h3⟩:=hB.i5.some_ A hs
  have hne:0 < l5.length:=by
   cases hl:l5 with
   | nil=>have:=hB.i5.ne hl;rw [hs] at this;cases this
   | cons x l=>simp
  exact c65l hne (not_bks hnd h1 ho (by decide)) h3 ho hnd hh
theorem c67b {l5':List Hd} (hi:SlB bs s7 44 c7 l7) (ho:RowsOk bs 36 l7) (hnd:(bs.map (·.1)).Nodup) (hh:∀p∈bs,w.heap[p.1]?=some p.2) :
  Ret Tryz.prog 67 [.slice (s7.map fun b=>⟨b,0,none⟩) l7.length c7] w ⟨bs,[]⟩ (fun v Q=>∃bs',Q=⟨bs',[]⟩∧v=.bool true∧MS bs bs' (fun b _=>b∈bks l7)):=by
 cases hs:s7 with
 | none =>
  obtain ⟨h1,h2⟩:=hi.none_ hs
  rw [h1,h2]
  refine Ret.mono (Ret.frameM (post:=fun v _=>v=.bool true) hnd hh (Con.ret0 (c67 true (by rfl)) (dens_v [_]) (fun _ _=>trivial))) ?_
  rintro v Q ⟨bs',rfl,hv,rfl⟩
  exact ⟨_,rfl,hv,.refl _ _⟩
 | some A =>
  obtain ⟨h1,h2,h3⟩:=hi.some_ A hs
  have hne:0 < l7.length:=by
   cases hl:l7 with
   | nil=>have:=hi.ne hl;rw [hs] at this;cases this
   | cons x l=>simp
  exact c67l hne (not_bks hnd h1 ho (by decide)) h3 ho hnd hh
theorem Bag.new {B:Nat} (hB:B∉ids bs):Bag bs ((B,.cells (List.replicate 24 (.slice none 0 0)).toArray 105)::bs) B none 0 [] none 0 []:=by
 have hc:∀i,i < 24→Cell ((B,.cells (List.replicate 24 (.slice none 0 0)).toArray 105)::bs) B i (.slice none 0 0):=fun i hi=>⟨_,105,(0,0),List.mem_cons_self,by rw [List.getElem?_toArray,List.getElem?_replicate,if_pos hi]⟩
 exact ⟨new_ms,⟨_,(0,0),List.mem_cons_self,nofz0,by simp⟩,hB,hc 5 (by omega),hc 7 (by omega),fun i hi _ _=>hc i hi,fun b h=>(by cases h),fun b h=>(by cases h),⟨fun b h=>(by cases h),fun _=>⟨rfl,rfl⟩,fun _=>rfl⟩,⟨fun b h=>(by cases h),fun _=>⟨rfl,rfl⟩,fun _=>rfl⟩⟩
end
end Go.Proofs.YteicbpfkljnemaaGreat
namespace Go.Proofs.YteicbpfkljnemaaGreat
open Go Go.HW Fl
set_option maxRecDepth 40000
set_option maxHeartbeats 8000000
theorem n60 (w:World):Ret Tryz.prog 60 [.slice none 0 0] w Hp.nil fun v R=>v=.bool true∧R=Hp.nil:=Con.ret0 (c60 true (by rfl)) (dens_v [_]) (fun _ _=>trivial)
theorem n61 (w:World):Ret Tryz.prog 61 [.slice none 0 0] w Hp.nil fun v R=>v=.bool true∧R=Hp.nil:=Con.ret0 (c61 true (by rfl)) (dens_v [_]) (fun _ _=>trivial)
theorem n62 (w:World):Ret Tryz.prog 62 [.slice none 0 0] w Hp.nil fun v R=>v=.bool true∧R=Hp.nil:=Con.ret0 (c62 true (by rfl)) (dens_v [_]) (fun _ _=>trivial)
theorem n63 (w:World):Ret Tryz.prog 63 [.slice none 0 0] w Hp.nil fun v R=>v=.bool true∧R=Hp.nil:=Con.ret0 (c63 true (by rfl)) (dens_v [_]) (fun _ _=>trivial)
theorem n64 (w:World):Ret Tryz.prog 64 [.slice none 0 0] w Hp.nil fun v R=>v=.bool true∧R=Hp.nil:=Con.ret0 (c64 true (by rfl)) (dens_v [_]) (fun _ _=>trivial)
theorem n66 (w:World):Ret Tryz.prog 66 [.slice none 0 0] w Hp.nil fun v R=>v=.bool true∧R=Hp.nil:=Con.ret0 (c66 true (by rfl)) (dens_v [_]) (fun _ _=>trivial)
theorem n68 (w:World):Ret Tryz.prog 68 [.slice none 0 0] w Hp.nil fun v R=>v=.bool true∧R=Hp.nil:=Con.ret0 (c68 true (by rfl)) (dens_v [_]) (fun _ _=>trivial)
theorem n69 (w:World):Ret Tryz.prog 69 [.slice none 0 0] w Hp.nil fun v R=>v=.bool true∧R=Hp.nil:=Con.ret0 (c69 true (by rfl)) (dens_v [_]) (fun _ _=>trivial)
theorem n70 (w:World):Ret Tryz.prog 70 [.slice none 0 0] w Hp.nil fun v R=>v=.bool true∧R=Hp.nil:=Con.ret0 (c70 true (by rfl)) (dens_v [_]) (fun _ _=>trivial)
theorem n71 (w:World):Ret Tryz.prog 71 [.slice none 0 0] w Hp.nil fun v R=>v=.bool true∧R=Hp.nil:=Con.ret0 (c71 true (by rfl)) (dens_v [_]) (fun _ _=>trivial)
theorem n72 (w:World):Ret Tryz.prog 72 [.slice none 0 0] w Hp.nil fun v R=>v=.bool true∧R=Hp.nil:=Con.ret0 (c72 true (by rfl)) (dens_v [_]) (fun _ _=>trivial)
theorem n73 (w:World):Ret Tryz.prog 73 [.slice none 0 0] w Hp.nil fun v R=>v=.bool true∧R=Hp.nil:=Con.ret0 (c73 true (by rfl)) (dens_v [_]) (fun _ _=>trivial)
theorem n74 (w:World):Ret Tryz.prog 74 [.slice none 0 0] w Hp.nil fun v R=>v=.bool true∧R=Hp.nil:=Con.ret0 (c74 true (by rfl)) (dens_v [_]) (fun _ _=>trivial)
theorem n75 (w:World):Ret Tryz.prog 75 [.slice none 0 0] w Hp.nil fun v R=>v=.bool true∧R=Hp.nil:=Con.ret0 (c75 true (by rfl)) (dens_v [_]) (fun _ _=>trivial)
theorem n76 (w:World):Ret Tryz.prog 76 [.slice none 0 0] w Hp.nil fun v R=>v=.bool true∧R=Hp.nil:=Con.ret0 (c76 true (by rfl)) (dens_v [_]) (fun _ _=>trivial)
theorem n77 (w:World):Ret Tryz.prog 77 [.slice none 0 0] w Hp.nil fun v R=>v=.bool true∧R=Hp.nil:=Con.ret0 (c77 true (by rfl)) (dens_v [_]) (fun _ _=>trivial)
theorem n78 (w:World):Ret Tryz.prog 78 [.slice none 0 0] w Hp.nil fun v R=>v=.bool true∧R=Hp.nil:=Con.ret0 (c78 true (by rfl)) (dens_v [_]) (fun _ _=>trivial)
theorem n79 (w:World):Ret Tryz.prog 79 [.slice none 0 0] w Hp.nil fun v R=>v=.bool true∧R=Hp.nil:=Con.ret0 (c79 true (by rfl)) (dens_v [_]) (fun _ _=>trivial)
theorem n80 (w:World):Ret Tryz.prog 80 [.slice none 0 0] w Hp.nil fun v R=>v=.bool true∧R=Hp.nil:=Con.ret0 (c80 true (by rfl)) (dens_v [_]) (fun _ _=>trivial)
theorem n81 (w:World):Ret Tryz.prog 81 [.slice none 0 0] w Hp.nil fun v R=>v=.bool true∧R=Hp.nil:=Con.ret0 (c81 true (by rfl)) (dens_v [_]) (fun _ _=>trivial)
theorem n82 (w:World):Ret Tryz.prog 82 [.slice none 0 0] w Hp.nil fun v R=>v=.bool true∧R=Hp.nil:=Con.ret0 (c82 true (by rfl)) (dens_v [_]) (fun _ _=>trivial)
theorem n83 (w:World):Ret Tryz.prog 83 [.slice none 0 0] w Hp.nil fun v R=>v=.bool true∧R=Hp.nil:=Con.ret0 (c83 true (by rfl)) (dens_v [_]) (fun _ _=>trivial)
theorem c42m {b0 bs:Blocks} {B:Nat} {s5:Option Nat} {c5:Nat} {l5:List Hd} {s7:Option Nat} {c7:Nat} {l7:List Hd} {w:World} (hB:Bag b0 bs B s5 c5 l5 s7 c7 l7) (h5:RowsOk bs 5 l5) (h7:RowsOk bs 36 l7) (hnd:(bs.map (·.1)).Nodup) (hh:∀p∈bs,w.heap[p.1]?=some p.2) :
  Ret Tryz.prog 42 [.pointer (some ⟨B,0,none⟩)] w ⟨bs,[]⟩ (fun v Q=>∃bs',Q=⟨bs',[]⟩∧v=.bool true):=by
 have e5:B∉bks l5:=not_bks hnd hB.bB h5 (by decide)
 have e7:B∉bks l7:=not_bks hnd hB.bB h7 (by decide)
 have f7:∀b,s7=some b→b∉bks l5:=fun b hb=>not_bks hnd (hB.i7.some_ b hb).1 h5 (by decide)
 refine Ret.of_body Tryz.func42 rfl Tryz.ntmps42 rfl (fun p hp=>hh p (by rw [mall] at hp;exact hp)) (by rw [mall];exact hnd) ?_
 refine TC.seq (TC.region ?_)
 refine AS ?_
 refine NT ?_
 refine TC.seq (TC.region ?_)
 refine MV ?_
 refine TO.u rfl rfl (TX.nilCheckP rfl rfl ?_)
 refine TO.u rfl rfl (TX.fieldAddr' Tryz.runUnderlying105 rfl Tryz.sizeOf82 rfl rfl rfl ?_)
 refine TO.u rfl rfl (TX.ldM Tryz.isAgg82 rfl (hB.fo 0 (by decide) (by decide) (by decide)) rfl ?_)
 refine TO.u rfl rfl (TX.callP Tryz.call60 rfl (fun a w s=>n60 w) rfl ?_)
 refine MV ?_
 refine TO.g rfl rfl rfl rfl (TX.move rfl rfl ?_)
 refine TO.g rfl rfl rfl rfl (TX.nilCheckP rfl rfl ?_)
 refine TO.g rfl rfl rfl rfl (TX.fieldAddr' Tryz.runUnderlying105 rfl Tryz.sizeOf83 rfl rfl rfl ?_)
 refine TO.g rfl rfl rfl rfl (TX.ldM Tryz.isAgg83 rfl (hB.fo 1 (by decide) (by decide) (by decide)) rfl ?_)
 refine TO.g rfl rfl rfl rfl (TX.callP Tryz.call61 rfl (fun a w s=>n61 w) rfl ?_)
 refine TO.u rfl rfl (TX.pickT rfl rfl rfl ?_)
 refine MV ?_
 refine TO.g rfl rfl rfl rfl (TX.move rfl rfl ?_)
 refine TO.g rfl rfl rfl rfl (TX.nilCheckP rfl rfl ?_)
 refine TO.g rfl rfl rfl rfl (TX.fieldAddr' Tryz.runUnderlying105 rfl Tryz.sizeOf84 rfl rfl rfl ?_)
 refine TO.g rfl rfl rfl rfl (TX.ldM Tryz.isAgg84 rfl (hB.fo 2 (by decide) (by decide) (by decide)) rfl ?_)
 refine TO.g rfl rfl rfl rfl (TX.callP Tryz.call62 rfl (fun a w s=>n62 w) rfl ?_)
 refine TO.u rfl rfl (TX.pickT rfl rfl rfl ?_)
 refine MV ?_
 refine TO.g rfl rfl rfl rfl (TX.move rfl rfl ?_)
 refine TO.g rfl rfl rfl rfl (TX.nilCheckP rfl rfl ?_)
 refine TO.g rfl rfl rfl rfl (TX.fieldAddr' Tryz.runUnderlying105 rfl Tryz.sizeOf85 rfl rfl rfl ?_)
 refine TO.g rfl rfl rfl rfl (TX.ldM Tryz.isAgg85 rfl (hB.fo 3 (by decide) (by decide) (by decide)) rfl ?_)
 refine TO.g rfl rfl rfl rfl (TX.callP Tryz.call63 rfl (fun a w s=>n63 w) rfl ?_)
 refine TO.u rfl rfl (TX.pickT rfl rfl rfl ?_)
 refine MV ?_
 refine TO.g rfl rfl rfl rfl (TX.move rfl rfl ?_)
 refine TO.g rfl rfl rfl rfl (TX.nilCheckP rfl rfl ?_)
 refine TO.g rfl rfl rfl rfl (TX.fieldAddr' Tryz.runUnderlying105 rfl Tryz.sizeOf86 rfl rfl rfl ?_)
 refine TO.g rfl rfl rfl rfl (TX.ldM Tryz.isAgg86 rfl (hB.fo 4 (by decide) (by decide) (by decide)) rfl ?_)
 refine TO.g rfl rfl rfl rfl (TX.callP Tryz.call64 rfl (fun a w s=>n64 w) rfl ?_)
 refine TO.u rfl rfl (TX.pickT rfl rfl rfl ?_)
 refine MV ?_
 refine TO.g rfl rfl rfl rfl (TX.move rfl rfl ?_)
 refine TO.g rfl rfl rfl rfl (TX.nilCheckP rfl rfl ?_)
 refine TO.g rfl rfl rfl rfl (TX.fieldAddr' Tryz.runUnderlying105 rfl Tryz.sizeOf44 rfl rfl rfl ?_)
 refine TO.g rfl rfl rfl rfl (TX.ldM Tryz.isAgg44 rfl hB.f5 rfl ?_)
 refine TO.g rfl rfl rfl rfl (TX.callM (fun v bs'=>v=.bool true∧MS bs bs' (fun b _=>b∈bks l5)) Tryz.call65 (vs:=[.slice (s5.map fun b=>⟨b,0,none⟩) l5.length c5]) rfl (fun w hnd hh=>c65b hB h5 hnd hh) rfl ?_)
 rintro _ bs5 ⟨rfl,ms5⟩
 refine TO.u rfl rfl (TX.pickT rfl rfl rfl ?_)
 refine MV ?_
 refine TO.g rfl rfl rfl rfl (TX.move rfl rfl ?_)
 refine TO.g rfl rfl rfl rfl (TX.nilCheckP rfl rfl ?_)
 refine TO.g rfl rfl rfl rfl (TX.fieldAddr' Tryz.runUnderlying105 rfl Tryz.sizeOf87 rfl rfl rfl ?_)
 refine TO.g rfl rfl rfl rfl (TX.ldM Tryz.isAgg87 rfl (ms5.keep _ _ _ (hB.fo 6 (by decide) (by decide) (by decide)) e5) rfl ?_)
 refine TO.g rfl rfl rfl rfl (TX.callP Tryz.call66 rfl (fun a w s=>n66 w) rfl ?_)
 refine TO.u rfl rfl (TX.pickT rfl rfl rfl ?_)
 refine MV ?_
 refine TO.g rfl rfl rfl rfl (TX.move rfl rfl ?_)
 refine TO.g rfl rfl rfl rfl (TX.nilCheckP rfl rfl ?_)
 refine TO.g rfl rfl rfl rfl (TX.fieldAddr' Tryz.runUnderlying105 rfl Tryz.sizeOf46 rfl rfl rfl ?_)
 refine TO.g rfl rfl rfl rfl (TX.ldM Tryz.isAgg46 rfl (ms5.keep _ _ _ hB.f7 e5) rfl ?_)
 refine TO.g rfl rfl rfl rfl (TX.callM (fun v bs'=>v=.bool true∧MS bs5 bs' (fun b _=>b∈bks l7)) Tryz.call67 (vs:=[.slice (s7.map fun b=>⟨b,0,none⟩) l7.length c7]) rfl (fun w hnd hh=>c67b (l5':=l5) (hB.i7.keep ms5 (fun b hb _ q=>f7 b hb q)) (h7.step ms5) hnd hh) rfl ?_)
 rintro _ bs7 ⟨rfl,ms7⟩
 refine TO.u rfl rfl (TX.pickT rfl rfl rfl ?_)
 refine MV ?_
 refine TO.g rfl rfl rfl rfl (TX.move rfl rfl ?_)
 refine TO.g rfl rfl rfl rfl (TX.nilCheckP rfl rfl ?_)
 refine TO.g rfl rfl rfl rfl (TX.fieldAddr' Tryz.runUnderlying105 rfl Tryz.sizeOf88 rfl rfl rfl ?_)
 refine TO.g rfl rfl rfl rfl (TX.ldM Tryz.isAgg88 rfl (ms7.keep _ _ _ (ms5.keep _ _ _ (hB.fo 8 (by decide) (by decide) (by decide)) e5) e7) rfl ?_)
 refine TO.g rfl rfl rfl rfl (TX.callP Tryz.call68 rfl (fun a w s=>n68 w) rfl ?_)
 refine TO.u rfl rfl (TX.pickT rfl rfl rfl ?_)
 refine MV ?_
 refine TO.g rfl rfl rfl rfl (TX.move rfl rfl ?_)
 refine TO.g rfl rfl rfl rfl (TX.nilCheckP rfl rfl ?_)
 refine TO.g rfl rfl rfl rfl (TX.fieldAddr' Tryz.runUnderlying105 rfl Tryz.sizeOf89 rfl rfl rfl ?_)
 refine TO.g rfl rfl rfl rfl (TX.ldM Tryz.isAgg89 rfl (ms7.keep _ _ _ (ms5.keep _ _ _ (hB.fo 9 (by decide) (by decide) (by decide)) e5) e7) rfl ?_)
 refine TO.g rfl rfl rfl rfl (TX.callP Tryz.call69 rfl (fun a w s=>n69 w) rfl ?_)
 refine TO.u rfl rfl (TX.pickT rfl rfl rfl ?_)
 refine MV ?_
 refine TO.g rfl rfl rfl rfl (TX.move rfl rfl ?_)
 refine TO.g rfl rfl rfl rfl (TX.nilCheckP rfl rfl ?_)
 refine TO.g rfl rfl rfl rfl (TX.fieldAddr' Tryz.runUnderlying105 rfl Tryz.sizeOf90 rfl rfl rfl ?_)
 refine TO.g rfl rfl rfl rfl (TX.ldM Tryz.isAgg90 rfl (ms7.keep _ _ _ (ms5.keep _ _ _ (hB.fo 10 (by decide) (by decide) (by decide)) e5) e7) rfl ?_)
 refine TO.g rfl rfl rfl rfl (TX.callP Tryz.call70 rfl (fun a w s=>n70 w) rfl ?_)
 refine TO.u rfl rfl (TX.pickT rfl rfl rfl ?_)
 refine MV ?_
 refine TO.g rfl rfl rfl rfl (TX.move rfl rfl ?_)
 refine TO.g rfl rfl rfl rfl (TX.nilCheckP rfl rfl ?_)
 refine TO.g rfl rfl rfl rfl (TX.fieldAddr' Tryz.runUnderlying105 rfl Tryz.sizeOf91 rfl rfl rfl ?_)
 refine TO.g rfl rfl rfl rfl (TX.ldM Tryz.isAgg91 rfl (ms7.keep _ _ _ (ms5.keep _ _ _ (hB.fo 11 (by decide) (by decide) (by decide)) e5) e7) rfl ?_)
 refine TO.g rfl rfl rfl rfl (TX.callP Tryz.call71 rfl (fun a w s=>n71 w) rfl ?_)
 refine TO.u rfl rfl (TX.pickT rfl rfl rfl ?_)
 refine MV ?_
 refine TO.g rfl rfl rfl rfl (TX.move rfl rfl ?_)
 refine TO.g rfl rfl rfl rfl (TX.nilCheckP rfl rfl ?_)
 refine TO.g rfl rfl rfl rfl (TX.fieldAddr' Tryz.runUnderlying105 rfl Tryz.sizeOf92 rfl rfl rfl ?_)
 refine TO.g rfl rfl rfl rfl (TX.ldM Tryz.isAgg92 rfl (ms7.keep _ _ _ (ms5.keep _ _ _ (hB.fo 12 (by decide) (by decide) (by decide)) e5) e7) rfl ?_)
 refine TO.g rfl rfl rfl rfl (TX.callP Tryz.call72 rfl (fun a w s=>n72 w) rfl ?_)
 refine TO.u rfl rfl (TX.pickT rfl rfl rfl ?_)
 refine MV ?_
 refine TO.g rfl rfl rfl rfl (TX.move rfl rfl ?_)
 refine TO.g rfl rfl rfl rfl (TX.nilCheckP rfl rfl ?_)
 refine TO.g rfl rfl rfl rfl (TX.fieldAddr' Tryz.runUnderlying105 rfl Tryz.sizeOf93 rfl rfl rfl ?_)
 refine TO.g rfl rfl rfl rfl (TX.ldM Tryz.isAgg93 rfl (ms7.keep _ _ _ (ms5.keep _ _ _ (hB.fo 13 (by decide) (by decide) (by decide)) e5) e7) rfl ?_)
 refine TO.g rfl rfl rfl rfl (TX.callP Tryz.call73 rfl (fun a w s=>n73 w) rfl ?_)
 refine TO.u rfl rfl (TX.pickT rfl rfl rfl ?_)
 refine MV ?_
 refine TO.g rfl rfl rfl rfl (TX.move rfl rfl ?_)
 refine TO.g rfl rfl rfl rfl (TX.nilCheckP rfl rfl ?_)
 refine TO.g rfl rfl rfl rfl (TX.fieldAddr' Tryz.runUnderlying105 rfl Tryz.sizeOf94 rfl rfl rfl ?_)
 refine TO.g rfl rfl rfl rfl (TX.ldM Tryz.isAgg94 rfl (ms7.keep _ _ _ (ms5.keep _ _ _ (hB.fo 14 (by decide) (by decide) (by decide)) e5) e7) rfl ?_)
 refine TO.g rfl rfl rfl rfl (TX.callP Tryz.call74 rfl (fun a w s=>n74 w) rfl ?_)
 refine TO.u rfl rfl (TX.pickT rfl rfl rfl ?_)
 refine MV ?_
 refine TO.g rfl rfl rfl rfl (TX.move rfl rfl ?_)
 refine TO.g rfl rfl rfl rfl (TX.nilCheckP rfl rfl ?_)
 refine TO.g rfl rfl rfl rfl (TX.fieldAddr' Tryz.runUnderlying105 rfl Tryz.sizeOf95 rfl rfl rfl ?_)
 refine TO.g rfl rfl rfl rfl (TX.ldM Tryz.isAgg95 rfl (ms7.keep _ _ _ (ms5.keep _ _ _ (hB.fo 15 (by decide) (by decide) (by decide)) e5) e7) rfl ?_)
 refine TO.g rfl rfl rfl rfl (TX.callP Tryz.call75 rfl (fun a w s=>n75 w) rfl ?_)
 refine TO.u rfl rfl (TX.pickT rfl rfl rfl ?_)
 refine MV ?_
 refine TO.g rfl rfl rfl rfl (TX.move rfl rfl ?_)
 refine TO.g rfl rfl rfl rfl (TX.nilCheckP rfl rfl ?_)
 refine TO.g rfl rfl rfl rfl (TX.fieldAddr' Tryz.runUnderlying105 rfl Tryz.sizeOf96 rfl rfl rfl ?_)
 refine TO.g rfl rfl rfl rfl (TX.ldM Tryz.isAgg96 rfl (ms7.keep _ _ _ (ms5.keep _ _ _ (hB.fo 16 (by decide) (by decide) (by decide)) e5) e7) rfl ?_)
 refine TO.g rfl rfl rfl rfl (TX.callP Tryz.call76 rfl (fun a w s=>n76 w) rfl ?_)
 refine TO.u rfl rfl (TX.pickT rfl rfl rfl ?_)
 refine MV ?_
 refine TO.g rfl rfl rfl rfl (TX.move rfl rfl ?_)
 refine TO.g rfl rfl rfl rfl (TX.nilCheckP rfl rfl ?_)
 refine TO.g rfl rfl rfl rfl (TX.fieldAddr' Tryz.runUnderlying105 rfl Tryz.sizeOf97 rfl rfl rfl ?_)
 refine TO.g rfl rfl rfl rfl (TX.ldM Tryz.isAgg97 rfl (ms7.keep _ _ _ (ms5.keep _ _ _ (hB.fo 17 (by decide) (by decide) (by decide)) e5) e7) rfl ?_)
 refine TO.g rfl rfl rfl rfl (TX.callP Tryz.call77 rfl (fun a w s=>n77 w) rfl ?_)
 refine TO.u rfl rfl (TX.pickT rfl rfl rfl ?_)
 refine MV ?_
 refine TO.g rfl rfl rfl rfl (TX.move rfl rfl ?_)
 refine TO.g rfl rfl rfl rfl (TX.nilCheckP rfl rfl ?_)
 refine TO.g rfl rfl rfl rfl (TX.fieldAddr' Tryz.runUnderlying105 rfl Tryz.sizeOf98 rfl rfl rfl ?_)
 refine TO.g rfl rfl rfl rfl (TX.ldM Tryz.isAgg98 rfl (ms7.keep _ _ _ (ms5.keep _ _ _ (hB.fo 18 (by decide) (by decide) (by decide)) e5) e7) rfl ?_)
 refine TO.g rfl rfl rfl rfl (TX.callP Tryz.call78 rfl (fun a w s=>n78 w) rfl ?_)
 refine TO.u rfl rfl (TX.pickT rfl rfl rfl ?_)
 refine MV ?_
 refine TO.g rfl rfl rfl rfl (TX.move rfl rfl ?_)
 refine TO.g rfl rfl rfl rfl (TX.nilCheckP rfl rfl ?_)
 refine TO.g rfl rfl rfl rfl (TX.fieldAddr' Tryz.runUnderlying105 rfl Tryz.sizeOf99 rfl rfl rfl ?_)
 refine TO.g rfl rfl rfl rfl (TX.ldM Tryz.isAgg99 rfl (ms7.keep _ _ _ (ms5.keep _ _ _ (hB.fo 19 (by decide) (by decide) (by decide)) e5) e7) rfl ?_)
 refine TO.g rfl rfl rfl rfl (TX.callP Tryz.call79 rfl (fun a w s=>n79 w) rfl ?_)
 refine TO.u rfl rfl (TX.pickT rfl rfl rfl ?_)
 refine MV ?_
 refine TO.g rfl rfl rfl rfl (TX.move rfl rfl ?_)
 refine TO.g rfl rfl rfl rfl (TX.nilCheckP rfl rfl ?_)
 refine TO.g rfl rfl rfl rfl (TX.fieldAddr' Tryz.runUnderlying105 rfl Tryz.sizeOf100 rfl rfl rfl ?_)
 refine TO.g rfl rfl rfl rfl (TX.ldM Tryz.isAgg100 rfl (ms7.keep _ _ _ (ms5.keep _ _ _ (hB.fo 20 (by decide) (by decide) (by decide)) e5) e7) rfl ?_)
 refine TO.g rfl rfl rfl rfl (TX.callP Tryz.call80 rfl (fun a w s=>n80 w) rfl ?_)
 refine TO.u rfl rfl (TX.pickT rfl rfl rfl ?_)
 refine MV ?_
 refine TO.g rfl rfl rfl rfl (TX.move rfl rfl ?_)
 refine TO.g rfl rfl rfl rfl (TX.nilCheckP rfl rfl ?_)
 refine TO.g rfl rfl rfl rfl (TX.fieldAddr' Tryz.runUnderlying105 rfl Tryz.sizeOf101 rfl rfl rfl ?_)
 refine TO.g rfl rfl rfl rfl (TX.ldM Tryz.isAgg101 rfl (ms7.keep _ _ _ (ms5.keep _ _ _ (hB.fo 21 (by decide) (by decide) (by decide)) e5) e7) rfl ?_)
 refine TO.g rfl rfl rfl rfl (TX.callP Tryz.call81 rfl (fun a w s=>n81 w) rfl ?_)
 refine TO.u rfl rfl (TX.pickT rfl rfl rfl ?_)
 refine MV ?_
 refine TO.g rfl rfl rfl rfl (TX.move rfl rfl ?_)
 refine TO.g rfl rfl rfl rfl (TX.nilCheckP rfl rfl ?_)
 refine TO.g rfl rfl rfl rfl (TX.fieldAddr' Tryz.runUnderlying105 rfl Tryz.sizeOf102 rfl rfl rfl ?_)
 refine TO.g rfl rfl rfl rfl (TX.ldM Tryz.isAgg102 rfl (ms7.keep _ _ _ (ms5.keep _ _ _ (hB.fo 22 (by decide) (by decide) (by decide)) e5) e7) rfl ?_)
 refine TO.g rfl rfl rfl rfl (TX.callP Tryz.call82 rfl (fun a w s=>n82 w) rfl ?_)
 refine TO.u rfl rfl (TX.pickT rfl rfl rfl ?_)
 refine MV ?_
 refine TO.g rfl rfl rfl rfl (TX.move rfl rfl ?_)
 refine TO.g rfl rfl rfl rfl (TX.nilCheckP rfl rfl ?_)
 refine TO.g rfl rfl rfl rfl (TX.fieldAddr' Tryz.runUnderlying105 rfl Tryz.sizeOf103 rfl rfl rfl ?_)
 refine TO.g rfl rfl rfl rfl (TX.ldM Tryz.isAgg103 rfl (ms7.keep _ _ _ (ms5.keep _ _ _ (hB.fo 23 (by decide) (by decide) (by decide)) e5) e7) rfl ?_)
 refine TO.g rfl rfl rfl rfl (TX.callP Tryz.call83 rfl (fun a w s=>n83 w) rfl ?_)
 refine TO.u rfl rfl (TX.pickT rfl rfl rfl ?_)
 refine AS ?_
 refine NT ?_
 refine TC.ret ?_
 exact TE.fin (R:=⟨_,[]⟩) (TL.ret (R':=⟨bs7,[]⟩) Tryz.results42 (.cons (.tmp rfl) .nil) (List.Sublist.refl _) ⟨bs7,rfl,rfl⟩)
theorem c35m {A cA:Nat} {l:List Hd} {bs:Blocks} {w:World} (hc:∀i h,l[i]?=some h→Cell bs A i (hv h)) (ho:RowsOk bs 5 l) (hnd:(bs.map (·.1)).Nodup) (hh:∀p∈bs,w.heap[p.1]?=some p.2) :
  Ret Tryz.prog 35 [.slice (some ⟨A,0,none⟩) l.length cA] w ⟨bs,[]⟩ (fun v Q=>v=.bool true∧Q=Hp.nil):=by
 have hll:=ho.len
 refine Ret.of_body Tryz.func35 rfl Tryz.ntmps35 rfl (fun p hp=>hh p (by rw [mall] at hp;exact hp)) (by rw [mall];exact hnd) ?_
 refine TC.seq (TC.region ?_)
 refine AS ?_
 refine NT ?_
 refine TC.seq (TC.region ?_)
 refine TO.u rfl rfl (TX.build (zl:=List.replicate 24 (.slice none 0 0)) (l:=List.replicate 24 (.slice none 0 0)) Tryz.zeroValue105 rfl Tryz.runUnderlying105 (.cons Tryz.sizeOf82 (.cons Tryz.sizeOf83 (.cons Tryz.sizeOf84 (.cons Tryz.sizeOf85 (.cons Tryz.sizeOf86 (.cons Tryz.sizeOf44 (.cons Tryz.sizeOf87 (.cons Tryz.sizeOf46 (.cons Tryz.sizeOf88 (.cons Tryz.sizeOf89 (.cons Tryz.sizeOf90 (.cons Tryz.sizeOf91 (.cons Tryz.sizeOf92 (.cons Tryz.sizeOf93 (.cons Tryz.sizeOf94 (.cons Tryz.sizeOf95 (.cons Tryz.sizeOf96 (.cons Tryz.sizeOf97 (.cons Tryz.sizeOf98 (.cons Tryz.sizeOf99 (.cons Tryz.sizeOf100 (.cons Tryz.sizeOf101 (.cons Tryz.sizeOf102 (.cons Tryz.sizeOf103 .nil)))))))))))))))))))))))) rfl rfl rfl ?_)
 refine TO.u rfl rfl (TX.boxM (l:=List.replicate 24 (.slice none 0 0)) rfl rfl rfl (fun B hB0=>?_))
 refine AS ?_
 refine NT ?_
 refine TC.seq ?_
 refine TC.seq (TC.region ?_)
 refine AS ?_
 refine NT ?_
 refine TC.block ?_
 refine TC.keep (L':=[(4,.int .i64 ((0:Nat):Int)),(3,.pointer (some ⟨B,0,none⟩)),(0,.slice (some ⟨A,0,none⟩) l.length cA)]) ⟨rfl,rfl,rfl,trivial⟩ ?_
 refine TC.loopN (fun i L H=>∃bs1,L=[(4,.int .i64 (i:Int)),(3,.pointer (some ⟨B,0,none⟩)),(0,.slice (some ⟨A,0,none⟩) l.length cA)]∧H=⟨bs1,[]⟩∧∃s5 c5,Bag bs bs1 B s5 c5 (l.take i) none 0 []) l.length (fun K1 i L H hs' hle hn=>?_) ⟨_,rfl,rfl,_,_,by simpa using Bag.new hB0⟩
 obtain ⟨bs1,rfl,rfl,s5,c5,hB⟩:=hs'
 refine TC.seq ?_
 refine TC.seq (TC.region ?_)
 refine MV ?_
 refine MV ?_
 refine TO.u rfl rfl (TX.lenM Tryz.runUnderlying44 rfl rfl ?_)
 refine IB ?_
 refine NT ?_
 refine TC.cond rfl (fun hb=>?_) (fun hb=>?_)
 ·have hi:i < l.length:=by have:=of_decide_eq_true hb;omega
  have hcell:Cell bs1 A i (hv l[i]):=hB.ms.keep _ _ _ (hc i _ (List.getElem?_eq_getElem hi)) (fun q=>q)
  refine TC.skip ?_
  refine TE.thenN rfl rfl ?_
  refine TC.seq ?_
  refine TC.block ?_
  refine TC.region ?_
  refine MV ?_
  refine MV ?_
  refine MV ?_
  refine TO.u rfl rfl (TX.ixN Tryz.runUnderlying44 Tryz.sizeOf36 rfl rfl hi rfl ?_)
  refine TO.u rfl rfl (TX.ldM Tryz.isAgg36 rfl hcell rfl ?_)
  refine TO.u rfl rfl (TX.callM (fun v bs'=>∃s5 c5,Bag bs bs' B s5 c5 (l.take i++[l[i]]) none 0 []) Tryz.call58 (vs:=[.pointer (some ⟨B,0,none⟩),hv l[i]]) rfl (fun w hnd hh=>c58m hB (by simp;omega) hnd hh) rfl ?_)
  rintro v bs2 ⟨s5',c5',hB'⟩
  refine TO.nil ?_
  refine TE.blockN ?_
  refine TE.thenN rfl rfl ?_
  refine TC.region ?_
  refine MV ?_
  refine IB ?_
  refine AS ?_
  refine TO.nil ?_
  rw [wI (by omega)]
  refine TE.keep (L':=[(4,.int .i64 ((i+1:Nat):Int)),(3,.pointer (some ⟨B,0,none⟩)),(0,.slice (some ⟨A,0,none⟩) l.length cA)]) ⟨rfl,rfl,rfl,trivial⟩ ?_
  exact hn _ _ hi ⟨bs2,rfl,rfl,s5',c5',by rw [take_next hi];exact hB'⟩
 have hi:l.length≤i:=by have:=of_decide_eq_false hb;omega
 rw [List.take_of_length_le hi] at hB
 refine TC.exit ?_
 refine TE.thenX ?_
 refine TE.loopX ?_
 refine TE.blockH ?_
 refine TE.keep (L':=[(3,.pointer (some ⟨B,0,none⟩)),(0,.slice (some ⟨A,0,none⟩) l.length cA)]) ⟨rfl,rfl,trivial⟩ ?_
 refine TE.thenN rfl rfl ?_
 refine TC.seq (TC.region ?_)
 refine MV ?_
 refine TO.u rfl rfl (TX.callM (fun v bs'=>v=.bool true) Tryz.call42 (vs:=[.pointer (some ⟨B,0,none⟩)]) rfl (fun w hnd hh=>c42m hB (ho.step hB.ms) ⟨fun h hh=>(by cases hh),fun h hh=>(by cases hh),fun h hh=>(by cases hh),List.nodup_nil,Nat.zero_le _⟩ hnd hh) rfl ?_)
 rintro _ bs2 rfl
 refine AS ?_
 refine NT ?_
 refine TC.ret ?_
 exact TE.fin (R:=⟨_,[]⟩) (TL.ret (R':=Hp.nil) Tryz.results35 (.cons (.tmp rfl) .nil) (by simp [Hp.all]) ⟨rfl,rfl⟩)
theorem flat_le:∀(l:List (List Hd)) (i:Nat) (hi:i < l.length),(l.take i).flatten.length+l[i].length≤l.flatten.length
 | x::l,0,hi=>by simp
 | x::l,i+1,hi=>by
  have:=flat_le l i (by simpa using hi)
  simp only [List.take_succ_cons,List.flatten_cons,List.length_append,List.getElem_cons_succ]
  omega
 | [],i,hi=>absurd hi (Nat.not_lt_zero _)
theorem c13m {A cA:Nat} {l:List Hd} {hss:List (List Hd)} {bs:Blocks} {w:World} (hc:∀i h,l[i]?=some h→Cell bs A i (hv h)) (h7:RowsOk bs 36 l) (h5:RowsOk bs 5 hss.flatten) (hlen:hss.length=l.length) (hin:∀(i:Nat) (h:Hd) (hs:List Hd),l[i]?=some h→hss[i]?=some hs→h.2.1=hs.length∧(∀b,h.1=some b→∀(j:Nat) (x:Hd),hs[j]?=some x→Cell bs b j (hv x))) (hnd:(bs.map (·.1)).Nodup) (hh:∀p∈bs,w.heap[p.1]?=some p.2) :
  Ret Tryz.prog 13 [.slice (some ⟨A,0,none⟩) l.length cA] w ⟨bs,[]⟩ (fun v Q=>v=.bool true∧Q=Hp.nil):=by
 have hll:=h7.len
 have hfl:=h5.len
 refine Ret.of_body Tryz.func13 rfl Tryz.ntmps13 rfl (fun p hp=>hh p (by rw [mall] at hp;exact hp)) (by rw [mall];exact hnd) ?_
 refine TC.seq (TC.region ?_)
 refine AS ?_
 refine NT ?_
 refine TC.seq (TC.region ?_)
 refine TO.u rfl rfl (TX.build (zl:=List.replicate 24 (.slice none 0 0)) (l:=List.replicate 24 (.slice none 0 0)) Tryz.zeroValue105 rfl Tryz.runUnderlying105 (.cons Tryz.sizeOf82 (.cons Tryz.sizeOf83 (.cons Tryz.sizeOf84 (.cons Tryz.sizeOf85 (.cons Tryz.sizeOf86 (.cons Tryz.sizeOf44 (.cons Tryz.sizeOf87 (.cons Tryz.sizeOf46 (.cons Tryz.sizeOf88 (.cons Tryz.sizeOf89 (.cons Tryz.sizeOf90 (.cons Tryz.sizeOf91 (.cons Tryz.sizeOf92 (.cons Tryz.sizeOf93 (.cons Tryz.sizeOf94 (.cons Tryz.sizeOf95 (.cons Tryz.sizeOf96 (.cons Tryz.sizeOf97 (.cons Tryz.sizeOf98 (.cons Tryz.sizeOf99 (.cons Tryz.sizeOf100 (.cons Tryz.sizeOf101 (.cons Tryz.sizeOf102 (.cons Tryz.sizeOf103 .nil)))))))))))))))))))))))) rfl rfl rfl ?_)
 refine TO.u rfl rfl (TX.boxM (l:=List.replicate 24 (.slice none 0 0)) rfl rfl rfl (fun B hB0=>?_))
 refine AS ?_
 refine NT ?_
 refine TC.seq ?_
 refine TC.seq (TC.region ?_)
 refine AS ?_
 refine NT ?_
 refine TC.block ?_
 refine TC.keep (L':=[(4,.int .i64 ((0:Nat):Int)),(3,.pointer (some ⟨B,0,none⟩)),(0,.slice (some ⟨A,0,none⟩) l.length cA)]) ⟨rfl,rfl,rfl,trivial⟩ ?_
 refine TC.loopN (fun i L H=>∃bs1,L=[(4,.int .i64 (i:Int)),(3,.pointer (some ⟨B,0,none⟩)),(0,.slice (some ⟨A,0,none⟩) l.length cA)]∧H=⟨bs1,[]⟩∧∃s5 c5 s7 c7,Bag bs bs1 B s5 c5 (hss.take i).flatten s7 c7 (l.take i)) l.length (fun K1 i L H hs' hle hn=>?_) ⟨_,rfl,rfl,_,_,_,_,by simpa using Bag.new hB0⟩
 obtain ⟨bs1,rfl,rfl,s5,c5,s7,c7,hB⟩:=hs'
 refine TC.seq ?_
 refine TC.seq (TC.region ?_)
 refine MV ?_
 refine MV ?_
 refine TO.u rfl rfl (TX.lenM Tryz.runUnderlying46 rfl rfl ?_)
 refine IB ?_
 refine NT ?_
 refine TC.cond rfl (fun hb=>?_) (fun hb=>?_)
 ·have hi:i < l.length:=by have:=of_decide_eq_true hb;omega
  have hcell:Cell bs1 A i (hv l[i]):=hB.ms.keep _ _ _ (hc i _ (List.getElem?_eq_getElem hi)) (fun q=>q)
  refine TC.skip ?_
  refine TE.thenN rfl rfl ?_
  refine TC.seq ?_
  refine TC.block ?_
  refine TC.region ?_
  have hi2:i < hss.length:=by omega
  obtain ⟨q1,q2⟩:=hin i _ _ (List.getElem?_eq_getElem hi) (List.getElem?_eq_getElem hi2)
  have hle2:(hss.take i).flatten.length+hss[i].length≤1000000:=by
   have:=flat_le hss i hi2
   omega
  have hno:l[i].1=none→hss[i]=[]:=fun e=>by
   have:=(h7.none_ _ (List.getElem_mem hi) e).1
   exact List.eq_nil_of_length_eq_zero (by omega)
  refine MV ?_
  refine MV ?_
  refine MV ?_
  refine TO.u rfl rfl (TX.ixN Tryz.runUnderlying46 Tryz.sizeOf44 rfl rfl hi rfl ?_)
  refine TO.u rfl rfl (TX.ldM Tryz.isAgg44 rfl hcell rfl ?_)
  refine TO.u rfl rfl (TX.callM (fun v bs'=>∃s5 c5 s7 c7,Bag bs bs' B s5 c5 ((hss.take i).flatten++hss[i]) s7 c7 (l.take i++[l[i]])) Tryz.call41 (vs:=[.pointer (some ⟨B,0,none⟩),hv l[i]]) rfl (fun w hnd hh=>c41m hB (by simp;omega) hle2 q1 q2 hno hnd hh) rfl ?_)
  rintro v bs2 ⟨s5',c5',s7',c7',hB'⟩
  refine TO.nil ?_
  refine TE.blockN ?_
  refine TE.thenN rfl rfl ?_
  refine TC.region ?_
  refine MV ?_
  refine IB ?_
  refine AS ?_
  refine TO.nil ?_
  rw [wI (by omega)]
  refine TE.keep (L':=[(4,.int .i64 ((i+1:Nat):Int)),(3,.pointer (some ⟨B,0,none⟩)),(0,.slice (some ⟨A,0,none⟩) l.length cA)]) ⟨rfl,rfl,rfl,trivial⟩ ?_
  exact hn _ _ hi ⟨bs2,rfl,rfl,s5',c5',s7',c7',by rw [take_next hi,List.take_succ,List.getElem?_eq_getElem hi2,List.flatten_append];simpa using hB'⟩
 have hi:l.length≤i:=by have:=of_decide_eq_false hb;omega
 rw [List.take_of_length_le hi,List.take_of_length_le (by omega)] at hB
 refine TC.exit ?_
 refine TE.thenX ?_
 refine TE.loopX ?_
 refine TE.blockH ?_
 refine TE.keep (L':=[(3,.pointer (some ⟨B,0,none⟩)),(0,.slice (some ⟨A,0,none⟩) l.length cA)]) ⟨rfl,rfl,trivial⟩ ?_
 refine TE.thenN rfl rfl ?_
 refine TC.seq (TC.region ?_)
 refine MV ?_
 refine TO.u rfl rfl (TX.callM (fun v bs'=>v=.bool true) Tryz.call42 (vs:=[.pointer (some ⟨B,0,none⟩)]) rfl (fun w hnd hh=>c42m hB (h5.step hB.ms) (h7.step hB.ms) hnd hh) rfl ?_)
 rintro _ bs2 rfl
 refine AS ?_
 refine NT ?_
 refine TC.ret ?_
 exact TE.fin (R:=⟨_,[]⟩) (TL.ret (R':=Hp.nil) Tryz.results13 (.cons (.tmp rfl) .nil) (by simp [Hp.all]) ⟨rfl,rfl⟩)
end Go.Proofs.YteicbpfkljnemaaGreat
namespace Go.HW
open Go Go.RowKit
section
variable {c:Cx} {ops:Array Oper} {Q:Exit→Act→World→Prop} {rest:List Oper} {L:Slots} {H:Hp}
variable {d:Nat} {T:TypeId} {pos:String} {af:Array Edge} {g:Option (Nat×Bool)}
theorem TX.capM {S e:TypeId} {y:Operand} {p:Option Addr} {n k:Nat} (hu:∀w,(underlying S).run c.P w=.ok (.slice e) w) (hx:ev L y=some (.slice p n k)) (hd:Nat.blt d c.n=true) (h:TO c ops Q rest ((d,.int .i64 (k:Int))::L) H):TX c ops Q ⟨some d,.call ⟨.builtin .cap,#[y],#[S]⟩,T,pos,af,g⟩ rest L H :=
 TX.val hd (fun a w s=>by simp [execOp,resolve,invoke,builtin,Builtin.cap_,hu,goInt,s.eval hx]) h
theorem TX.minM {x y:Operand} {ts:Array TypeId} {i j:Int} (hx:ev L x=some (.int .i64 i)) (hy:ev L y=some (.int .i64 j)) (hd:Nat.blt d c.n=true) (h:TO c ops Q rest ((d,.int .i64 (bif decide (j < i) then j else i))::L) H):TX c ops Q ⟨some d,.call ⟨.builtin .min,#[x,y],ts⟩,T,pos,af,g⟩ rest L H :=
 TX.val hd (fun a w s=>by by_cases hij:j < i <;> simp [execOp,resolve,invoke,builtin,Builtin.min_,Builtin.min2,s.eval hx,s.eval hy,hij]) h
end
end Go.HW
namespace Go.Proofs.YteicbpfkljnemaaGreat
open Go Go.HW Fl
set_option maxRecDepth 40000
theorem sub0 (s:Option Nat) (m cap:Nat):(Value.slice (subP (s.map fun b=>(⟨b,0,none⟩:Addr)) 1 cap (0:Int).toNat) ((m:Int).toNat - (0:Int).toNat) (cap - (0:Int).toNat))=.slice (s.map fun b=>⟨b,0,none⟩) m cap:=by
 have e:subP (s.map fun b=>(⟨b,0,none⟩:Addr)) 1 cap 0=s.map fun b=>⟨b,0,none⟩:=by
  unfold subP
  split
  ·rfl
  cases s <;> simp [add_none]
 simp [e]
theorem c34m {s:Option Nat} {n cap:Nat} {bs:Blocks} {w:World} (hn:n≤1000000) (hs:∀b,s=some b→HasB bs b 5 cap∧n≤cap) (hno:s=none→n=0∧cap=0) (hnd:(bs.map (·.1)).Nodup) (hh:∀p∈bs,w.heap[p.1]?=some p.2) :
  Ret Tryz.prog 34 [.slice (s.map fun b=>⟨b,0,none⟩) n cap] w ⟨bs,[]⟩ (fun v Q=>v=.tuple #[]∧Q=Hp.nil):=by
 have hcap:n≤cap:=by
  cases hc:s with
  | none=>rw [(hno hc).1];exact Nat.zero_le _
  | some b=>exact (hs b hc).2
 obtain ⟨m,hm,hmc,hm2⟩:∃m:Nat,(bif decide (((n+12:Nat):Int) < (cap:Int)) then ((n+12:Nat):Int) else (cap:Int))=(m:Int)∧m≤cap∧m≤1000012:=by
  by_cases h:n+12 < cap
  ·exact ⟨n+12,by rw [decide_eq_true (by omega)];rfl,by omega,by omega⟩
  exact ⟨cap,by rw [decide_eq_false (by omega)];rfl,by omega,by omega⟩
 refine Ret.of_body Tryz.func34 rfl Tryz.ntmps34 rfl (fun p hp=>hh p (by rw [mall] at hp;exact hp)) (by rw [mall];exact hnd) ?_
 refine TC.seq (TC.region ?_)
 refine MV ?_
 refine MV ?_
 refine TO.u rfl rfl (TX.capM Tryz.runUnderlying36 rfl rfl ?_)
 refine MV ?_
 refine TO.u rfl rfl (TX.lenM Tryz.runUnderlying36 rfl rfl ?_)
 refine IB ?_
 rw [show IntKind.i64.wrap ((n:Int)+12)=((n+12:Nat):Int) from by rw [IntKind.wrap_i64];omega]
 refine TO.u rfl rfl (TX.minM rfl rfl rfl ?_)
 rw [hm]
 refine TO.u rfl rfl (TX.slice (l:=0) (h:=(m:Int)) (m:=cap) Tryz.runUnderlying36 Tryz.sizeOf5 rfl .none (.some rfl) (Nat.le_refl _) (sliceOk_iff.2 ⟨Int.le_refl _,by omega,by omega⟩) rfl ?_)
 rw [sub0 s m cap]
 refine AS ?_
 refine NT ?_
 refine TC.seq (TC.region ?_)
 refine AS ?_
 refine NT ?_
 refine TC.block ?_
 refine TC.keep (L':=[(3,.int .i64 ((0:Nat):Int)),(2,.slice (s.map fun b=>⟨b,0,none⟩) m cap)]) ⟨rfl,rfl,trivial⟩ ?_
 refine TC.loopN (fun i L H=>∃bs,L=[(3,.int .i64 (i:Int)),(2,.slice (s.map fun b=>⟨b,0,none⟩) m cap)]∧H=⟨bs,[]⟩∧∀b,s=some b→HasB bs b 5 cap) m (fun K1 i L H hs' hle hn=>?_) ⟨bs,rfl,rfl,fun b hb=>(hs b hb).1⟩
 obtain ⟨bs,rfl,rfl,hB⟩:=hs'
 refine TC.seq ?_
 refine TC.seq (TC.region ?_)
 refine MV ?_
 refine MV ?_
 refine TO.u rfl rfl (TX.lenM Tryz.runUnderlying36 rfl rfl ?_)
 refine IB ?_
 refine NT ?_
 refine TC.cond rfl (fun hb=>?_) (fun hb=>?_)
 ·have hi:i < m:=by have:=of_decide_eq_true hb;omega
  obtain ⟨b,rfl⟩:∃b,s=some b:=by
   cases hc:s with
   | none=>have:=(hno hc).2;omega
   | some b=>exact ⟨b,rfl⟩
  refine TC.skip ?_
  refine TE.thenN rfl rfl ?_
  refine TC.seq ?_
  refine TC.block ?_
  refine TC.region ?_
  refine MV ?_
  refine MV ?_
  refine MV ?_
  refine TO.u rfl rfl (TX.callP Tryz.call55 rfl (fun a w s=>c55r 2 i w) rfl ?_)
  refine TO.u rfl rfl (TX.ixN Tryz.runUnderlying36 Tryz.sizeOf5 rfl rfl hi rfl ?_)
  refine TO.u rfl rfl (TX.stM (v:=mkv 2 i) Tryz.sizeOf5 rfl rfl rfl rfl (hB b rfl) (by omega) (fun bs1 ms c1=>?_))
  refine TO.nil ?_
  refine TE.blockN ?_
  refine TE.thenN rfl rfl ?_
  refine TC.region ?_
  refine MV ?_
  refine IB ?_
  refine AS ?_
  refine TO.nil ?_
  rw [wI (by omega)]
  refine TE.keep (L':=[(3,.int .i64 ((i+1:Nat):Int)),(2,.slice ((some b).map fun b=>⟨b,0,none⟩) m cap)]) ⟨rfl,rfl,trivial⟩ ?_
  exact hn _ _ hi ⟨bs1,rfl,rfl,fun b hb=>ms.blk _ _ _ (hB b hb)⟩
 refine TC.exit ?_
 refine TE.thenX ?_
 refine TE.loopX ?_
 refine TE.blockH ?_
 exact TE.finN (R:=⟨_,[]⟩) (TL.ret (R':=Hp.nil) Tryz.results34 .nil (by simp [Hp.all]) ⟨rfl,rfl⟩)
end Go.Proofs.YteicbpfkljnemaaGreat
namespace Go.HW
open Go Go.RowKit
theorem Ret.allEq {P:Program} {f:FuncId} {args:List Value} {w:World} {R R':Hp} {post:Value→Hp→Prop} (e:R.all=R'.all) (h:Ret P f args w R post):Ret P f args w R' post :=
 Calls.mono h fun x w' ⟨v,Q,h1,h2,h3⟩=>⟨v,Q,h1,⟨by rw [← e];exact h2.ext,h2.nodup,h2.heap,by rw [← e];exact h2.own⟩,h3⟩
theorem HasB.sub {A B:Blocks} (h:∀p∈A,p∈B) {b k:Nat} {T:TypeId} (hb:HasB A b T k):HasB B b T k:=by
 obtain ⟨l,fz,h1,h2,h3⟩:=hb
 exact ⟨l,fz,h _ h1,h2,h3⟩
end Go.HW
namespace Go.Proofs.YteicbpfkljnemaaGreat
open Go Go.HW Fl
set_option maxRecDepth 4000
def toHd (s:Go.HW.Sl):Hd:=(s.1.map (·.block),s.2.1,s.2.2)
theorem own_hd {α:Type} {N:En α} (hN:N.sz=1) {e:TypeId} {sp:Option Addr} {cap:Nat} {xs:List α} {r:Blocks} (h:OwnL N e sp cap xs r) :
  bks [toHd (sp,xs.length,cap)]=r.map (·.1)∧(.slice sp xs.length cap:Value)=hv (toHd (sp,xs.length,cap))∧(∀b,(toHd (sp,xs.length,cap)).1=some b→HasB r b e cap∧xs.length≤cap∧∀(i:Nat) (v:Value),(xs.flatMap N.enc)[i]?=some v→Cell r b i v)∧((toHd (sp,xs.length,cap)).1=none→xs.length=0∧cap=0):=by
 rcases h with ⟨rfl,rfl,rfl,rfl⟩ | ⟨g,cur,rfl,⟨fz,hf,rfl⟩,h1,h2,h3,h4⟩
 ·exact ⟨rfl,rfl,fun b hb=>(by cases hb),fun _=>⟨rfl,rfl⟩⟩
 refine ⟨rfl,rfl,fun b hb=>?_,fun hb=>(by cases hb)⟩
 cases hb
 rw [hN,Nat.mul_one] at h3 h4
 refine ⟨⟨cur,fz,List.mem_cons_self,hf,h3⟩,h1,fun i v hi=>⟨cur,e,fz,List.mem_cons_self,?_⟩⟩
 rw [← h4,List.getElem?_take] at hi
 split at hi
 ·simpa using hi
 cases hi
structure HdOk (A:Blocks) (e:TypeId) (h:Hd):Prop where
 some_:∀b,h.1=some b→HasB A b e h.2.2∧h.2.1≤h.2.2
 none_:h.1=none→h.2.1=0∧h.2.2=0
theorem HdOk.sub {A B:Blocks} {e:TypeId} {h:Hd} (hs:∀p∈A,p∈B) (x:HdOk A e h):HdOk B e h:=⟨fun b hb=>⟨(x.some_ b hb).1.sub hs,(x.some_ b hb).2⟩,x.none_⟩
theorem inall_hd {α:Type} {N:En α} (hN:N.sz=1) {e:TypeId}:∀{hl:List Go.HW.Sl} {xss:List (List α)} {rs:List Blocks},InAll N e hl xss rs →
  bks (hl.map toHd)=rs.flatten.map (·.1)∧(∀s∈hl,(.slice s.1 s.2.1 s.2.2:Value)=hv (toHd s))∧(∀s∈hl,HdOk rs.flatten e (toHd s)∧∃xs∈xss,s.2.1=xs.length)∧hl.length=xss.length
 | [],[],[],_=>⟨rfl,fun s h=>(by cases h),fun s h=>(by cases h),rfl⟩
 | (sp,n,cap)::hl,xs::xss,r::rs,h=>by
  obtain ⟨⟨h1,h2⟩,h3⟩:=h
  have h1:OwnL N e sp cap xs r:=h1
  have h2:xs.length=n:=h2
  subst h2
  obtain ⟨a1,a2,a3,a4⟩:=own_hd hN h1
  obtain ⟨b1,b2,b3,b4⟩:=inall_hd hN h3
  refine ⟨?_,fun s hs=>?_,fun s hs=>?_,by simp [b4]⟩
  ·have e1:bks (toHd (sp,xs.length,cap)::hl.map toHd)=bks [toHd (sp,xs.length,cap)]++bks (hl.map toHd):=by
    unfold bks;rw [← List.filterMap_append];rfl
   rw [List.map_cons,e1,a1,b1,List.flatten_cons,List.map_append]
  ·rcases List.mem_cons.1 hs with rfl | hs
   ·exact a2
   exact b2 s hs
  rcases List.mem_cons.1 hs with rfl | hs
  ·exact ⟨⟨fun b hb=>⟨(a3 b hb).1.sub fun p hp=>by rw [List.flatten_cons];exact List.mem_append_left _ hp,(a3 b hb).2.1⟩,a4⟩,xs,List.mem_cons_self,rfl⟩
  obtain ⟨c1,x,c2,c3⟩:=b3 s hs
  exact ⟨c1.sub fun p hp=>by rw [List.flatten_cons];exact List.mem_append_right _ hp,x,List.mem_cons_of_mem _ c2,c3⟩
 | [],[],_::_,h=>by simp [InAll] at h
 | [],_::_,_,h=>by simp [InAll] at h
 | _::_,[],_,h=>by simp [InAll] at h
 | _::_,_::_,[],h=>by simp [InAll] at h
theorem slenc (hl:List Go.HW.Sl) (i:Nat) (s:Go.HW.Sl) (h:hl[i]?=some s):(hl.flatMap En.sl.enc)[i]?=some (.slice s.1 s.2.1 s.2.2):=by
 have e:hl.flatMap En.sl.enc=hl.map fun s=>Value.slice s.1 s.2.1 s.2.2:=by
  induction hl generalizing i with
  | nil=>rfl
  | cons a l ih =>
   rw [List.flatMap_cons,List.map_cons]
   have:∀(l:List Go.HW.Sl),l.flatMap En.sl.enc=l.map fun s=>Value.slice s.1 s.2.1 s.2.2:=fun l=>by
    induction l with
    | nil=>rfl
    | cons a l ih=>rw [List.flatMap_cons,List.map_cons,ih];rfl
   rw [this];rfl
 rw [e,List.getElem?_map,h];rfl
theorem rowL_hd {sp:Option Addr} {cap:Nat} {xss:List (List Int)} {f bs:Blocks} (h:OwnLL (En.int .u8) 5 36 sp cap xss f) (hf:∀p∈f,p∈bs) (hn:(f.map (·.1)).Nodup) (hl:xss.length≤1000000) (hx:∀x∈xss,x.length≤1000000) :
  ∃l:List Hd,l.length=xss.length∧RowsOk bs 5 l∧HdOk bs 36 (toHd (sp,xss.length,cap))∧(.slice sp xss.length cap:Value)=hv (toHd (sp,xss.length,cap))∧(∀b,(toHd (sp,xss.length,cap)).1=some b→∀(i:Nat) (x:Hd),l[i]?=some x→Cell bs b i (hv x))∧f.map (·.1)=bks [toHd (sp,xss.length,cap)]++bks l:=by
 obtain ⟨_,hl0,H0,rs,h1,h2,rfl⟩:=h
 obtain ⟨b1,b2,b3,b4⟩:=inall_hd rfl h2
 obtain ⟨a1,a2,a3,a4⟩:=own_hd rfl h1
 rw [b4] at a1 a2 a3 a4
 have s1:∀p∈H0,p∈bs:=fun p hp=>hf p (List.mem_append_left _ hp)
 have s2:∀p∈rs.flatten,p∈bs:=fun p hp=>hf p (List.mem_append_right _ hp)
 refine ⟨hl0.map toHd,by simp [b4],⟨fun h hh b hb=>?_,fun h hh hb=>?_,fun h hh=>?_,?_,by simp [b4,hl]⟩,⟨fun b hb=>⟨(a3 b hb).1.sub s1,(a3 b hb).2.1⟩,a4⟩,a2,fun b hb i x hi=>?_,by rw [List.map_append,a1,b1]⟩
 ·obtain ⟨s,hs,rfl⟩:=List.mem_map.1 hh
  exact ((b3 s hs).1.sub s2).some_ b hb
 ·obtain ⟨s,hs,rfl⟩:=List.mem_map.1 hh
  exact (b3 s hs).1.none_ hb
 ·obtain ⟨s,hs,rfl⟩:=List.mem_map.1 hh
  obtain ⟨_,x,c2,c3⟩:=b3 s hs
  show s.2.1≤_
  rw [c3];exact hx x c2
 ·rw [b1]
  rw [List.map_append] at hn
  exact (List.nodup_append.1 hn).2.1
 rw [List.getElem?_map] at hi
 obtain ⟨s,hs,rfl⟩:=Option.map_eq_some_iff.1 hi
 rw [← b2 s (List.mem_of_getElem? hs)]
 obtain ⟨l,T,fz,q1,q2⟩:=(a3 b hb).2.2 i _ (slenc hl0 i s hs)
 exact ⟨l,T,fz,s1 _ q1,q2⟩
def fn34 (p0:List Int) (k:Nat):Option Unit:=bif decide (k≤1000000) then some () else none
theorem post0 {ρ:Env} {n:Nat} {v:Value} (hf:∀t,n≤t→ρ t=none):postC ρ n (.v v) [] n v Hp.nil:=⟨cB Tryz.prog default [],ρ,[],rfl,⟨fun _ _=>rfl,hf,Nat.le_refl _⟩,by rw [SV.den],rfl⟩
theorem c34 (p0:List Int) (k:Nat) (r:Unit) (h:fn34 p0 k=some r):Con Tryz.prog 34 [.sl 0] [(0,.vw (.ss 1 0 1 k)),(1,.row (Et.int .u8) 5 p0 p0.length .unk)] 2 (.v (.tuple #[])) [] 2:=by
 have hk:k≤1000000:=by
  unfold fn34 at h
  cases hd:decide (k≤1000000) with
  | true=>exact of_decide_eq_true hd
  | false=>rw [hd] at h;cases h
 intro w ρ F vs ha hr hf hh hnd gl
 obtain ⟨f0,F1,rfl,⟨sp0,cap0,k0,v1,v2,rfl⟩,f1,F2,rfl,⟨sp,cap,q1,q2,q3,_⟩,hF⟩:=hr
 have hF:F2=[]:=hF
 subst hF
 rw [SV.den,q1] at v2
 simp only [Option.bind_some] at v2
 cases hb:Nat.ble (0+k) p0.length with
 | false=>rw [hb] at v2;cases v2
 | true =>
  rw [hb,cond_true] at v2
  have hkl:k≤p0.length:=by have:=Nat.le_of_ble_eq_true hb;omega
  simp only [Option.some.injEq,Value.slice.injEq,Nat.sub_zero] at v2
  obtain ⟨e1,e2,e3⟩:=v2
  obtain ⟨vx,r',d1,d2,rfl⟩:=dens_cons_some.1 ha
  rw [dens_nil] at d2;cases d2
  rw [deni_na rfl,SV.den,v1] at d1
  simp only [Option.map_some,Option.some.injEq] at d1
  subst d1
  have hall:([[],f1]:List Blocks).flatten=f1:=by simp
  rw [hall] at hh hnd
  refine Ret.allEq (R:=⟨f1,[]⟩) (by simp [Hp.all]) ?_
  obtain ⟨a1,a2,a3,a4⟩:=own_hd (α:=Int) (N:=(Et.int .u8).toEn) rfl q3
  have esp:sp0=(toHd (sp,p0.length,cap)).1.map fun b=>⟨b,0,none⟩:=by
   have e4:subP sp 1 cap 0=sp:=by
    unfold subP
    split
    ·rfl
    cases sp with
    | none=>rfl
    | some x=>simp only [Option.map_some,Nat.zero_mul];cases x;simp [Addr.add]
   rw [← e1,e4]
   unfold hv at a2
   exact (Value.slice.inj a2).1
  rw [← e2,← e3,esp]
  refine Ret.mono (c34m (s:=(toHd (sp,p0.length,cap)).1) hk (fun b hb=>⟨(a3 b hb).1,by have:=(a3 b hb).2.1;omega⟩) (fun e=>⟨by have:=(a4 e).1;omega,(a4 e).2⟩) hnd hh) ?_
  rintro v Q ⟨rfl,rfl⟩
  exact post0 hf
def fn35 (p0:List (List Int)):Option Bool:=bif (decide (0 < p0.length)&&decide (p0.length≤1000000))&&p0.all (fun x=>decide (x.length≤1000000)) then some true else none
theorem c35 (p0:List (List Int)) (r:Bool) (h:fn35 p0=some r):Con Tryz.prog 35 [.sl 0] [(0,.rowL (Et.int .u8) 5 36 p0 p0.length)] 1 (.v (.bool r)) [] 1:=by
 have hk:(0 < p0.length∧p0.length≤1000000∧∀x∈p0,x.length≤1000000)∧r=true:=by
  unfold fn35 at h
  cases hd:(decide (0 < p0.length)&&decide (p0.length≤1000000))&&p0.all (fun x=>decide (x.length≤1000000)) with
  | true =>
   rw [hd,cond_true] at h
   simp only [Bool.and_eq_true,decide_eq_true_eq,List.all_eq_true] at hd
   exact ⟨⟨hd.1.1,hd.1.2,hd.2⟩,(Option.some.inj h).symm⟩
  | false=>rw [hd] at h;cases h
 obtain ⟨⟨k1,k2,k3⟩,rfl⟩:=hk
 intro w ρ F vs ha hr hf hh hnd gl
 obtain ⟨f1,F2,rfl,⟨sp,cap,q1,q2,q3⟩,hF⟩:=hr
 have hF:F2=[]:=hF
 subst hF
 have hall:([f1]:List Blocks).flatten=f1:=by simp
 rw [hall] at hh hnd
 obtain ⟨vx,r',d1,d2,rfl⟩:=dens_cons_some.1 ha
 rw [dens_nil] at d2;cases d2
 rw [deni_na rfl,SV.den,q1] at d1
 simp only [Option.map_some,Option.some.injEq] at d1
 subst d1
 refine Ret.allEq (R:=⟨f1,[]⟩) (by simp [Hp.all]) ?_
 obtain ⟨l,l1,l2,l3,l4,l5,l6⟩:=rowL_hd (bs:=f1) q3 (fun p hp=>hp) hnd k2 k3
 obtain ⟨A,hA⟩:∃A,(toHd (sp,p0.length,cap)).1=some A:=by
  cases hc:(toHd (sp,p0.length,cap)).1 with
  | none=>have:=(l3.none_ hc).1;exact absurd this (Nat.pos_iff_ne_zero.1 k1)
  | some A=>exact ⟨A,rfl⟩
 have e:(.slice sp p0.length cap:Value)=.slice (some ⟨A,0,none⟩) l.length cap:=by
  rw [l4];unfold hv;rw [hA,l1];rfl
 rw [List.singleton_append,e]
 refine Ret.mono (c35m (l5 A hA) l2 hnd hh) ?_
 rintro v Q ⟨rfl,rfl⟩
 exact post0 hf
end Go.Proofs.YteicbpfkljnemaaGreat
namespace Go.Proofs.YteicbpfkljnemaaGreat
open Go Go.HW Fl
set_option maxRecDepth 4000
def fn13 (p0 p1:List (List Int)):Option Bool:=bif ((decide (p0.length≤400000)&&decide (p1.length≤400000))&&p0.all (fun x=>decide (x.length≤1000000)))&&p1.all (fun x=>decide (x.length≤1000000)) then some true else none
theorem bks_app (a b:List Hd):bks (a++b)=bks a++bks b:=by unfold bks;rw [List.filterMap_append]
theorem c13 (p0 p1:List (List Int)) (r:Bool) (h:fn13 p0 p1=some r):Con Tryz.prog 13 [.sl 0] [(0,.ex (pSn 2) [.p 1 0]),(1,.cells 44 [.sl 2,.sl 3]),(2,.rowL (Et.int .u8) 5 36 p0 p0.length),(3,.rowL (Et.int .u8) 5 36 p1 p1.length)] 4 (.v (.bool r)) [] 4:=by
 have hk:(p0.length≤400000∧p1.length≤400000∧(∀x∈p0,x.length≤1000000)∧∀x∈p1,x.length≤1000000)∧r=true:=by
  unfold fn13 at h
  cases hd:((decide (p0.length≤400000)&&decide (p1.length≤400000))&&p0.all (fun x=>decide (x.length≤1000000)))&&p1.all (fun x=>decide (x.length≤1000000)) with
  | true =>
   rw [hd,cond_true] at h
   simp only [Bool.and_eq_true,decide_eq_true_eq,List.all_eq_true] at hd
   exact ⟨⟨hd.1.1.1,hd.1.1.2,hd.1.2,hd.2⟩,(Option.some.inj h).symm⟩
  | false=>rw [hd] at h;cases h
 obtain ⟨⟨k1,k2,k3,k4⟩,rfl⟩:=hk
 intro w ρ F vs ha hr hf hh hnd gl
 obtain ⟨f0,F1,rfl,⟨l0,vs0,a1,a2,g,a3,a4,rfl⟩,f1,F2,rfl,⟨g',vs1,b1,b2,rfl⟩,f2,F3,rfl,⟨sp2,cap2,x1,x2,x3⟩,f3,F4,rfl,⟨sp3,cap3,y1,y2,y3⟩,hF⟩:=hr
 have hF:F4=[]:=hF
 subst hF
 have hg:g'=g:=by
  rw [a3] at a2
  obtain ⟨v1,r1,e1,e2,e3⟩:=dens_cons_some.1 a2
  rw [dens_nil] at e2;cases e2
  rw [deni_na rfl,SV.den,b1] at e1;cases e1
  simp at e3;exact e3.symm
 subst hg
 subst a4
 have hvs:vs1=[.slice sp2 p0.length cap2,.slice sp3 p1.length cap3]:=by
  have:SV.dens ρ [.sl 2,.sl 3]=some [.slice sp2 p0.length cap2,.slice sp3 p1.length cap3]:=by
   rw [dens_cons,dens_cons,dens_nil,deni_na rfl,deni_na rfl,SV.den,SV.den,x1,y1];rfl
  rw [this] at b2;cases b2;rfl
 subst hvs
 obtain ⟨vx,r',d1,d2,rfl⟩:=dens_cons_some.1 ha
 rw [dens_nil] at d2;cases d2
 rw [deni_na rfl,SV.den,a1] at d1
 simp only [Option.map_some,Option.some.injEq] at d1
 subst d1
 generalize hcur:([.slice sp2 p0.length cap2,.slice sp3 p1.length cap3]:List Value).toArray=cur at *
 have hall:([[],[(g',Obj.cells cur 44 (0,0))],f2,f3]:List Blocks).flatten=[(g',Obj.cells cur 44 (0,0))]++(f2++f3):=by simp
 rw [hall] at hh hnd
 generalize hbs:[(g',Obj.cells cur 44 (0,0))]++(f2++f3)=bs at *
 refine Ret.allEq (R:=⟨bs,[]⟩) (by rw [mall];simp [Hp.all,← hbs]) ?_
 have hnd2:=hnd
 rw [← hbs,List.map_append,List.map_append,List.nodup_append,List.nodup_append] at hnd2
 obtain ⟨_,⟨n2,n3,n23⟩,_⟩:=hnd2
 have s2:∀p∈f2,p∈bs:=fun p hp=>by rw [← hbs];exact List.mem_append_right _ (List.mem_append_left _ hp)
 have s3:∀p∈f3,p∈bs:=fun p hp=>by rw [← hbs];exact List.mem_append_right _ (List.mem_append_right _ hp)
 obtain ⟨l,l1,l2,l3,l4,l5,l6⟩:=rowL_hd (bs:=bs) x3 s2 n2 (by omega) k3
 obtain ⟨m,m1,m2,m3,m4,m5,m6⟩:=rowL_hd (bs:=bs) y3 s3 n3 (by omega) k4
 have hc0:∀(i:Nat) (v:Value),([.slice sp2 p0.length cap2,.slice sp3 p1.length cap3]:List Value)[i]?=some v→Cell bs g' i v:=fun i v hv=>by
  refine ⟨cur,44,(0,0),by rw [← hbs];exact List.mem_cons_self,?_⟩
  rw [← hcur];simpa using hv
 have hdisj:∀a∈bks [toHd (sp2,p0.length,cap2)]++bks l,∀b∈bks [toHd (sp3,p1.length,cap3)]++bks m,a≠b:=fun a ha b hb=>n23 a (by rw [l6];exact ha) b (by rw [m6];exact hb)
 refine Ret.mono (c13m (l:=[toHd (sp2,p0.length,cap2),toHd (sp3,p1.length,cap3)]) (hss:=[l,m]) (fun i h hi=>?_) ⟨fun h hh b hb=>?_,fun h hh hb=>?_,fun h hh=>?_,?_,by simp⟩ ⟨fun h hh b hb=>?_,fun h hh hb=>?_,fun h hh=>?_,?_,by simp [l1,m1];omega⟩ rfl (fun i h hs hi hj=>?_) hnd hh) ?_
 ·refine hc0 i _ ?_
  match i,hi with
  | 0,hi=>cases hi;rw [← l4];rfl
  | 1,hi=>cases hi;rw [← m4];rfl
  | i+2,hi=>simp at hi
 ·rcases List.mem_cons.1 hh with rfl | hh
  ·exact l3.some_ b hb
  rw [List.mem_singleton] at hh;subst hh;exact m3.some_ b hb
 ·rcases List.mem_cons.1 hh with rfl | hh
  ·exact l3.none_ hb
  rw [List.mem_singleton] at hh;subst hh;exact m3.none_ hb
 ·rcases List.mem_cons.1 hh with rfl | hh
  ·exact Nat.le_trans k1 (by omega)
  rw [List.mem_singleton] at hh;subst hh;exact Nat.le_trans k2 (by omega)
 ·rw [show [toHd (sp2,p0.length,cap2),toHd (sp3,p1.length,cap3)]=[toHd (sp2,p0.length,cap2)]++[toHd (sp3,p1.length,cap3)] from rfl,bks_app,List.nodup_append]
  refine ⟨?_,?_,fun a ha b hb=>hdisj a (List.mem_append_left _ ha) b (List.mem_append_left _ hb)⟩
  ·rw [l6] at n2;exact (List.nodup_append.1 n2).1
  rw [m6] at n3;exact (List.nodup_append.1 n3).1
 ·rw [List.flatten_cons,List.flatten_cons,List.flatten_nil,List.append_nil] at hh
  rcases List.mem_append.1 hh with hh | hh
  ·exact l2.some_ h hh b hb
  exact m2.some_ h hh b hb
 ·rw [List.flatten_cons,List.flatten_cons,List.flatten_nil,List.append_nil] at hh
  rcases List.mem_append.1 hh with hh | hh
  ·exact l2.none_ h hh hb
  exact m2.none_ h hh hb
 ·rw [List.flatten_cons,List.flatten_cons,List.flatten_nil,List.append_nil] at hh
  rcases List.mem_append.1 hh with hh | hh
  ·exact l2.sm h hh
  exact m2.sm h hh
 ·rw [List.flatten_cons,List.flatten_cons,List.flatten_nil,List.append_nil,bks_app,List.nodup_append]
  exact ⟨l2.nd,m2.nd,fun a ha b hb=>hdisj a (List.mem_append_right _ ha) b (List.mem_append_right _ hb)⟩
 ·match i,hi,hj with
  | 0,hi,hj=>cases hi;cases hj;exact ⟨l1.symm,fun b hb j x hx=>l5 b hb j x hx⟩
  | 1,hi,hj=>cases hi;cases hj;exact ⟨m1.symm,fun b hb j x hx=>m5 b hb j x hx⟩
  | i+2,hi,_=>simp at hi
 rintro v Q ⟨rfl,rfl⟩
 exact post0 hf
end Go.Proofs.YteicbpfkljnemaaGreat
namespace Go.HW
open Go Go.RowKit
section
variable {c:Cx} {ops:Array Oper} {Q:Exit→Act→World→Prop} {rest:List Oper} {L:Slots} {H:Hp} {bs:Blocks}
variable {d:Nat} {T:TypeId} {pos:String} {af:Array Edge} {g:Option (Nat×Bool)}
theorem TO.nd {l:List Oper} (h:(bs.map (·.1)).Nodup→TO c ops Q l L ⟨bs,[]⟩):TO c ops Q l L ⟨bs,[]⟩:=fun a w s=>h s.nd a w s
theorem TC.nd {x:Code} (h:(bs.map (·.1)).Nodup→TC c x Q L ⟨bs,[]⟩):TC c x Q L ⟨bs,[]⟩:=fun a w s=>h s.nd a w s
theorem TX.ap0M {X A:TypeId} {info:TypeInfo} {x y:Operand} {b n cap cq:Nat} {p:Option Addr} (hu:∀w,(underlying X).run c.P w=.ok (.slice A) w) (hi:∀w,(typeInfo A).run c.P w=.ok info w)
  (hx:ev L x=some (.slice (some ⟨b,0,none⟩) n cap)) (hy:ev L y=some (.slice p 0 cq)) (hn:n≤cap) (hd:Nat.blt d c.n=true) (h:TO c ops Q rest ((d,.slice (some ⟨b,0,none⟩) n cap)::L) H) :
  TX c ops Q ⟨some d,.call ⟨.builtin .append,#[x,y],#[X,X]⟩,T,pos,af,g⟩ rest L H:=by
 refine TX.val hd (fun a w s=>?_) h
 have hu':=und_of hu
 have hi':=info_of hi
 have h1:(Builtin.append_ #[X,X] T #[.slice (some ⟨b,0,none⟩) n cap,.slice p 0 cq]).run c.P w=.ok (.slice (some ⟨b,0,none⟩) n cap) w:=by
  cases p with
  | none=>simp [Builtin.append_,run_underlying hu',sizeOf,typeInfo,hi',Builtin.lenOf,hn,run_firstCells_none,storeCells]
  | some ad =>
   have hf:=run_firstCells_some (P:=c.P) w info.size 0 ad 0 cq [] (by simp) (by simp)
   simp [Builtin.append_,run_underlying hu',sizeOf,typeInfo,hi',Builtin.lenOf,hn,hf,storeCells]
 simp [execOp,resolve,invoke,builtin,s.eval hx,s.eval hy,h1]
theorem TX.bs0M {X A:TypeId} (hu:∀w,(underlying X).run c.P w=.ok (.slice A) w) (hs:∀w,(sizeOf A).run c.P w=.ok 1 w) (hd:Nat.blt d c.n=true)
  (h:∀b,b∉ids bs→TO c ops Q rest ((d,.slice (some ⟨b,0,none⟩) 0 0)::L) ⟨(b,.cells #[] A)::bs,[]⟩):TX c ops Q ⟨some d,.buildSlice X 0 #[],T,pos,af,g⟩ rest L ⟨bs,[]⟩:=by
 intro a w s
 have hex:(execOp a.eval ⟨some d,.buildSlice X 0 #[],T,pos,af,g⟩).run c.P w=.ok (.value (.slice (some ⟨w.heap.size,0,none⟩) 0 0)) (w.alloc (.cells #[] A)):=by
  have e:(Array.map (fun x=>(default:Value)) (Array.range 0))=#[]:=Array.eq_empty_of_size_eq_zero (by simp)
  simp [execOp,Instr.buildSlice,hu,hs,Instr.fill,newRow,e]
  try rfl
 rw [hex]
 exact h w.heap.size s.fresh _ _ (Sat.put (dst:=some d) (s.alloc _) hd _)
theorem TX.s2bM {X Y e:TypeId} {x:Operand} {z:ByteArray} (hX:∀w,(underlying X).run c.P w=.ok .string w) (hY:∀w,(underlying Y).run c.P w=.ok (.slice e) w) (hE:∀w,(underlying e).run c.P w=.ok (.int .u8) w)
  (hx:ev L x=some (.string z)) (hz:z.size≤maxLen) (hd:Nat.blt d c.n=true)
  (h:∀(q cap:Nat) (cur:Array Value) (fz:Nat×Nat),q∉ids bs→NoFz fz cur.size→cur.size=cap→z.size≤cap→cap≤maxLen→(∀(t:Nat) (v:Value),((numsOf z).map fun n=>Value.int .u8 n)[t]?=some v→cur[t]?=some v)→TO c ops Q rest ((d,.slice (some ⟨q,0,none⟩) z.size cap)::L) ⟨(q,.cells cur e fz)::bs,[]⟩):TX c ops Q ⟨some d,.convert X Y x,T,pos,af,g⟩ rest L ⟨bs,[]⟩:=by
 refine TX.s2b (S:=[]) hX hY hE hx hz hd fun q cap Hs ho=>?_
 rcases ho with ⟨h0,_⟩ | ⟨gg,cur,h1,⟨fz,hfz,rfl⟩,h2,h3,h4,h5⟩
 ·cases h0
 cases h1
 intro a w s
 have s2:=s.perm (H':=⟨(gg,.cells cur e fz)::bs,[]⟩) (by
  simp only [Hp.all,List.flatten_cons,List.flatten_nil,List.append_nil]
  exact (List.perm_append_comm (l₁:=[(gg,.cells cur e fz)]) (l₂:=bs)))
 have hfr:gg∉ids bs:=by
  have:=s2.nd
  rw [List.map_cons,List.nodup_cons] at this
  exact this.1
 have e1:(En.int .u8).sz=1:=rfl
 rw [e1,Nat.mul_one] at h4 h5
 refine (numsOf_length z▸h gg cap cur fz hfr hfz h4 (by rw [← numsOf_length];exact h2) h3 (fun t v hv=>?_)) a w s2
 have e2:∀l:List Int,l.flatMap (En.int .u8).enc=l.map fun n=>Value.int .u8 n:=fun l=>by
  induction l with
  | nil=>rfl
  | cons a l ih=>rw [List.flatMap_cons,ih];rfl
 rw [e2] at h5
 rw [← h5,List.getElem?_take] at hv
 split at hv
 ·simpa using hv
 cases hv
theorem QV.b2sM {X Y e:TypeId} {x:Operand} {p:Option Addr} {cap:Nat} {z:ByteArray} (hX:∀w,(underlying X).run c.P w=.ok (.slice e) w) (hE:∀w,(underlying e).run c.P w=.ok (.int .u8) w) (hY:∀w,(underlying Y).run c.P w=.ok .string w)
  (hx:ev L x=some (.slice p z.size cap)) (hz:z.size≤maxLen) (hs:strOfNums (numsOf z)=z) (hc:z.size=0∨∃q,p=some ⟨q,0,none⟩∧∀(t:Nat) (v:Value),((numsOf z).map fun n=>Value.int .u8 n)[t]?=some v→Cell bs q t v):QV c ⟨some d,.convert X Y x,T,pos,af,g⟩ L ⟨bs,[]⟩ (.string z):=fun a w s=>by
 have hr:RdS (En.int .u8) w p (numsOf z):=by
  refine ⟨by rw [numsOf_length];exact hz,?_⟩
  rcases hc with h0 | ⟨q,rfl,hq⟩
  ·exact .inl (List.eq_nil_of_length_eq_zero (by rw [numsOf_length];exact h0))
  refine .inr ⟨_,rfl,rfl,fun k x hk j v hj=>?_⟩
  have hv:j=0∧v=.int .u8 x:=by
   cases j with
   | zero=>simp [En.int] at hj;exact ⟨rfl,hj.symm⟩
   | succ j=>simp [En.int] at hj
  obtain ⟨rfl,rfl⟩:=hv
  have:=s.cell (hq k (.int .u8 x) (by rw [List.getElem?_map,hk];rfl))
  simpa [En.int] using this
 have:=b2s_run (P:=c.P) (w:=w) (m:=z.size) (cq:=cap) hX hE hY (numsOf_length z) hr
 rw [hs] at this
 simp [execOp,s.eval hx,this]
theorem QV.sltM {xT yT:TypeId} {x y:Operand} {m k:ByteArray} (hx:ev L x=some (.string m)) (hy:ev L y=some (.string k)):QV c ⟨some d,.binOp .lss xT x y yT,T,pos,af,g⟩ L H (.bool (Op.bytesLess m.toList k.toList)):=fun a w s=>by
 simp [execOp,s.eval hx,s.eval hy,eqGuard,binOp,Op.stringOp]
theorem QV.ixK {X A:TypeId} {x ix:Operand} {b n m i k:Nat} {ik:IntKind} (hu:∀w,(underlying X).run c.P w=.ok (.slice A) w) (hs:∀w,(sizeOf A).run c.P w=.ok k w) (hx:ev L x=some (.slice (some ⟨b,0,none⟩) n m)) (hi:ev L ix=some (.int ik (i:Int))) (hk:i < n):QV c ⟨some d,.indexAddr X x ix,T,pos,af,g⟩ L H (.pointer (some ⟨b,i * k,none⟩)):=fun a w s=>by
 have k0:(0:Int)≤(i:Int):=by omega
 have k1:((i:Int):Int) < (n:Int):=by omega
 simp [execOp,Instr.indexAt,s.eval hx,s.eval hi,asIntOf,hu,k0,k1,hs,add_none]
 omega
theorem TX.ixK {X A:TypeId} {x ix:Operand} {b n m i k:Nat} {ik:IntKind} (hu:∀w,(underlying X).run c.P w=.ok (.slice A) w) (hs:∀w,(sizeOf A).run c.P w=.ok k w) (hx:ev L x=some (.slice (some ⟨b,0,none⟩) n m)) (hi:ev L ix=some (.int ik (i:Int))) (hk:i < n) (hd:Nat.blt d c.n=true) (h:TO c ops Q rest ((d,.pointer (some ⟨b,i * k,none⟩))::L) H):TX c ops Q ⟨some d,.indexAddr X x ix,T,pos,af,g⟩ rest L H:=TX.val hd (QV.ixK hu hs hx hi hk) h
theorem QV.faM {S:TypeId} {x:Operand} {b off:Nat} {f:Nat} {fs:List Field} {fd:Field} {k o':Nat} (hu:∀w,(underlying S).run c.P w=.ok (.struct fs.toArray) w)
  (hf:fs[f]?=some fd) (hk:∀w,(sizeOf fd.type).run c.P w=.ok (k+1) w) (hx:ev L x=some (.pointer (some ⟨b,off,none⟩))) (ho:off+fd.offset=o'):QV c ⟨some d,.fieldAddr S x f,T,pos,af,g⟩ L H (.pointer (some ⟨b,o',none⟩)):=by
 have:=QV.fieldAddr (c:=c) (H:=H) (T:=T) (pos:=pos) (af:=af) (g:=g) (d:=d) hu hf hk hx
 rwa [add_none,ho] at this
end
end Go.HW
