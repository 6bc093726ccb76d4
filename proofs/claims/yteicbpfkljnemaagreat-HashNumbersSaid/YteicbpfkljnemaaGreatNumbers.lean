/- HashNumbers returns true. No condition. -/
import Derived.Test.YteicbpfkljnemaaGreatRows
import Derived.WalkKit
import Derived.ProofKit
import Derived.OpenShut
import Derived.KernelRfl
import Derived.Test.YteicbpfkljnemaaGreatTG
set_option linter.all false
namespace Go.Proofs.YteicbpfkljnemaaGreat.hashNumbers
open Go.HW Go.ChangeShapes Go.WideShapes Go.ChangeAt Go.RowKit
theorem own:ownKnob Tryz.prog.godebug=none:=by kernel_rfl
theorem walk (w:World):Calls Tryz.prog 4 #[] w fun e w'=>e=.returned (.bool true)∧Below w.heap.size w w':=by
 have h:=Go.Proofs.YteicbpfkljnemaaGreat.c4 30000 true hashNumbers_plain w (fun _=>none) [] [] rfl rfl (fun _ _=>rfl) (fun p hp=>by simp at hp) (by simp) (fun _ _=>trivial)
 refine Calls.mono h ?_
 rintro e w' ⟨v,R',rfl,heff,c,ρ',F',rfl,_,hv,_⟩
 rw [SV.den] at hv;cases hv
 exact ⟨rfl,heff.ext.below⟩
set_option maxRecDepth 100000 in
theorem lifted (os:Os) (started:os.Started) (H:Type) (enc:TypeId×Value→H) :
  ReturnsInHanded {} Tryz.checked os 4 .any (Rows.hashNumbersSpec.pre6 enc Tryz.prog Tryz.f4 Rows.hashNumbersRow.domain false) (Rows.hashNumbersSpec.post enc Tryz.prog Tryz.f4 false true false false):=by
 refine returnsInHanded_of_change (C:=Tryz.checked) own started (by kernel_rfl) Tryz.func4
  (ChangeSpec.witness6 (enc:=enc) (C:=Tryz.checked) false ⟨#[],#[],[]⟩ 8 (by kernel_rfl) (by kernel_rfl) (by kernel_rfl) (by kernel_rfl)) ?_
 intro W base args ds gs before hval0 hW hcnd _
 have hW':=hW
 obtain ⟨p,q,hA0,hV,rfl,hfz,hnd⟩:=hW
 have hA:DataW.TrodAll enc Tryz.prog W 0 (fun _=>true) true Tryz.f4.params.toList args.toList ds p:=hA0
 rw [Tryz.params4] at hA
 obtain ⟨hv0,rfl,rfl⟩:=trodAll_nil hA
 obtain rfl:args=#[]:=by cases args;simp_all
 obtain ⟨rfl,rfl⟩:=trodVars_none hV
 clear hA0
 simp only [List.append_nil] at hW'
 refine (walk W).mono fun e W' ⟨he,hg⟩=>?_
 subst he
 refine ⟨_,rfl,post_below (pa:=[]) (pv:=[]) hW' (fun _ _ _=>(trodAll_cons_mk (shut_bool Tryz.underlying4 _) trodAll_mk0)) (fun sp hsp=>trodAll_mk0) (fun _ _=>rfl) rfl hg⟩
theorem over:Rows.hashNumbersRow.holds Tryz.pinned (OpenSpec.ofChange Rows.hashNumbersSpec) :=
 OpenClaim.holds_of_wide 4 Tryz.f4 rfl rfl rfl rfl rfl rfl rfl ⟨rfl,rfl,rfl,rfl,rfl⟩ rfl rfl rfl rfl rfl (by kernel_rfl) Tryz.func4 (by kernel_rfl)
  (of_decide_eq_true (by kernel_rfl)) (by unfold Func.isWrapper;first | (rw [if_pos (by decide +kernel)];kernel_rfl) | (rw [if_neg (by decide +kernel)];exact ⟨rfl,rfl⟩))
  (fun os started H enc _=>lifted os started H enc)
theorem proved:Rows.HashNumbersSaid :=
 over
end Go.Proofs.YteicbpfkljnemaaGreat.hashNumbers
