/- CodeTells: whatever text it is handed, the law answers true (what is made of its functions, if nothing is wrong with them, is what the document says), and the text reads as it did. -/
import Derived.Test.YtpllgpgdcbgalaaDoorRows
import Derived.Test.YtpllgpgdcbgalaaDoorCards
import Derived.Test.YtpllgpgdcbgalaaDoorTie
import Derived.SevenTiedAt
import Derived.LaidMore
import Derived.Stop.LaidErr
import Derived.Stop.Joined
import Derived.Test.YtpllgpgdcbgalaaDoorG5
import Derived.Test.YtpllgpgdcbgalaaDoorG13
import Derived.ProofKit
import Derived.OpenShut
import Derived.ChangeOld
set_option linter.unusedSimpArgs false
set_option linter.unusedVariables false
set_option maxRecDepth 8000
namespace Go.Proofs.YtpllgpgdcbgalaaDoor.lawCodeTells
open Go.ChangeShapes Go.WideShapes Go.ChangeAt Go.RowKit
theorem own:ownKnob Tryd.prog.godebug=none:=by kernel_rfl
theorem zadc:laidOutB Tryd.prog=true:=by kernel_rfl
theorem zabu (os:Os) (args:Array Value):laidMet Tryd.prog Rows.codeTellsRow.laid ((World.doorLaid Tryd.prog 2000 os).forCall (fun _ _=>0) ⟨#[],args,[]⟩).memory :=
  laidMet_of_run' 30 (by kernel_rfl) (by kernel_rfl)
theorem tab {W:World} (h:laidMet Tryd.prog Rows.codeTellsRow.laid W) (hS:W.ShapedOpen Tryd.prog):LayK (fun b=>W.heap[b]?) :=
  LayK.of_tab (Lib.tabIs_of_head (g:=3) (t:=164) (e:=146) (n:=20) (by kernel_rfl) (by kernel_rfl) (by kernel_rfl) (by kernel_rfl) (by kernel_rfl) (by kernel_rfl) (laidMet.tail (laidMet.tail h))) (zvd (laidMet.tail (laidMet.tail (laidMet.tail (laidMet.tail h))))) (zww (laidMet.tail (laidMet.tail (laidMet.tail h)))) (zvc hS)
set_option maxRecDepth 100000 in
theorem zaek (os:Os) (started:os.Started) (H:Type) (enc:TypeId×Value→H) :
    ReturnsInHanded {} Tryd.checked os 5 .any (fun w args=>(Rows.codeTellsSpec.pre enc Tryd.prog Tryd.f5 Rows.codeTellsRow.domain false w args∧laidMet Tryd.prog Rows.codeTellsRow.laid w)∧sizedMet enc Tryd.prog Tryd.f5 (OpenSpec.ofChange Rows.codeTellsSpec) false w args) (Rows.codeTellsSpec.post enc Tryd.prog Tryd.f5 false true false false):=by
  refine zsy (C:=Tryd.checked) (X:=fun w _=>laidMet Tryd.prog Rows.codeTellsRow.laid w) (fun _ _ _ hh h=>h.of_heap hh) own started (by kernel_rfl) Tryd.func5
    (ChangeSpec.witness_shaped (enc:=enc) (C:=Tryd.checked) (os:=os) (X:=fun w _=>laidMet Tryd.prog Rows.codeTellsRow.laid w) false (World.doorLaid Tryd.prog 2000 os) #[.string ⟨#[]⟩] 8 rfl (World.shaped_of_RefB (by kernel_rfl) (by kernel_rfl)) (by kernel_rfl) (by kernel_rfl) (by kernel_rfl) (zabu os _)) ?_
  intro W base args ds gs before hS hval0 hW hcnd hsz hL _
  have hval:∀ (j:Nat) t v,Tryd.f5.params[j]? = some t→args[j]? = some v→Value.okWide Tryd.prog W .any base t v:=hval0
  have hW':=hW
  obtain ⟨p,q,hA0,hV,rfl,hfz,hnd⟩:=hW
  have hA:DataW.TrodAll enc Tryd.prog W 0 (fun _=>true) true Tryd.f5.params.toList args.toList ds p:=hA0
  rw [Tryd.params5] at hA hval hsz
  obtain ⟨v0,vs0,d0,ds0,p0,q0,hargs,rfl,rfl,h0,r0⟩:=trodAll_cons hA
  obtain ⟨rfl,rfl,rfl⟩:=trodAll_nil r0
  obtain rfl:args = #[v0]:=by cases args; simp_all
  obtain ⟨rfl,rfl⟩:=trodVars_none hV
  obtain ⟨s0,rfl⟩:=okWide_string Tryd.underlying9 (hval 0 9 v0 rfl rfl)
  have k0:=h0
  have lt0:∀ x∈p0,x.block < W.heap.size:=by obtain ⟨m,hm⟩:=k0; exact DataW.trod_lt m _ _ _ hm
  obtain ⟨fu0,hf0⟩:=h0
  obtain ⟨y0,hy0,hr0⟩:=oStr.get enc W 0 (fun _=>true) true fu0 _ _ hf0 (fun n hn=>by
    have:=List.all_eq_true.1 hsz n (DataW.weights_mem_each (j:=0) (t:=9) rfl rfl n hn)
    simpa using this)
  clear hA0 hval0
  have hreach:reachBytes=140737488351232:=rfl
  refine (za.law (c:=zq Tryd.f5) Tryd.func5 (by kernel_rfl) (by kernel_rfl) (tab hL hS) (fun H nx=>(zug y0 H nx).mono fun _ _ _ h=>h.1) (fun ρ A => ?_)).mono fun e W' ⟨v,he,⟨_,_,_,hv⟩,bel⟩ => ?_
  · exact (LRel.cons ((hr0 ρ A).2 0 _ _ rfl rfl) LRel.nil)
  cases hv
  subst he
  exact ⟨_,rfl,_,_,_,[],_,[],hW',trodAll_mk1 (shut_bool Tryd.underlying4 _),(trodAll_cons_mk (Below.trod zadc (by kernel_rfl) (of_decide_eq_true (by kernel_rfl)) k0 bel lt0) trodAll_mk0),rfl,bel.frame _,fun h=>by cases h⟩
theorem zxz:Rows.CodeTellsSaid :=
  OpenClaim.holds_of_wide 5 Tryd.f5 rfl rfl rfl rfl rfl rfl rfl ⟨rfl,rfl,rfl,rfl,rfl⟩ rfl rfl rfl rfl rfl (by kernel_rfl) Tryd.func5 (by kernel_rfl)
    (of_decide_eq_true (by kernel_rfl)) (by unfold Func.isWrapper; first | (rw [if_pos (by decide +kernel)]; kernel_rfl) | (rw [if_neg (by decide +kernel)]; exact ⟨rfl,rfl⟩))
    (fun os started H enc _=>zaek os started H enc)
theorem proved:Rows.CodeTellsCardSaid :=
  Claim7.holds_tied_plain_at .later [] [.data,.data,.data,.sentinel,.sentinel] true (true,"f52806e445a49997220725008c653fcb19738469e01a6a5780ca5c781eb5692f") true
    zxz (fun _ h=>by cases h) (by kernel_rfl) (fun _ h=>by cases h) codeTells_row_tie rfl ⟨rfl,rfl⟩ (by kernel_rfl) rfl
    (fun f fn hf hfn=>by
      obtain rfl:f=5:=Option.some.inj ((show Tryd.prog.funcNamed "wanderstaff/zwlaw5.CodeTells" = some 5 by kernel_rfl).symm.trans hf) |>.symm
      obtain rfl:fn=Tryd.f5:=(Option.some.inj (Tryd.func5.symm.trans hfn)).symm
      exact ⟨by kernel_rfl,fun j t ht=>by
        rw [Tryd.params5] at ht
        have hm:t∈[9]:=by simpa using Array.mem_of_getElem? ht
        have hall:([9].all fun u=>!Tryd.prog.wantsStandIn u)=true:=by kernel_rfl
        exact (show Tryd.prog.wantsStandIn t=false by simpa using List.all_eq_true.1 hall t hm)⟩)
    (by kernel_rfl)
#print axioms proved
end Go.Proofs.YtpllgpgdcbgalaaDoor.lawCodeTells
