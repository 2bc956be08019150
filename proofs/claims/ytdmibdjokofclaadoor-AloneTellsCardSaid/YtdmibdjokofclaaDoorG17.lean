/- AloneTells: whatever places, name, program, permit, place and agent it is handed, the law answers true (Wrong, Find, Permit, Let and Run tell what the document's do), and what it was handed reads as it did. -/
import Derived.Test.YtdmibdjokofclaaDoorRows
import Derived.Test.YtdmibdjokofclaaDoorCards
import Derived.Test.YtdmibdjokofclaaDoorTie
import Derived.SevenTiedAt
import Derived.LaidMore
import Derived.Stop.LaidErr
import Derived.Stop.Joined
import Derived.Test.YtdmibdjokofclaaDoorG12
import Derived.Test.YtdmibdjokofclaaDoorG16
import Derived.ProofKit
import Derived.OpenShut
import Derived.ChangeOld
set_option linter.unusedSimpArgs false
set_option linter.unusedVariables false
set_option maxRecDepth 8000
namespace Go.Proofs.YtdmibdjokofclaaDoor.lawAloneTells
open Go.ChangeShapes Go.WideShapes Go.ChangeAt Go.RowKit
theorem own:ownKnob Tryd.prog.godebug=none:=by kernel_rfl
theorem zqn:laidOutB Tryd.prog=true:=by kernel_rfl
theorem zann (os:Os) (args:Array Value):laidMet Tryd.prog Rows.aloneTellsRow.laid ((World.doorLaid Tryd.prog 2000 os).forCall (fun _ _=>0) ⟨#[],args,[]⟩).memory :=
  laidMet_of_run' 30 (by kernel_rfl) (by kernel_rfl)
theorem tab {W:World} (h:laidMet Tryd.prog Rows.aloneTellsRow.laid W):LayK (fun b=>W.heap[b]?) :=
  LayK.of_tab (Lib.tabIs_of_head (g:=0) (t:=134) (e:=127) (n:=20) (by kernel_rfl) (by kernel_rfl) (by kernel_rfl) (by kernel_rfl) (by kernel_rfl) (by kernel_rfl) (laidMet.tail (laidMet.tail h))) (.of_none (by kernel_rfl) _) (.of_none (by kernel_rfl) _) (.of_none (by kernel_rfl) _)
set_option maxRecDepth 100000 in
theorem zaql (os:Os) (started:os.Started) (H:Type) (enc:TypeId×Value→H) :
    ReturnsInHanded {} Tryd.checked os 3 .any (fun w args=>(Rows.aloneTellsSpec.pre enc Tryd.prog Tryd.f3 Rows.aloneTellsRow.domain false w args∧laidMet Tryd.prog Rows.aloneTellsRow.laid w)∧sizedMet enc Tryd.prog Tryd.f3 (OpenSpec.ofChange Rows.aloneTellsSpec) false w args) (Rows.aloneTellsSpec.post enc Tryd.prog Tryd.f3 false true false false):=by
  refine returnsInHanded_of_change_and (C:=Tryd.checked) (X:=fun w _=>laidMet Tryd.prog Rows.aloneTellsRow.laid w) (fun _ _ _ hh h=>h.of_heap hh) own started (by kernel_rfl) Tryd.func3
    (ChangeSpec.witness_shaped (enc:=enc) (C:=Tryd.checked) (os:=os) (X:=fun w _=>laidMet Tryd.prog Rows.aloneTellsRow.laid w) false (World.doorLaid Tryd.prog 2000 os) #[.slice none 0 0,.string ⟨#[]⟩,.agg #[.slice none 0 0,.slice none 0 0],.agg #[.int .i64 0,.int .i64 0,.int .i64 0],.int .i64 0,.agg #[.int .i64 0,.int .i64 0,.slice none 0 0,.slice none 0 0,.slice none 0 0,.slice none 0 0,.int .i64 0,.int .i64 0,.int .i64 0]] 8 rfl (World.shaped_of_RefB (by kernel_rfl) (by kernel_rfl)) (by kernel_rfl) (by kernel_rfl) (by kernel_rfl) (zann os _)) ?_
  intro W base args ds gs before hval0 hW hcnd hsz hL _
  have hval:∀ (j:Nat) t v,Tryd.f3.params[j]? = some t→args[j]? = some v→Value.okWide Tryd.prog W .any base t v:=hval0
  have hW':=hW
  obtain ⟨p,q,hA0,hV,rfl,hfz,hnd⟩:=hW
  have hA:DataW.TrodAll enc Tryd.prog W 0 (fun _=>true) true Tryd.f3.params.toList args.toList ds p:=hA0
  rw [Tryd.params3] at hA hval hsz
  obtain ⟨v0,vs0,d0,ds0,p0,q0,hargs,rfl,rfl,h0,r0⟩:=trodAll_cons hA
  obtain ⟨v1,vs1,d1,ds1,p1,q1,rfl,rfl,rfl,h1,r1⟩:=trodAll_cons r0
  obtain ⟨v2,vs2,d2,ds2,p2,q2,rfl,rfl,rfl,h2,r2⟩:=trodAll_cons r1
  obtain ⟨v3,vs3,d3,ds3,p3,q3,rfl,rfl,rfl,h3,r3⟩:=trodAll_cons r2
  obtain ⟨v4,vs4,d4,ds4,p4,q4,rfl,rfl,rfl,h4,r4⟩:=trodAll_cons r3
  obtain ⟨v5,vs5,d5,ds5,p5,q5,rfl,rfl,rfl,h5,r5⟩:=trodAll_cons r4
  obtain ⟨rfl,rfl,rfl⟩:=trodAll_nil r5
  obtain rfl:args = #[v0,v1,v2,v3,v4,v5]:=by cases args; simp_all
  obtain ⟨rfl,rfl⟩:=trodVars_none hV
  obtain ⟨a0,len0,cap0,rfl⟩:=okWide_slice Tryd.underlying22 (hval 0 22 v0 rfl rfl)
  have k0:=h0
  have lt0:∀ x∈p0,x.block < W.heap.size:=by obtain ⟨m,hm⟩:=k0; exact DataW.trod_lt m _ _ _ hm
  obtain ⟨fu0,hf0⟩:=h0
  obtain ⟨y0,hy0,hr0⟩:=zare.get enc W 0 (fun _=>true) true fu0 _ _ hf0 (fun n hn=>by
    have:=List.all_eq_true.1 hsz n (DataW.weights_mem_each (j:=0) (t:=22) rfl rfl n hn)
    simpa using this)
  obtain ⟨s1,rfl⟩:=okWide_string Tryd.underlying9 (hval 1 9 v1 rfl rfl)
  have k1:=h1
  have lt1:∀ x∈p1,x.block < W.heap.size:=by obtain ⟨m,hm⟩:=k1; exact DataW.trod_lt m _ _ _ hm
  obtain ⟨fu1,hf1⟩:=h1
  obtain ⟨y1,hy1,hr1⟩:=oStr.get enc W 0 (fun _=>true) true fu1 _ _ hf1 (fun n hn=>by
    have:=List.all_eq_true.1 hsz n (DataW.weights_mem_each (j:=1) (t:=9) rfl rfl n hn)
    simpa using this)
  obtain ⟨cs2,rfl,_⟩:=okWide_struct Tryd.underlying26 (hval 2 26 v2 rfl rfl)
  have k2:=h2
  have lt2:∀ x∈p2,x.block < W.heap.size:=by obtain ⟨m,hm⟩:=k2; exact DataW.trod_lt m _ _ _ hm
  obtain ⟨fu2,hf2⟩:=h2
  obtain ⟨y2,hy2,hr2⟩:=oPrg.get enc W 0 (fun _=>true) true fu2 _ _ hf2 (fun n hn=>by
    have:=List.all_eq_true.1 hsz n (DataW.weights_mem_each (j:=2) (t:=26) rfl rfl n hn)
    simpa using this)
  obtain ⟨cs3,rfl,_⟩:=okWide_struct Tryd.underlying28 (hval 3 28 v3 rfl rfl)
  have k3:=h3
  have lt3:∀ x∈p3,x.block < W.heap.size:=by obtain ⟨m,hm⟩:=k3; exact DataW.trod_lt m _ _ _ hm
  obtain ⟨fu3,hf3⟩:=h3
  obtain ⟨y3,hy3,hr3⟩:=oPmt.get enc W 0 (fun _=>true) true fu3 _ _ hf3 (fun n hn=>by
    have:=List.all_eq_true.1 hsz n (DataW.weights_mem_each (j:=3) (t:=28) rfl rfl n hn)
    simpa using this)
  obtain ⟨n4,rfl,rfl,rfl,x4⟩:=open_int Tryd.underlying3 (hval 4 3 v4 rfl rfl) h4
  have w4 : -9223372036854775808≤n4∧n4≤9223372036854775807:=by
    have e1:IntKind.i64.min = -9223372036854775808:=rfl
    have e2:IntKind.i64.max=9223372036854775807:=rfl
    have:=x4
    simp [Lit.wf,e1,e2] at this
    exact this
  obtain ⟨cs5,rfl,_⟩:=okWide_struct Tryd.underlying32 (hval 5 32 v5 rfl rfl)
  have k5:=h5
  have lt5:∀ x∈p5,x.block < W.heap.size:=by obtain ⟨m,hm⟩:=k5; exact DataW.trod_lt m _ _ _ hm
  obtain ⟨fu5,hf5⟩:=h5
  obtain ⟨y5,hy5,hr5⟩:=oAgt.get enc W 0 (fun _=>true) true fu5 _ _ hf5 (fun n hn=>by
    have:=List.all_eq_true.1 hsz n (DataW.weights_mem_each (j:=5) (t:=32) rfl rfl n hn)
    simpa using this)
  clear hA0 hval0
  have hreach:reachBytes=140737488351232:=rfl
  have s0:=hy0.2
  have e0:Tryd.prog.bytesOf 49=56:=by kernel_rfl
  have e1:Tryd.prog.bytesOf 57=48:=by kernel_rfl
  rw [e0] at s0
  have f0:∀ s∈y0,s.facts.length≤4611686018427387903:=fun s hs=>by have:=(hy0.1 s hs).2.1.2; rw [e1] at this; omega
  have ok2:y2.ok:=fun w hw=>by have:=hy2.2.1 w hw; simp only [maxLen]; omega
  have s5:=hy5.2.2.2.2.1.2
  have e5:Tryd.prog.bytesOf 82=64:=by kernel_rfl
  rw [e5] at s5
  have ok5:y5.prog.ok:=fun w hw=>by have:=hy5.2.2.1.2.1 w hw; simp only [maxLen]; omega
  refine (za.law (c:=zn Tryd.f3) Tryd.func3 (by kernel_rfl) (by kernel_rfl) (tab hL) (fun H nx=>(zadk y0 y1 y2 y3 n4 y5 ok2 ok5 (by omega) (by omega) f0 H nx).mono fun _ _ _ h=>h.1) (fun ρ A => ?_)).mono fun e W' ⟨v,he,⟨_,_,_,hv⟩,bel⟩ => ?_
  · exact (LRel.cons ((hr0 ρ A).2 0 _ _ rfl rfl) (LRel.cons ((hr1 ρ A).2 0 _ _ rfl rfl) (LRel.cons (.agg _ _ (hr2 ρ A).1 fun j v c hv hc=>(hr2 ρ A).2 j v c hv (by show cs2.toList[j]? = some c; simpa using hc)) (LRel.cons (.agg _ _ (hr3 ρ A).1 fun j v c hv hc=>(hr3 ρ A).2 j v c hv (by show cs3.toList[j]? = some c; simpa using hc)) (LRel.cons (.int _ _) (LRel.cons (.agg _ _ (hr5 ρ A).1 fun j v c hv hc=>(hr5 ρ A).2 j v c hv (by show cs5.toList[j]? = some c; simpa using hc)) LRel.nil))))))
  cases hv
  subst he
  exact ⟨_,rfl,_,_,_,[],_,[],hW',trodAll_mk1 (shut_bool Tryd.underlying4 _),(trodAll_cons_mk (Below.trod zqn (by kernel_rfl) (of_decide_eq_true (by kernel_rfl)) k0 bel lt0) (trodAll_cons_mk (Below.trod zqn (by kernel_rfl) (of_decide_eq_true (by kernel_rfl)) k1 bel lt1) (trodAll_cons_mk (Below.trod zqn (by kernel_rfl) (of_decide_eq_true (by kernel_rfl)) k2 bel lt2) (trodAll_cons_mk (Below.trod zqn (by kernel_rfl) (of_decide_eq_true (by kernel_rfl)) k3 bel lt3) (trodAll_cons_mk (shut_int Tryd.underlying3 x4) (trodAll_cons_mk (Below.trod zqn (by kernel_rfl) (of_decide_eq_true (by kernel_rfl)) k5 bel lt5) trodAll_mk0)))))),rfl,bel.frame _,fun h=>by cases h⟩
theorem zajg:Rows.AloneTellsSaid :=
  OpenClaim.holds_of_wide 3 Tryd.f3 rfl rfl rfl rfl rfl rfl rfl ⟨rfl,rfl,rfl,rfl,rfl⟩ rfl rfl rfl rfl rfl (by kernel_rfl) Tryd.func3 (by kernel_rfl)
    (of_decide_eq_true (by kernel_rfl)) (by unfold Func.isWrapper; first | (rw [if_pos (by decide +kernel)]; kernel_rfl) | (rw [if_neg (by decide +kernel)]; exact ⟨rfl,rfl⟩))
    (fun os started H enc _=>zaql os started H enc)
theorem proved:Rows.AloneTellsCardSaid :=
  Claim7.holds_tied_plain_at .later [] [.data,.data,.data] true (true,"4e62a96edf0ec7843a2a62b5d78477698f804561fdea4f1b0164216ec86f1c15") false
    zajg (fun _ h=>by cases h) (by kernel_rfl) (fun _ h=>by cases h) aloneTells_row_tie rfl ⟨rfl,rfl⟩ (by kernel_rfl) rfl
    (fun f fn hf hfn=>by
      obtain rfl:f=3:=Option.some.inj ((show Tryd.prog.funcNamed "wanderstaff/zwlaw9.AloneTells" = some 3 by kernel_rfl).symm.trans hf) |>.symm
      obtain rfl:fn=Tryd.f3:=(Option.some.inj (Tryd.func3.symm.trans hfn)).symm
      exact ⟨by kernel_rfl,fun j t ht=>by
        rw [Tryd.params3] at ht
        have hm:t∈[22,9,26,28,3,32]:=by simpa using Array.mem_of_getElem? ht
        have hall:([22,9,26,28,3,32].all fun u=>!Tryd.prog.wantsStandIn u)=true:=by kernel_rfl
        exact (show Tryd.prog.wantsStandIn t=false by simpa using List.all_eq_true.1 hall t hm)⟩)
    (by kernel_rfl)
#print axioms proved
end Go.Proofs.YtdmibdjokofclaaDoor.lawAloneTells
