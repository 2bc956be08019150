/- What is right never gets stuck; who begins is right: in plain words. Agents as bytes, and back: the laws. What a step spends: in plain words. Going as if it were nothing: the plain functions, and what an agent comes to (chapter 9). Agents as bytes, and back: there and back; a part is nothing; seen the same, written the same. How great an agent that is away is. Going as if it were nothing: the program's small functions (chapter 9). Rows of one's own, by value from now on: cell by cell. Going as if it were nothing: what is wrong with places; who is let in: the program's. Going as if it were nothing: who is let in, and what is said: the program's. Going as if it were nothing: what is said: the program's. Going as if it were nothing: Run, the program's. Numbers and texts as values: the document's. Values shown: the document's. The document's machine: a frame in the last one's place. The document's machine: Answer, New. The document's machine: what a step gives back. The document's machine: what a step does, in small. -/
import Derived.Test.YtdmibdjokofclaaDoorG7
import Derived.Test.YtdmibdjokofclaaDoorG12
import Derived.Test.YtdmibdjokofclaaDoorG11
import Derived.Test.YtdmibdjokofclaaDoorG6
import Derived.Test.YtdmibdjokofclaaDoorG9
import Derived.Test.YtdmibdjokofclaaDoorG10
set_option linter.unusedSimpArgs false
set_option linter.unusedVariables false
set_option maxRecDepth 8000
namespace Go.Proofs.YtdmibdjokofclaaDoor
namespace VM
theorem first_code {p:Prg} (hp:program p=0):0 < p.codes.length∧0 < (codeAt p 0).ins.length∧0≤(codeAt p 0).vars∧(codeAt p 0).vars≤8∧there (hts p ⟨0,0,[],[]⟩) (0,0):=by
  have h0:0 < p.codes.length:=by
    unfold program at hp
    by_cases h1:p.codes.length < 1∨5 < p.codes.length
    · rw [if_pos h1] at hp; omega
    · omega
  have hcm:=code_mem (p:=p) (n:=0) (by simpa using h0)
  obtain ⟨pr,_⟩:=zad hp
  obtain ⟨crange,calm,hz⟩:=pr _ hcm
  have hk:=heights_ok calm hz
  unfold codeRange at crange
  rw [decide_eq_false_iff_not] at crange
  exact ⟨h0,by omega,by omega,by omega,hk.start⟩
theorem new_live {id:Int} {p:Prg} {m:Pmt} (hp:program p=0) (hi:0≤id∧id≤1000) (h1:0≤m.fuel∧m.fuel≤2000) (h2:0≤m.room∧m.room≤60) (h3:0≤m.hops∧m.hops≤12) :
    Live (newAgt id p m) [] ⟨0,0,List.replicate (codeAt p 0).vars.toNat vzero,[]⟩:=by
  obtain ⟨c1,c2,c3,c4,c5⟩:=first_code hp
  refine ⟨rfl,hp,by simp only [newAgt]; omega,by simp only [newAgt]; omega,h1,h2.1,h3,by simp,by simp only [newAgt,List.length_nil]; omega,fun g hg => ?_,.nil _,c5.2,fun c hc=>by cases hc⟩
  simp only [List.nil_append,List.mem_singleton] at hg
  subst hg
  exact ⟨by simp,by simp,by simpa [newAgt] using c1,by simpa [newAgt] using c2,by simp only [List.length_replicate,newAgt]; omega,fun v hv=>by rw [List.eq_of_mem_replicate hv]; exact zero_ok _,fun v hv=>by cases hv⟩
theorem iteK {c:Prop} [Decidable c] {x y:Agt×Evt} {k:Int} {Pp:Prop} (h1:c→x.2.kind=k→Pp) (h2:¬ c→y.2.kind=k→Pp):(if c then x else y).2.kind=k→Pp:=by
  by_cases h:c
  · rw [if_pos h]; exact h1 h
  · rw [if_neg h]; exact h2 h
theorem opDo_says {a:Agt} {s:Spt} {fs:List Frm} {f:Frm} {i:Ins}:(opDo a s fs f i).2.kind=2→i.op=14:=by
  unfold opDo push
  repeat' (refine iteK (fun _ => ?_) (fun _ => ?_))
  all_goals first
    | (simp [ev0,dead]; done)
    | (intro _; assumption)
    | skip
  split <;> simp [ev0]
theorem opDo_goes {a:Agt} {s:Spt} {fs:List Frm} {f:Frm} {i:Ins}:(opDo a s fs f i).2.kind=3→i.op=13∧(top1 f.stack).kind=1∧a.permit.hops ≠ 0:=by
  unfold opDo push
  repeat' (refine iteK (fun _ => ?_) (fun _ => ?_))
  all_goals first
    | (simp [ev0,dead]; done)
    | (intro _; exact ⟨by assumption,by simp_all,by assumption⟩)
    | skip
  split <;> simp [ev0]
theorem ite_kinds {c:Prop} [Decidable c] {x y:Int} (h1:c→x=0∨x=2∨x=3∨x=4∨x=5) (h2:¬ c→y=0∨y=2∨y=3∨y=4∨y=5):(if c then x else y)=0∨(if c then x else y)=2∨(if c then x else y)=3∨(if c then x else y)=4∨(if c then x else y)=5:=by
  by_cases h:c
  · rw [if_pos h]; exact h1 h
  · rw [if_neg h]; exact h2 h
theorem opDo_kinds (a:Agt) (s:Spt) (fs:List Frm) (f:Frm) (i:Ins):(opDo a s fs f i).2.kind=0∨(opDo a s fs f i).2.kind=2∨(opDo a s fs f i).2.kind=3∨(opDo a s fs f i).2.kind=4∨(opDo a s fs f i).2.kind=5:=by
  unfold opDo push
  simp only [apply_ite Prod.snd,apply_ite Evt.kind]
  repeat' (refine ite_kinds (fun _ => ?_) (fun _ => ?_))
  all_goals first
    | (simp [ev0,dead]; done)
    | (split <;> simp [ev0]; done)
    | skip
theorem step_kinds (a:Agt) (s:Spt):(step a s).2.kind=0∨(step a s).2.kind=2∨(step a s).2.kind=3∨(step a s).2.kind=4∨(step a s).2.kind=5:=by
  unfold step
  split
  · simp [dead]
  · split
    · simp [ev0]
    · exact opDo_kinds _ _ _ _ _
theorem step_open {a:Agt} {fs:List Frm} {f:Frm} {s:Spt} (l:Live a fs f) (h:(step a s).2.kind ≠ 5 ) (hf:a.permit.fuel ≠ 0):step a s=opDo { a with permit:={ a.permit with fuel:=a.permit.fuel - 1 } } s fs { f with at_:=f.at_+1 } (insAt a.prog f):=by
  unfold step at h ⊢
  rw [if_neg hf]
  have e1:a.frames.getLast? = some f:=by rw [l.fr]; simp
  have e2:a.frames.dropLast=fs:=by rw [l.fr]; simp
  rw [e1]
  simp only [e2]
theorem step_fuel {a:Agt} {s:Spt} (h:(step a s).2.kind ≠ 5):a.permit.fuel ≠ 0:=by
  intro e
  unfold step at h
  rw [if_pos e] at h
  exact h rfl
theorem low1_len {st:List Val} (h:1≤st.length):((low 1 st).length:Int)=st.length - 1:=by rw [low_len]; omega
theorem step_says {a:Agt} {fs:List Frm} {f:Frm} {s:Spt} (l:Live a fs f) (h:(step a s).2.kind=2):∃ gs g,Live (step a s).1 gs g:=by
  have hf:=step_fuel (by rw [h]; omega:(step a s).2.kind ≠ 5)
  have e:=step_open l (by rw [h]; omega) hf
  rw [e] at h ⊢
  have ho:=opDo_says h
  have n:=l.now
  generalize hi:insAt a.prog f=i at n ho ⊢
  obtain ⟨op,ia,ib⟩:=i
  simp only at ho
  subst ho
  rw [opDo_14]
  have pops:1≤f.stack.length:=by have:=n.pops; simp [effect] at this; omega
  have ok:=l.ok f (by simp)
  have b1:=l.fuel
  have nx:=n.go (by simp) (by simp)
  have ea:after (⟨14,ia,ib⟩:Ins) f.stack.length=(f.stack.length:Int) - 1:=by simp [after,effect]
  rw [ea] at nx
  exact ⟨fs,_,l.on (k:=f.at_+1) (vs:=f.vars) (st:=low 1 f.stack) (h:=a.heap) (m:={ a.permit with fuel:=a.permit.fuel - 1 }) (by rw [low1_len pops]; exact nx) rfl ok.vv (fun v hv=>ok.sv v (low_mem hv)) (Nat.le_refl _) l.cells (by simp only; omega) l.room l.hops l.hlen⟩
theorem step_goes {a:Agt} {fs:List Frm} {f:Frm} {s:Spt} (l:Live a fs f) (h:(step a s).2.kind=3) {yes:Int} (hy:0≤yes∧yes≤1):∃ g,Gone (step a s).1 fs g∧g.stack.length≤f.stack.length∧∃ g',Live (answer (step a s).1 yes) fs g':=by
  have hf:=step_fuel (by rw [h]; omega:(step a s).2.kind ≠ 5)
  have e:=step_open l (by rw [h]; omega) hf
  rw [e] at h ⊢
  obtain ⟨ho,hk,hh⟩:=opDo_goes h
  have n:=l.now
  have nat:=n.at_
  generalize hi:insAt a.prog f=i at n ho nat ⊢
  obtain ⟨op,ia,ib⟩:=i
  simp only at ho hk hh
  subst ho
  rw [opDo_13,if_neg (by simpa using hk),if_neg hh]
  have pops:1≤f.stack.length:=by have:=n.pops; simp [effect] at this; omega
  have ok:=l.ok f (by simp)
  have b1:=l.fuel
  have b3:=l.hops
  have nx:=n.go (by simp) (by simp)
  have ea:after (⟨13,ia,ib⟩:Ins) f.stack.length=(f.stack.length:Int):=by simp [after,effect]
  rw [ea] at nx
  obtain ⟨nx0,nx1⟩:=nx
  have klt:=(List.getElem?_eq_some_iff.1 nx1).1
  rw [hts_len l.prog ok.code] at klt
  have ok0:=ok.at0
  have still:=l.still
  have ll:=low1_len pops
  have at1:(f.at_+1).toNat - 1=f.at_.toNat:=by omega
  have okn:∀ (st:List Val),(∀ v∈st,WrongOk v a.heap.length)→FrOk a.prog a.heap.length ⟨f.fn,f.at_+1,f.vars,st⟩:=fun st hs=>⟨ok.fn0,by simp only; omega,ok.code,klt,ok.vars,ok.vv,hs⟩
  refine ⟨⟨f.fn,f.at_+1,f.vars,low 1 f.stack⟩,⟨rfl,l.prog,l.id,l.trip,by simp only [toF]; omega,l.room,by simp only [toF]; omega,l.flen,l.hlen,fun g hg => ?_,l.chain,⟨by simp only; omega,?_,?_,?_⟩,l.cells⟩,by simp only [low_len]; omega,⟨f.fn,f.at_+1,f.vars,low 1 f.stack ++ [⟨0,yes,[]⟩]⟩,?_⟩
  · rcases List.mem_append.1 hg with hg | hg
    · exact l.ok g (by simp [hg])
    · simp only [List.mem_singleton] at hg
      subst hg
      exact okn _ fun v hv=>ok.sv v (low_mem hv)
  · show ((codeAt a.prog f.fn).ins.getD ((f.at_+1).toNat - 1) ⟨0,0,0⟩).op=13
    rw [at1,List.getD_eq_getElem?_getD,nat]; rfl
  · show 0≤(hts a.prog f).getD ((f.at_+1).toNat - 1) 0
    rw [at1,List.getD_eq_getElem?_getD,still]
    simp
  · show (hts a.prog f)[(f.at_+1).toNat]? = some (((low 1 f.stack).length:Int)+1)
    rw [nx1,ll]; congr 1; omega
  · have ean:answer (toF { a with permit:={ a.permit with fuel:=a.permit.fuel - 1,hops:=a.permit.hops - 1 } } fs ⟨f.fn,f.at_+1,f.vars,low 1 f.stack⟩) yes={ a with frames:=fs ++ [⟨f.fn,f.at_+1,f.vars,low 1 f.stack ++ [⟨0,yes,[]⟩]⟩],permit:={ a.permit with fuel:=a.permit.fuel - 1,hops:=a.permit.hops - 1 } }:=by
      unfold answer toF
      simp
    rw [ean]
    refine l.on (k:=f.at_+1) (vs:=f.vars) (h:=a.heap) (m:={ a.permit with fuel:=a.permit.fuel - 1,hops:=a.permit.hops - 1 }) ?_ rfl ok.vv (fun v hv => ?_) (Nat.le_refl _) l.cells (by simp only; omega) l.room (by simp only; omega) l.hlen
    · refine ⟨nx0,?_⟩
      rw [List.length_append,List.length_singleton]
      have:(((low 1 f.stack).length+1:Nat):Int)=f.stack.length:=by omega
      rw [this]; exact nx1
    · rcases List.mem_append.1 hv with hv | hv
      · exact ok.sv v (low_mem hv)
      · simp only [List.mem_singleton] at hv
        subst hv
        exact num_ok (by omega) _
end VM
end Go.Proofs.YtdmibdjokofclaaDoor
set_option maxRecDepth 8000
namespace Go.Proofs.YtdmibdjokofclaaDoor
namespace VM
theorem roots_ok {a:Agt} {fs:List Frm} {f:Frm} (l:Gone a fs f):right a.heap (roots a)=true:=by
  refine ok_right (fun v hv => ?_) l.cells
  unfold roots at hv
  obtain ⟨g,hg,hv⟩:=List.mem_flatMap.1 hv
  rw [l.fr] at hg
  have ok:=l.ok g hg
  rcases List.mem_append.1 hv with h | h
  · exact ok.vv v h
  · exact ok.sv v h
theorem pack_gone {a:Agt} {fs:List Frm} {f:Frm} (l:Gone a fs f):Gone (pack a) (fs.map fun g=>{ g with vars:=g.vars.map (put (order a.heap (roots a))),stack:=g.stack.map (put (order a.heap (roots a))) }) { f with vars:=f.vars.map (put (order a.heap (roots a))),stack:=f.stack.map (put (order a.heap (roots a))) }:=by
  have hr:=roots_ok l
  obtain ⟨c1,c2,c3,_⟩:=canon_law hr
  have cv:=right_okV c3
  have cc:=right_okC c3
  have hlen:=l.hlen
  have room:=l.room
  refine ⟨by simp [pack,l.fr],l.prog,l.id,l.trip,l.fuel,l.room,l.hops,by simpa using l.flen,?_,fun g hg => ?_,?_,⟨l.went.pos,l.went.op,l.went.seen,?_⟩,cc⟩
  · show ((canonC a.heap (roots a)).length:Int)+a.permit.room≤60
    omega
  · have : ∃ g0∈fs ++ [f],g={ g0 with vars:=g0.vars.map (put (order a.heap (roots a))),stack:=g0.stack.map (put (order a.heap (roots a))) }:=by
      rcases List.mem_append.1 hg with h | h
      · obtain ⟨g0,h0,rfl⟩:=List.mem_map.1 h
        exact ⟨g0,by simp [h0],rfl⟩
      · simp at h; exact ⟨f,by simp,h⟩
    obtain ⟨g0,h0,rfl⟩:=this
    have ok:=l.ok g0 h0
    have mem:∀ v,v∈g0.vars ++ g0.stack→put (order a.heap (roots a)) v∈canonV a.heap (roots a):=fun v hv=>by
      refine List.mem_map_of_mem ?_
      unfold roots
      exact List.mem_flatMap.2 ⟨g0,by rw [l.fr]; exact h0,hv⟩
    refine ⟨ok.fn0,ok.at0,ok.code,ok.ins,by have:=ok.vars; simpa [pack] using this,fun v hv => ?_,fun v hv => ?_⟩
    · obtain ⟨u,hu,rfl⟩:=List.mem_map.1 hv
      exact cv _ (mem u (by simp [hu]))
    · obtain ⟨u,hu,rfl⟩:=List.mem_map.1 hv
      exact cv _ (mem u (by simp [hu]))
  · have key:∀ {gs:List Frm} {fn:Int},WChain a.prog gs fn→WChain a.prog (gs.map fun g=>{ g with vars:=g.vars.map (put (order a.heap (roots a))),stack:=g.stack.map (put (order a.heap (roots a))) }) fn:=by
      intro gs fn h
      induction h with
      | nil fn=>exact .nil fn
      | snoc gs g fn _ hw ih =>
        rw [List.map_append]
        exact .snoc _ _ _ ih ⟨hw.pos,hw.op,hw.to,hw.seen,by have:=hw.hei; unfold hts at this ⊢; simp only [List.length_map]; exact this⟩
    exact key l.chain
  · have:=l.went.hei
    unfold hts at this ⊢
    simp only [List.length_map]
    exact this
def Firm {α:Type} (m:Rd α):Prop:=∀ b a r c,m b=.ok a r→m (b ++ c)=.ok a (r ++ c)
theorem Firm.pure {α:Type} (a:α):Firm (Rd.pure a):=fun b x r c h=>by cases h; rfl
theorem Firm.bind {α β:Type} {m:Rd α} {k:α→Rd β} (h:Firm m) (h2:∀ a,Firm (k a)):Firm (m.bind k):=fun b x r c hx=>by
  unfold Rd.bind at hx ⊢
  split at hx
  · rename_i a r' hm
    rw [h _ _ _ c hm]
    exact h2 a _ _ _ c hx
  · cases hx
theorem Firm.many {α:Type} {m:Rd α} (h:Firm m):∀ n,Firm (rMany m n)
  | 0=>Firm.pure []
  | n+1=>h.bind fun a=>(Firm.many h n).bind fun l=>Firm.pure _
end VM
end Go.Proofs.YtdmibdjokofclaaDoor
set_option maxRecDepth 8000
namespace Go.Proofs.YtdmibdjokofclaaDoor
namespace VM
def Sp (b:Agt) (r:Agt×Evt):Prop:=r.1.permit.fuel=b.permit.fuel∧0≤r.1.permit.room∧(r.1.heap.length:Int) - b.heap.length=b.permit.room - r.1.permit.room∧r.1.permit.room≤b.permit.room∧(r.2.kind=3→r.1.permit.hops=b.permit.hops - 1∧0≤r.1.permit.hops)∧(r.2.kind ≠ 3→r.1.permit.hops=b.permit.hops)
theorem sp_ite {b:Agt} {c:Prop} [Decidable c] {x y:Agt×Evt} (h1:c→Sp b x) (h2:¬ c→Sp b y):Sp b (if c then x else y):=by
  by_cases h:c
  · rw [if_pos h]; exact h1 h
  · rw [if_neg h]; exact h2 h
theorem opDo_sp {b:Agt} {s:Spt} {fs:List Frm} {f:Frm} {i:Ins} (h1:0≤b.permit.room) (h2:0≤b.permit.hops):Sp b (opDo b s fs f i):=by
  unfold opDo push
  repeat' (refine sp_ite (fun _ => ?_) (fun _ => ?_))
  all_goals first
    | (unfold Sp; simp [toF,ev0,dead]; omega; done)
    | (unfold Sp; simp [toF,ev0,dead,h1]; done)
    | skip
  split
  · unfold Sp; simp [h1]
  · unfold Sp; simp [toF,ev0,h1]
theorem step_sp {a:Agt} {fs:List Frm} {f:Frm} (l:Live a fs f) (s:Spt):(a.permit.fuel=0→step a s=(a,dead 12))∧(a.permit.fuel ≠ 0→Sp { a with permit:={ a.permit with fuel:=a.permit.fuel - 1 } } (step a s)):=by
  have hr:=l.room
  have hh:=l.hops.1
  refine ⟨fun h=>by unfold step; rw [if_pos h],fun h => ?_⟩
  unfold step
  rw [if_neg h,l.fr]
  simp only [List.getLast?_append,List.getLast?_singleton,Option.some_or]
  exact opDo_sp hr hh
end VM
end Go.Proofs.YtdmibdjokofclaaDoor
set_option maxRecDepth 8000
namespace Go.Proofs.YtdmibdjokofclaaDoor
namespace VM
def spt0:Spt:=⟨[],[],0,0⟩
def badName (before:List Spt) (s:Spt):Prop:=s.name.length < 1∨12 < s.name.length∨before.any (fun x=>decide (x.name=s.name))=true
instance (before:List Spt) (s:Spt):Decidable (badName before s):=by unfold badName; infer_instance
def badFact (f:Fct):Bool:=decide (60 < f.key.length) || decide (wrong f.val 0 ≠ 0)
def spotErr (before:List Spt) (s:Spt):Int :=
  if badName before s then 7
  else if s.fuel < 0∨2000 < s.fuel∨s.cells < 0∨60 < s.cells then 3
  else if 4 < s.facts.length then 5
  else if s.facts.any badFact=true then 11
  else 0
def spotsGo:List Spt→List Spt→Int×Int
  | _,[]=>(0,-1)
  | before,s :: r=>if spotErr before s ≠ 0 then (spotErr before s,before.length) else spotsGo (before ++ [s]) r
def spotsWrong (l:List Spt):Int×Int:=if l.length < 1∨4 < l.length then (5,-1) else spotsGo [] l
def findGo (name:Str):List Spt→Nat→Int
  | [],_ => -1
  | s :: r,i=>if s.name=name then (i:Int) else findGo name r (i+1)
def find (l:List Spt) (name:Str):Int:=findGo name l 0
def permitErr (m:Pmt):Int:=if m.fuel < 0∨2000 < m.fuel∨m.room < 0∨60 < m.room∨m.hops < 0∨12 < m.hops then 3 else 0
def fueled (a:Agt) (n:Int):Agt:={ a with permit:={ a.permit with fuel:=n } }
def letIn (a:Agt) (s:Spt):Option Agt:=if s.cells < (pack a).heap.length then none else some (answer (fueled (pack a) (min a.permit.fuel s.fuel)) 1)
def landed (l:List Spt) (at_:Nat) (x:Agt) (to:Str):Agt×Nat :=
  if 0≤find l to∧find l to ≠ at_ then (match letIn x (l.getD (find l to).toNat spt0) with
    | some y=>(y,(find l to).toNat)
    | none=>(answer x 0,at_))
  else (answer x 0,at_)
def goS (l:List Spt):Nat→Agt→Nat→List Str→List Str×Str×Int
  | 0,_,_,said=>(said,[],0)
  | n+1,a,at_,said =>
    let r:=step a (l.getD at_ spt0)
    if r.2.kind=0 then goS l n r.1 at_ said
    else if r.2.kind=2 then goS l n r.1 at_ (said ++ [r.2.text])
    else if r.2.kind=3 then goS l n (landed l at_ r.1 r.2.text).1 (landed l at_ r.1 r.2.text).2 said
    else (said,r.2.text,r.2.err)
def go (l:List Spt) (a:Agt) (at_:Nat) (said:List Str):List Str×Str×Int:=goS l (a.permit.fuel.toNat+1) a at_ said
def alone (p:Prg) (m:Pmt) (l:List Spt) (at_:Int):(List Str×Str×Int)×Int :=
  if (spotsWrong l).1 ≠ 0 then (([],[],0),(spotsWrong l).1)
  else if permitErr m ≠ 0 then (([],[],0),permitErr m)
  else if at_ < 0∨(l.length:Int)≤at_ then (([],[],0),6)
  else (go l (newAgt 0 p m) at_.toNat [],0)
structure OkSpots (l:List Spt):Prop where
  len:1≤l.length∧l.length≤4
  name:∀ s∈l,s.name.length≤12
  fuel:∀ s∈l,0≤s.fuel∧s.fuel≤2000
  cells:∀ s∈l,0≤s.cells∧s.cells≤60
  many:∀ s∈l,s.facts.length≤4
  facts:∀ s∈l,∀ x∈s.facts,WrongOk x.val (0:Int)
theorem spotErr_ok {b:List Spt} {s:Spt} (h:spotErr b s=0):s.name.length≤12∧(0≤s.fuel∧s.fuel≤2000)∧(0≤s.cells∧s.cells≤60)∧s.facts.length≤4∧∀ x∈s.facts,WrongOk x.val (0:Int):=by
  unfold spotErr at h
  split at h
  · cases h
  rename_i h1
  split at h
  · cases h
  split at h
  · cases h
  split at h
  · cases h
  rename_i h4
  unfold badName at h1
  refine ⟨by omega,by omega,by omega,by omega,fun x hx => ?_⟩
  have:badFact x=false:=by
    have h5:=Bool.eq_false_iff.2 h4
    rw [List.any_eq_false] at h5
    simpa using h5 x hx
  unfold badFact at this
  simp at this
  exact wrong_ok this.2
theorem spotsGo_ok:∀ {r b:List Spt},(spotsGo b r).1=0→∀ s∈r,∃ c,spotErr c s=0
  | [],b,_,s,hs=>by cases hs
  | x :: r,b,h,s,hs=>by
    unfold spotsGo at h
    by_cases he:spotErr b x ≠ 0
    · rw [if_pos he] at h; exact absurd h he
    · rw [if_neg he] at h
      rcases List.mem_cons.1 hs with rfl | hs
      · exact ⟨b,Classical.not_not.1 he⟩
      · exact spotsGo_ok h s hs
theorem spots_ok {l:List Spt} (h:(spotsWrong l).1=0):OkSpots l:=by
  unfold spotsWrong at h
  split at h
  · cases h
  rename_i hl
  have key:=fun s hs=>spotsGo_ok h s hs
  refine ⟨by omega,fun s hs => ?_,fun s hs => ?_,fun s hs => ?_,fun s hs => ?_,fun s hs => ?_⟩ <;> (obtain ⟨c,hc⟩:=key s hs; have:=spotErr_ok hc)
  · exact this.1
  · exact this.2.1
  · exact this.2.2.1
  · exact this.2.2.2.1
  · exact this.2.2.2.2
theorem findGo_range (name:Str):∀ (r:List Spt) (i:Nat),findGo name r i = -1∨((i:Int)≤findGo name r i∧findGo name r i < i+r.length)
  | [],i=>.inl rfl
  | s :: r,i=>by
    unfold findGo
    split
    · right; simp; omega
    · rcases findGo_range name r (i+1) with h | h
      · exact .inl h
      · right; simp; omega
theorem find_range (l:List Spt) (name:Str):find l name = -1∨(0≤find l name∧find l name < l.length):=by
  have:=findGo_range name l 0
  unfold find
  simpa using this
theorem getD_spot {l:List Spt} {i:Nat} (h:i < l.length):l.getD i spt0∈l:=getD_mem h
theorem gone_fueled {a:Agt} {fs:List Frm} {f:Frm} (l:Gone a fs f) {n:Int} (h:0≤n∧n≤2000):Gone (fueled a n) fs f :=
  ⟨l.fr,l.prog,l.id,l.trip,h,l.room,l.hops,l.flen,l.hlen,l.ok,l.chain,l.went,l.cells⟩
theorem answer_fuel {a:Agt} {fs:List Frm} {f:Frm} (h:a.frames=fs ++ [f]) (n:Int):(answer a n).permit=a.permit:=by
  unfold answer
  rw [h]
  simp [toF]
theorem landed_live {l:List Spt} (ok:OkSpots l) {x:Agt} {fs:List Frm} {f:Frm} (g:Gone x fs f) {i:Nat} (hi:i < l.length) (to:Str) :
    (∃ gs h,Live (landed l i x to).1 gs h)∧(landed l i x to).2 < l.length∧(landed l i x to).1.permit.fuel≤x.permit.fuel:=by
  have stay:(∃ gs h,Live (answer x 0) gs h)∧(answer x 0).permit.fuel≤x.permit.fuel:=⟨⟨_,_,answer_live g (by omega)⟩,by rw [answer_fuel g.fr]; exact Int.le_refl _⟩
  unfold landed
  by_cases hc:0≤find l to∧find l to ≠ i
  · rw [if_pos hc]
    have hr:=find_range l to
    have hlt:(find l to).toNat < l.length:=by omega
    have hs:=ok.fuel _ (getD_spot hlt)
    unfold letIn
    split
    · rename_i y hy
      split at hy
      · cases hy
      · cases hy
        have gp:=pack_gone g
        have gf:=g.fuel
        have gg:=gone_fueled gp (n:=min x.permit.fuel (l.getD (find l to).toNat spt0).fuel) (by omega)
        refine ⟨⟨_,_,answer_live gg (by omega)⟩,hlt,?_⟩
        rw [answer_fuel gg.fr]
        show min x.permit.fuel _≤x.permit.fuel
        omega
    · exact ⟨stay.1,hi,stay.2⟩
  · rw [if_neg hc]
    exact ⟨stay.1,hi,stay.2⟩
theorem stepped {a:Agt} {fs:List Frm} {f:Frm} (l:Live a fs f) {s:Spt} (hs:∀ x∈s.facts,WrongOk x.val (0:Int)) :
    ((step a s).2.kind=0∧(∃ gs g,Live (step a s).1 gs g)∧(step a s).1.permit.fuel=a.permit.fuel - 1∧a.permit.fuel ≠ 0) ∨
    ((step a s).2.kind=2∧(∃ gs g,Live (step a s).1 gs g)∧(step a s).1.permit.fuel=a.permit.fuel - 1∧a.permit.fuel ≠ 0) ∨
    ((step a s).2.kind=3∧(∃ gs g,Gone (step a s).1 gs g)∧(step a s).1.permit.fuel=a.permit.fuel - 1∧a.permit.fuel ≠ 0) ∨
    ((step a s).2.kind=4∨(step a s).2.kind=5):=by
  obtain ⟨q0,q1⟩:=step_sp l s
  have fu:(step a s).2.kind ≠ 5→(step a s).1.permit.fuel=a.permit.fuel - 1∧a.permit.fuel ≠ 0:=fun h=>by
    have hf:=step_fuel h
    exact ⟨(q1 hf).1,hf⟩
  rcases step_kinds a s with h | h | h | h | h
  · exact .inl ⟨h,step_live l hs h,fu (by omega)⟩
  · exact .inr (.inl ⟨h,step_says l h,fu (by omega)⟩)
  · obtain ⟨g,h1,_⟩:=step_goes l h (yes:=0) (by omega)
    exact .inr (.inr (.inl ⟨h,⟨_,_,h1⟩,fu (by omega)⟩))
  · exact .inr (.inr (.inr (.inl h)))
  · exact .inr (.inr (.inr (.inr h)))
theorem goS_succ (l:List Spt) (n:Nat) (a:Agt) (i:Nat) (said:List Str):goS l (n+1) a i said =
    if (step a (l.getD i spt0)).2.kind=0 then goS l n (step a (l.getD i spt0)).1 i said
    else if (step a (l.getD i spt0)).2.kind=2 then goS l n (step a (l.getD i spt0)).1 i (said ++ [(step a (l.getD i spt0)).2.text])
    else if (step a (l.getD i spt0)).2.kind=3 then goS l n (landed l i (step a (l.getD i spt0)).1 (step a (l.getD i spt0)).2.text).1 (landed l i (step a (l.getD i spt0)).1 (step a (l.getD i spt0)).2.text).2 said
    else (said,(step a (l.getD i spt0)).2.text,(step a (l.getD i spt0)).2.err):=rfl
theorem goS_more {l:List Spt} (ok:OkSpots l):∀ (k m:Nat) {a:Agt} {fs:List Frm} {f:Frm} {i:Nat} {said:List Str},Live a fs f→i < l.length→a.permit.fuel.toNat < k→a.permit.fuel.toNat < m→goS l k a i said=goS l m a i said
  | 0,_,a,fs,f,i,said,_,_,h,_=>absurd h (Nat.not_lt_zero _)
  | _+1,0,a,fs,f,i,said,_,_,_,h=>absurd h (Nat.not_lt_zero _)
  | k + 1,m+1,a,fs,f,i,said,lv,hi,h1,h2=>by
    rw [goS_succ,goS_succ]
    have fb:=lv.fuel
    rcases stepped lv (ok.facts _ (getD_spot hi)) with ⟨hk,⟨gs,g,l'⟩,hf,h0⟩ | ⟨hk,⟨gs,g,l'⟩,hf,h0⟩ | ⟨hk,⟨gs,g,l'⟩,hf,h0⟩ | hk
    · rw [if_pos hk,if_pos hk]
      exact goS_more ok k m l' hi (by omega) (by omega)
    · rw [if_neg (by omega),if_pos hk,if_neg (by omega),if_pos hk]
      exact goS_more ok k m l' hi (by omega) (by omega)
    · rw [if_neg (by omega),if_neg (by omega),if_pos hk,if_neg (by omega),if_neg (by omega),if_pos hk]
      obtain ⟨⟨gs,g,l2⟩,hj,hle⟩:=landed_live ok l' hi (step a (l.getD i spt0)).2.text
      have fb2:=l2.fuel
      exact goS_more ok k m l2 hj (by omega) (by omega)
    · rw [if_neg (by omega),if_neg (by omega),if_neg (by omega),if_neg (by omega),if_neg (by omega),if_neg (by omega)]
theorem go_step {l:List Spt} (ok:OkSpots l) {a:Agt} {fs:List Frm} {f:Frm} {i:Nat} {said:List Str} (lv:Live a fs f) (hi:i < l.length):go l a i said =
    if (step a (l.getD i spt0)).2.kind=0 then go l (step a (l.getD i spt0)).1 i said
    else if (step a (l.getD i spt0)).2.kind=2 then go l (step a (l.getD i spt0)).1 i (said ++ [(step a (l.getD i spt0)).2.text])
    else if (step a (l.getD i spt0)).2.kind=3 then go l (landed l i (step a (l.getD i spt0)).1 (step a (l.getD i spt0)).2.text).1 (landed l i (step a (l.getD i spt0)).1 (step a (l.getD i spt0)).2.text).2 said
    else (said,(step a (l.getD i spt0)).2.text,(step a (l.getD i spt0)).2.err):=by
  unfold go
  rw [goS_succ]
  have fb:=lv.fuel
  rcases stepped lv (ok.facts _ (getD_spot hi)) with ⟨hk,⟨gs,g,l'⟩,hf,h0⟩ | ⟨hk,⟨gs,g,l'⟩,hf,h0⟩ | ⟨hk,⟨gs,g,l'⟩,hf,h0⟩ | hk
  · rw [if_pos hk,if_pos hk]
    exact goS_more ok _ _ l' hi (by omega) (by omega)
  · rw [if_neg (by omega),if_pos hk,if_neg (by omega),if_pos hk]
    exact goS_more ok _ _ l' hi (by omega) (by omega)
  · rw [if_neg (by omega),if_neg (by omega),if_pos hk,if_neg (by omega),if_neg (by omega),if_pos hk]
    obtain ⟨⟨gs,g,l2⟩,hj,hle⟩:=landed_live ok l' hi (step a (l.getD i spt0)).2.text
    have fb2:=l2.fuel
    exact goS_more ok _ _ l2 hj (by omega) (by omega)
  · rw [if_neg (by omega),if_neg (by omega),if_neg (by omega),if_neg (by omega),if_neg (by omega),if_neg (by omega)]
theorem go_run {l:List Spt} (ok:OkSpots l):∀ (n:Nat) {a:Agt} {fs:List Frm} {f:Frm} {i:Nat} {said:List Str},Live a fs f→i < l.length→a.permit.fuel.toNat < n →
    (go l a i said=if (run (l.getD i spt0) n a).2.kind=2 then go l (run (l.getD i spt0) n a).1 i (said ++ [(run (l.getD i spt0) n a).2.text])
      else if (run (l.getD i spt0) n a).2.kind=3 then go l (landed l i (run (l.getD i spt0) n a).1 (run (l.getD i spt0) n a).2.text).1 (landed l i (run (l.getD i spt0) n a).1 (run (l.getD i spt0) n a).2.text).2 said
      else (said,(run (l.getD i spt0) n a).2.text,(run (l.getD i spt0) n a).2.err)) ∧
    (((run (l.getD i spt0) n a).2.kind=2∧(∃ gs g,Live (run (l.getD i spt0) n a).1 gs g)∧(run (l.getD i spt0) n a).1.permit.fuel < a.permit.fuel) ∨
     ((run (l.getD i spt0) n a).2.kind=3∧(∃ gs g,Gone (run (l.getD i spt0) n a).1 gs g)∧(run (l.getD i spt0) n a).1.permit.fuel < a.permit.fuel) ∨
     ((run (l.getD i spt0) n a).2.kind=4∨(run (l.getD i spt0) n a).2.kind=5))
  | 0,a,fs,f,i,said,_,_,h=>absurd h (Nat.not_lt_zero _)
  | n + 1,a,fs,f,i,said,lv,hi,h1=>by
    have fb:=lv.fuel
    rw [go_step ok lv hi]
    have e:run (l.getD i spt0) (n+1) a=if (step a (l.getD i spt0)).2.kind ≠ 0 then step a (l.getD i spt0) else run (l.getD i spt0) n (step a (l.getD i spt0)).1:=rfl
    rcases stepped lv (ok.facts _ (getD_spot hi)) with ⟨hk,⟨gs,g,l'⟩,hf,h0⟩ | ⟨hk,⟨gs,g,l'⟩,hf,h0⟩ | ⟨hk,⟨gs,g,l'⟩,hf,h0⟩ | hk
    · rw [if_neg (by omega)] at e
      rw [if_pos hk,e]
      obtain ⟨q1,q2⟩:=go_run ok n (said:=said) l' hi (by omega)
      refine ⟨q1,?_⟩
      rcases q2 with ⟨a1,a2,a3⟩ | ⟨a1,a2,a3⟩ | a1
      · exact .inl ⟨a1,a2,by omega⟩
      · exact .inr (.inl ⟨a1,a2,by omega⟩)
      · exact .inr (.inr a1)
    · rw [if_pos (by omega)] at e
      rw [if_neg (by omega),e]
      exact ⟨rfl,.inl ⟨hk,⟨gs,g,l'⟩,by omega⟩⟩
    · rw [if_pos (by omega)] at e
      rw [if_neg (by omega),e]
      exact ⟨rfl,.inr (.inl ⟨hk,⟨gs,g,l'⟩,by omega⟩)⟩
    · rw [if_pos (by omega)] at e
      rw [if_neg (by omega),e]
      exact ⟨rfl,.inr (.inr hk)⟩
end VM
end Go.Proofs.YtdmibdjokofclaaDoor
set_option maxRecDepth 8000
namespace Go.Proofs.YtdmibdjokofclaaDoor
namespace VM
theorem gone_stk {a:Agt} {fs:List Frm} {f:Frm} (l:Gone a fs f):∀ g∈a.frames,g.vars.length≤8∧g.stack.length≤16:=by
  have key:∀ g∈fs ++ [f],∀ x:Int,(hts a.prog g)[g.at_.toNat]? = some x→(g.stack.length:Int)≤x→g.vars.length≤8∧g.stack.length≤16:=fun g hg x hx hle=>by
    have ok:=l.ok g hg
    obtain ⟨cr,calm,hz⟩:=(zad l.prog).1 _ (code_mem ok.code)
    unfold codeRange at cr
    rw [decide_eq_false_iff_not] at cr
    have hm:=(zcr calm hz).2 _ (List.mem_of_getElem? hx)
    have:=ok.vars
    omega
  intro g hg
  rw [l.fr] at hg
  rcases List.mem_append.1 hg with h | h
  · obtain ⟨k,hk,rfl⟩:=List.getElem_of_mem h
    have w:=chain_get l.chain f rfl k _ (List.getElem?_eq_getElem hk)
    exact key _ hg _ w.hei (by omega)
  · simp at h; subst h
    exact key _ hg _ l.went.hei (by omega)
def Honest {α:Type} (m:Rd α):Prop:=∀ b e,m b=.no e→e ≠ 0
theorem Honest.pure {α:Type} (a:α):Honest (Rd.pure a):=fun b e h=>by cases h
theorem Honest.bind {α β:Type} {m:Rd α} {k:α→Rd β} (h:Honest m) (h2:∀ a,Honest (k a)):Honest (m.bind k):=fun b e hx=>by
  unfold Rd.bind at hx
  split at hx
  · exact h2 _ _ _ hx
  · rename_i e' hm; cases hx; exact h _ _ hm
theorem Honest.many {α:Type} {m:Rd α} (h:Honest m):∀ n,Honest (rMany m n)
  | 0=>Honest.pure []
  | n+1=>h.bind fun a=>(Honest.many h n).bind fun l=>Honest.pure _
end VM
end Go.Proofs.YtdmibdjokofclaaDoor
set_option maxRecDepth 8000
namespace Go.Proofs.YtdmibdjokofclaaDoor
open Go Go.RowKit
theorem zrn {a:Agt} {fs:List Frm} {f:Frm} (l:VM.Gone a fs f):zrz a:=by
  have po:=VM.prg_ok l.prog
  have hl:=l.hlen
  have hr:=l.room
  have st:=VM.gone_stk l
  have fl:=l.flen
  exact ⟨by have:=po.codes; omega,fun c hc=>by have:=(po.code c hc).1; omega,by have:=po.words; omega,by rw [l.fr]; simp; omega,by omega,fun g hg=>by have:=st g hg; omega⟩
theorem zaaf {a:Agt} {fs:List Frm} {f:Frm} (l:VM.Gone a fs f):(zh a.frames).length≤4096:=by
  have sk:=VM.gone_stk l
  have fl:a.frames.length≤12:=by rw [l.fr]; simp; have:=l.flen; omega
  have key:∀ gs:List Frm,(∀ g∈gs,g.vars.length≤8∧g.stack.length≤16)→(zh gs).length≤gs.length*24:=by
    intro gs
    induction gs with
    | nil=>intro _; simp [zh]
    | cons g r ih =>
      intro h
      have:=ih fun x hx=>h x (by simp [hx])
      have h0:=h g (by simp)
      simp [zh] at this ⊢
      omega
  have:=key a.frames sk
  omega
end Go.Proofs.YtdmibdjokofclaaDoor
set_option maxRecDepth 8000
namespace Go.Proofs.YtdmibdjokofclaaDoor
open Go Go.RowKit
def Ply (l:List Spt):List (List AV):=l.map Spt.avs
theorem zabk (l:List Spt):∀ x∈Ply l,x.length=4:=fun x hx=>by obtain ⟨s,_,rfl⟩:=List.mem_map.1 hx; rfl
theorem zagt {f pe:Nat} {t:Str} {l:List Spt} {H:Heap} {n:Nat} (hl:l.length≤4611686018427387903) (hf:∀ (s:Spt) (Q:QT),Q (.bool (decide (s.name=t))) H n→za Tryd.prog f [.agg s.avs,.ptr pe 0] H n Q) :
    za Tryd.prog 22 [.ro (Ply l),.clo f [.ptr pe 0]] H n fun v H' n'=>v=.int .i64 (VM.find l t)∧H'=H∧n'=n:=by
  refine zkp _ _ _ _ _ ?_
  simp [zfn]
  refine LP.mk (fun j xs H' n'=>∃ i:Nat,i+j=l.length∧xs=[.ro (Ply l),.clo f [.ptr pe 0],.int .i64 l.length,.int .i64 i]∧H'=H∧n'=n∧VM.find l t=VM.findGo t (l.drop i) i) l.length ⟨0,by omega,by simp [Ply],rfl,rfl,rfl⟩ ?_
  rintro j xs H' n' ⟨i,hi,rfl,rfl,rfl,hno⟩
  cases j with
  | zero =>
    obtain rfl:i=l.length:=by omega
    rw [List.drop_length] at hno
    have hq:VM.find l t = -1:=hno
    simp [zcx,hq]
  | succ j =>
    have hlt:i < l.length:=by omega
    rw [List.drop_eq_getElem_cons hlt] at hno
    have hg:(Ply l)[i]? = some l[i].avs:=by simp [Ply,hlt]
    obtain ⟨_,hg'⟩:=List.getElem?_eq_some_iff.1 hg
    generalize l[i]=s at *
    have ht:s.avs.take 4=s.avs∧s.avs.length=4:=⟨rfl,rfl⟩
    have hw:IntKind.i64.wrap ((i:Int)+1)=(i:Int)+1:=i64w (by omega)
    have hpl:(Ply l).length=l.length:=by simp [Ply]
    unfold VM.findGo at hno
    simp [zcx,hlt,hpl,hg',ht,CALL]
    refine hf s _ ?_
    by_cases e:s.name=t
    · rw [if_pos e] at hno
      simp [zcy,e,hno]
    · rw [if_neg e] at hno
      simp [zcy,e,hw]
      exact ⟨j,by omega,i+1,by omega,rfl,hno⟩
theorem zams {pe:Nat} {t:Str} (s:Spt) {H:Heap} {n:Nat} {Q:QT} (hpe:H pe=some (.row 1 [.str t])) (hpn:pe < n) (hq:Q (.bool (decide (s.name=t))) H n):za Tryd.prog 23 [.agg s.avs,.ptr pe 0] H n Q:=by
  refine za.pure_call (r:=.bool (decide (s.name=t))) ?_ hq
  refine zvr _ _ _ _ _ ?_
  have ne_0:pe ≠ n∧n ≠ pe:=⟨by omega,by omega⟩
  simp [zpk,Spt.avs,hpe,ne_0]
theorem zaiz {pe:Nat} (t s:Spt) {H:Heap} {n:Nat} {Q:QT} (hpe:H pe=some (.row 4 t.avs)) (hpn:pe < n) (hq:Q (.bool (decide (s.name=t.name))) H n):za Tryd.prog 19 [.agg s.avs,.ptr pe 0] H n Q:=by
  refine za.pure_call (r:=.bool (decide (s.name=t.name))) ?_ hq
  refine ztl _ _ _ _ _ ?_
  have ne_1:pe ≠ n∧n ≠ pe:=⟨by omega,by omega⟩
  simp [zno,Spt.avs] at hpe ⊢
  simp [hpe,ne_1]
theorem zafq (l:List Spt) (t:Str) (hl:l.length≤4611686018427387903):QC Tryd.prog 6 [.ro (Ply l),.str t] (.int .i64 (VM.find l t)):=by
  refine QC.of' fun H nx=>zys _ _ H nx _ ?_
  simp [ztb]
  refine (zagt hl fun s Q hq=>zams s (Heap.put_at _ _ _) (by omega) hq).mono fun v H' n' ⟨h1,h2,h3⟩ => ?_
  subst h1; subst h2; subst h3
  simp [ztc]
theorem zaap (m:Pmt):QC Tryd.prog 8 [.agg [.int .i64 m.fuel,.int .i64 m.room,.int .i64 m.hops]] (.int .i64 (VM.permitErr m)):=by
  refine QC.of' fun H nx=>zvo _ H nx _ ?_
  have e:VM.permitErr m=if m.fuel < 0 then 3 else if 2000 < m.fuel then 3 else if m.room < 0 then 3 else if 60 < m.room then 3 else if m.hops < 0 then 3 else if 12 < m.hops then 3 else 0:=by
    unfold VM.permitErr
    repeat' split
    all_goals first | rfl | (exfalso; omega)
  rw [e]
  simp [zpj]
  repeat' split
  all_goals simp_all
  all_goals omega
theorem zamr (l:List Spt) (t:Str):(0≤VM.find l t)=(l.any (fun x=>decide (x.name=t))=true):=by
  have key:∀ (r:List Spt) (i:Nat),(0≤VM.findGo t r i)=(r.any (fun x=>decide (x.name=t))=true):=by
    intro r
    induction r with
    | nil=>intro i; simp [VM.findGo]
    | cons s r ih =>
      intro i
      unfold VM.findGo
      by_cases e:s.name=t
      · simp [e]
      · rw [if_neg e,ih]
        simp [e]
  exact key l 0
end Go.Proofs.YtdmibdjokofclaaDoor
set_option maxRecDepth 8000
namespace Go.Proofs.YtdmibdjokofclaaDoor
open Go Go.RowKit
inductive FL (H:Heap) (nx:Nat):List AV→List AV→Prop
  | nil:FL H nx [] []
  | cons {u v:AV} {us vs:List AV}:Frz H nx u v→FL H nx us vs→FL H nx (u :: us) (v :: vs)
section
variable {H:Heap} {nx:Nat}
theorem FL.append:∀ {us vs us' vs':List AV},FL H nx us vs→FL H nx us' vs'→FL H nx (us ++ us') (vs ++ vs')
  | _,_,_,_,.nil,k=>k
  | _,_,_,_,.cons a b,k=>.cons a (b.append k)
theorem FL.same:∀ {l:List AV},(∀ c∈l,Bel (· < nx) c)→FL H nx l l
  | [],_=>.nil
  | c :: r,h=>.cons (.same _ (h c (by simp))) (FL.same fun x hx=>h x (by simp [hx]))
theorem FL.get:∀ {us vs:List AV},FL H nx us vs→∀ {j:Nat} {v:AV},vs[j]? = some v→∃ u,us[j]? = some u∧Frz H nx u v
  | _,_,.nil,j,v,h=>by simp at h
  | _,_,.cons a b,0,v,h=>by simp at h; subst h; exact ⟨_,rfl,a⟩
  | _,_,.cons a b,j+1,v,h=>by simpa using b.get (j:=j) (by simpa using h)
theorem FL.len:∀ {us vs:List AV},FL H nx us vs→us.length=vs.length
  | _,_,.nil=>rfl
  | _,_,.cons a b=>by simp [b.len]
theorem Frz.rowL {g off len sz:Nat} {cells:List AV} {xs:List (List AV)} (hg:nx≤g) (hH:H g=some (.row sz cells)) (hl:xs.length=len) (hs:∀ x∈xs,x.length=sz) (hb:off+len*sz≤cells.length) (hc:FL H nx ((cells.drop off).take (len*sz)) xs.flatten) :
    Frz H nx (.slc g off len) (.ro xs):=by
  have key:∀ (i:Nat) (x:List AV) (j:Nat) (v:AV),xs[i]? = some x→x[j]? = some v→∃ u,cells[off+i*sz+j]? = some u∧Frz H nx u v:=fun i x j v hx hv=>by
    have e1:=zgb hs hx
    have hj:j < sz:=by rw [← hs x (List.mem_of_getElem? hx)]; exact (List.getElem?_eq_some_iff.1 hv).1
    have hv2:xs.flatten[i*sz+j]? = some v:=by
      have e2:=congrArg (·[j]?) e1
      simp only [List.getElem?_take,List.getElem?_drop,hj,if_true] at e2
      rw [e2]; exact hv
    obtain ⟨u,q1,q2⟩:=hc.get hv2
    refine ⟨u,?_,q2⟩
    rw [List.getElem?_take] at q1
    split at q1
    · rw [List.getElem?_drop] at q1; rw [Nat.add_assoc]; exact q1
    · cases q1
  refine .slc g off _ sz cells _ hg hH hb hl hs (fun i j=>(cells[off+i*sz+j]?).getD .junk) (fun i x j v hx hv => ?_) (fun i x j v hx hv => ?_)
  · obtain ⟨u,q1,q2⟩:=key i x j v hx hv; rw [q1]; rfl
  · obtain ⟨u,q1,q2⟩:=key i x j v hx hv; rw [q1]; exact q2
theorem Frz.rowW {g len sz:Nat} {cells:List AV} {xs:List (List AV)} (hg:nx≤g) (hH:H g=some (.row sz cells)) (hl:xs.length=len) (hs:∀ x∈xs,x.length=sz) (hc:FL H nx cells xs.flatten):Frz H nx (.slc g 0 len) (.ro xs):=by
  have e:cells.length=len*sz:=by rw [hc.len,zbf hs,hl]
  refine .rowL hg hH hl hs (by omega) ?_
  rw [List.drop_zero,List.take_of_length_le (by omega)]; exact hc
theorem FL.agg {us vs:List AV} (h:FL H nx us vs):Frz H nx (.agg us) (.agg vs):=by
  refine .agg _ _ h.len.symm fun j v u hv hu => ?_
  obtain ⟨w,q1,q2⟩:=h.get hu
  rw [hv] at q1; cases q1; exact q2
theorem FL.tup {us vs:List AV} (h:FL H nx us vs):Frz H nx (.tup us) (.tup vs):=by
  refine .tup _ _ h.len.symm fun j v u hv hu => ?_
  obtain ⟨w,q1,q2⟩:=h.get hu
  rw [hv] at q1; cases q1; exact q2
end
end Go.Proofs.YtdmibdjokofclaaDoor
set_option maxRecDepth 8000
namespace Go.Proofs.YtdmibdjokofclaaDoor
open Go Go.RowKit
theorem zaqg {ki:IntKind} {sz j:Nat} {xs:List (List AV)} {H:Heap} {kk:AV→Prop} (hs:∀ x∈xs,x.length=sz) (h:j≤xs.length) (hk:kk (.ro (xs.take j))):SL sz (.ro xs) none (some (.int ki (j:Int))) H kk:=by
  simp only [SL,zbc,lohi,PURE,qk,Int.toNat_natCast]
  refine ⟨by omega,by omega,by omega,hs,?_⟩
  simpa using hk
theorem zalr {f pe:Nat} {t:Str} {l:List Spt} {H:Heap} {n:Nat} {Q:QT} (hl:l.length≤4611686018427387903) (hf:∀ (s:Spt) (Q:QT),Q (.bool (decide (s.name=t))) H n→za Tryd.prog f [.agg s.avs,.ptr pe 0] H n Q)
    (hq:Q (.bool (l.any fun x=>decide (x.name=t))) H n):za Tryd.prog 18 [.ro (Ply l),.clo f [.ptr pe 0]] H n Q:=by
  refine zja _ _ _ _ _ ?_
  unfold zeh
  refine (zagt hl hf).mono fun v H' n' ⟨h1,h2,h3⟩ => ?_
  subst h1; subst h2; subst h3
  have e:decide (0≤VM.find l t)=l.any fun x=>decide (x.name=t):=by
    rw [Bool.eq_iff_iff,decide_eq_true_iff]
    exact Iff.of_eq (zamr l t)
  simp [zei,e]
  exact hq
theorem zahm {v:Val} (h:v.kind=2):VM.wrong v 0 ≠ 0:=fun hw=>by
  have:=(VM.wrong_ok hw).cell h
  omega
theorem zafo {α:Type} {p:α→Bool} {l:List α} {i:Nat} {x:α} (h:l[i]? = some x):(l.drop i).any p=(p x || (l.drop (i+1)).any p):=by
  obtain ⟨hi,rfl⟩:=List.getElem?_eq_some_iff.1 h
  rw [List.drop_eq_getElem_cons hi,List.any_cons]
set_option maxRecDepth 20000 in
set_option maxHeartbeats 4000000 in
theorem zalc {l:List Spt} {i L:Nat} {s:Spt} {H0 H:Heap} {nx n:Nat} {Q:QT} {K6:J3} (hi:i < 4) (hnx:nx≤n) (hf:s.facts.length≤4) (hk:Keep nx H H0)
    (hbad:s.facts.any VM.badFact=true→∀ H' n',Keep nx H' H0→Q (.tup [.int .i64 11,.int .i64 i]) H' n')
    (hok:s.facts.any VM.badFact=false→∀ H' n',nx≤n'→Keep nx H' H0→K6 [.ro (Ply l),.ro (Ply l),.int .i64 L,.int .i64 ((i+1:Nat):Int)] H' n') :
    LP (zcu Q K6) [.ro (Ply l),.int .i64 i,.ro (Ply l),.int .i64 L,.int .i64 i,.ro (s.facts.map fun x=>.str x.key :: x.val.avs),.int .i64 s.facts.length,.int .i64 0] H n:=by
  refine LP.mk (fun k xs H' n'=>∃ j:Nat,k=s.facts.length - j∧j≤s.facts.length∧xs=[.ro (Ply l),.int .i64 i,.ro (Ply l),.int .i64 L,.int .i64 i,.ro (s.facts.map fun x=>.str x.key :: x.val.avs),.int .i64 s.facts.length,.int .i64 j]∧nx≤n'∧Keep nx H' H0∧s.facts.any VM.badFact=(s.facts.drop j).any VM.badFact) s.facts.length ⟨0,by omega,by omega,rfl,hnx,hk,rfl⟩ ?_
  rintro k xs H' n' ⟨j,rfl,hj,rfl,hn,hk',ha⟩
  have hai:IntKind.i64.wrap ((i:Int)+1)=((i+1:Nat):Int):=by rw [i64w (by omega)]; rfl
  by_cases hlt:j < s.facts.length
  · have hadd:IntKind.i64.wrap ((j:Int)+1)=((j+1:Nat):Int):=by rw [i64w (by omega)]; rfl
    have hst:=zafo (p:=VM.badFact) (List.getElem?_eq_getElem hlt)
    generalize hcc:s.facts[j]=c at *
    have kp:∀ o,Keep nx (H'.put n' o) H0:=fun o y hy=>by rw [Heap.put_ne _ _ (by omega)]; exact hk' y hy
    have bad:VM.badFact c=true→s.facts.any VM.badFact=true:=fun h=>by rw [ha,hst,h]; rfl
    by_cases h1:(60:Int) < c.key.length
    · simp [zcu,hlt,hcc,Val.avs,h1]
      have h1n:60 < c.key.length:=by omega
      exact hbad (bad (by unfold VM.badFact; simp [h1n])) _ _ (kp _)
    by_cases h2:c.val.kind=2
    · simp [zcu,hlt,hcc,Val.avs,h1,h2]
      exact hbad (bad (by unfold VM.badFact; simp [zahm h2])) _ _ (kp _)
    simp [zcu,hlt,hcc,Val.avs,h1,h2]
    refine QC.call (zalb c.val 0) ?_
    by_cases hw:VM.wrong c.val 0=0
    · simp [zka,hw,hadd]
      refine ⟨s.facts.length - (j+1),by omega,j+1,by omega,by omega,rfl,by omega,kp _,?_⟩
      rw [ha,hst]
      have:VM.badFact c=false:=by unfold VM.badFact; simp [hw]; omega
      rw [this]; rfl
    · simp [zka,hw]
      exact hbad (bad (by unfold VM.badFact; simp [hw])) _ _ (kp _)
  · obtain rfl:j=s.facts.length:=by omega
    rw [List.drop_length] at ha
    simp [zcu,hai]
    exact hok ha _ _ hn hk'
set_option maxRecDepth 20000 in
set_option maxHeartbeats 4000000 in
theorem zada (l:List Spt) (hfl:∀ s∈l,s.facts.length≤4611686018427387903):QC Tryd.prog 4 [.ro (Ply l)] (.tup [.int .i64 (VM.spotsWrong l).1,.int .i64 (VM.spotsWrong l).2]):=by
  refine QC.of' fun H nx => ?_
  suffices main:∀ Q:AV→Heap→Nat→Prop,(∀ r H' n',r=VM.spotsWrong l→Keep nx H' H→Q (.tup [.int .i64 r.1,.int .i64 r.2]) H' n')→za Tryd.prog 4 [.ro (Ply l)] H nx Q from
    main _ fun r H' n' hr h=>⟨by rw [hr]; exact FL.tup (.cons (.same _ (.int _ _)) (.cons (.same _ (.int _ _)) .nil)),h⟩
  intro Q hQ
  refine zxc _ H nx _ ?_
  have hpl:(Ply l).length=l.length:=by simp [Ply]
  by_cases h1:l.length < 1
  · have e:VM.spotsWrong l=(5,-1):=by unfold VM.spotsWrong; rw [if_pos (by omega)]
    have g1:(l.length:Int) < 1:=by omega
    simp only [zgd,zqm,hpl,zafn,g1,decide_true,zaoc]
    exact hQ (5,-1) _ _ (by rw [e]) fun _ _=>rfl
  by_cases h2:4 < l.length
  · have e:VM.spotsWrong l=(5,-1):=by unfold VM.spotsWrong; rw [if_pos (by omega)]
    have g1:¬ (l.length:Int) < 1:=by omega
    have g2:(4:Int) < l.length:=by omega
    simp only [zgd,zqm,hpl,zafn,zaan,g1,g2,decide_true,decide_false,zadm,zafe]
    exact hQ (5,-1) _ _ (by rw [e]) fun _ _=>rfl
  have e0:VM.spotsWrong l=VM.spotsGo [] l:=by unfold VM.spotsWrong; rw [if_neg (by omega)]
  have g1:¬ (l.length:Int) < 1:=by omega
  have g2:¬ (4:Int) < l.length:=by omega
  simp only [zgd,zqm,hpl,zafn,zaan,g1,g2,decide_false,zadm,zaak]
  refine LP.mk (fun k xs H' n'=>∃ i:Nat,k=l.length - i∧i≤l.length∧xs=[.ro (Ply l),.ro (Ply l),.int .i64 l.length,.int .i64 i]∧nx≤n'∧Keep nx H' H∧VM.spotsWrong l=VM.spotsGo (l.take i) (l.drop i)) l.length ⟨0,by omega,by omega,rfl,Nat.le_refl _,fun _ _=>rfl,by rw [e0]; rfl⟩ ?_
  rintro k xs H' n' ⟨i,rfl,hi,rfl,hn,hk,hw⟩
  by_cases hlt:i < l.length
  case neg =>
    obtain rfl:i=l.length:=by omega
    rw [List.drop_length] at hw
    simp [zct]
    exact hQ (0,-1) _ _ (by rw [hw]; rfl) hk
  suffices key:∀ K6:J3,(∀ H' n',nx≤n'→Keep nx H' H→VM.spotsWrong l=VM.spotsGo (l.take (i+1)) (l.drop (i+1))→K6 [.ro (Ply l),.ro (Ply l),.int .i64 l.length,.int .i64 ((i+1:Nat):Int)] H' n')→zct Q K6 [.ro (Ply l),.ro (Ply l),.int .i64 l.length,.int .i64 i] H' n' from
    key _ fun H2 n2 q1 q2 q3=>⟨l.length - (i+1),by omega,i+1,by omega,by omega,rfl,q1,q2,q3⟩
  intro K6 hK6
  rw [List.drop_eq_getElem_cons hlt] at hw
  have ht:l.take (i+1)=l.take i ++ [l[i]]:=List.take_succ_eq_append_getElem hlt
  have hfi:=hfl l[i] (List.getElem_mem hlt)
  have hg':(Ply l)[i]'(by rw [hpl]; exact hlt)=l[i].avs:=by simp [Ply]
  generalize l[i]=s at *
  have he:VM.spotsWrong l=if VM.spotErr (l.take i) s ≠ 0 then (VM.spotErr (l.take i) s,(i:Int)) else VM.spotsGo (l.take (i+1)) (l.drop (i+1)):=by
    rw [hw,ht]
    show (if VM.spotErr (l.take i) s ≠ 0 then (VM.spotErr (l.take i) s,((l.take i).length:Int)) else _)=_
    rw [List.length_take,Nat.min_eq_left (by omega)]
  have fin:∀ {e:Int},VM.spotErr (l.take i) s=e→e ≠ 0→∀ H' n',Keep nx H' H→Q (.tup [.int .i64 e,.int .i64 i]) H' n':=fun {e} h1 h2 H' n' h3=>hQ (e,(i:Int)) _ _ (by rw [he,h1,if_pos h2]) h3
  have kp:∀ o,Keep nx (H'.put n' o) H:=fun o y hy=>by rw [Heap.put_ne _ _ (by omega)]; exact hk y hy
  by_cases b1:s.name.length < 1
  · have b1':s.name=[]:=List.eq_nil_of_length_eq_zero (by omega)
    simp [zct,hlt,hpl,hg',Spt.avs,b1']
    exact fin (by unfold VM.spotErr; rw [if_pos (.inl b1)]) (by decide) _ _ (kp _)
  have b1':¬ (s.name.length:Int) < 1:=by omega
  have b1n:s.name ≠ []:=fun h=>b1 (by rw [h]; simp)
  by_cases b2:(12:Int) < s.name.length
  · simp [zct,hlt,hpl,hg',Spt.avs,b1',b1n,b2]
    exact fin (by unfold VM.spotErr; rw [if_pos (.inr (.inl (by omega)))]) (by decide) _ _ (kp _)
  simp [zct,hlt,hpl,hg',Spt.avs,b1',b1n,b2]
  refine zaqg (zabk l) (by rw [hpl]; omega) ?_
  have hx:(H'.put n' (some (.row 4 [.str s.name,.ro (s.facts.map fun x=>.str x.key :: x.val.avs),.int .i64 s.fuel,.int .i64 s.cells]))) n'=some (.row 4 s.avs):=Heap.put_at _ _ _
  have et:(Ply l).take i=Ply (l.take i):=by simp [Ply,List.map_take]
  rw [et]
  refine zalr (t:=s.name) (by rw [List.length_take]; omega) (fun t Q hq=>zaiz s t hx (by omega) hq) ?_
  cases b3:((l.take i).any fun x=>decide (x.name=s.name)) with
  | true =>
    simp [zbr]
    exact fin (by unfold VM.spotErr; rw [if_pos (.inr (.inr b3))]) (by decide) _ _ (kp _)
  | false =>
    have nb:¬ VM.badName (l.take i) s:=by
      rintro (h | h | h)
      · exact b1 h
      · exact b2 (by omega)
      · rw [b3] at h; cases h
    have x2:VM.spotErr (l.take i) s=if s.fuel < 0∨2000 < s.fuel∨s.cells < 0∨60 < s.cells then 3 else if 4 < s.facts.length then 5 else if s.facts.any VM.badFact=true then 11 else 0:=by unfold VM.spotErr; rw [if_neg nb]
    have y0:(H'.put n' (some (.row 4 [.str s.name,.ro (s.facts.map fun x=>.str x.key :: x.val.avs),.int .i64 s.fuel,.int .i64 s.cells]))) n'=some (.row 4 [.str s.name,.ro (s.facts.map fun x=>.str x.key :: x.val.avs),.int .i64 s.fuel,.int .i64 s.cells]):=Heap.put_at _ _ _
    have yk:=kp (some (.row 4 [.str s.name,.ro (s.facts.map fun x=>.str x.key :: x.val.avs),.int .i64 s.fuel,.int .i64 s.cells]))
    generalize (H'.put n' (some (.row 4 [.str s.name,.ro (s.facts.map fun x=>.str x.key :: x.val.avs),.int .i64 s.fuel,.int .i64 s.cells])))=Y at *
    by_cases c1:s.fuel < 0
    · simp [zbr,y0,c1]
      exact fin (by rw [x2,if_pos (by omega)]) (by decide) _ _ yk
    by_cases c2:2000 < s.fuel
    · simp [zbr,y0,c1,c2]
      exact fin (by rw [x2,if_pos (by omega)]) (by decide) _ _ yk
    by_cases c3:s.cells < 0
    · simp [zbr,y0,c1,c2,c3]
      exact fin (by rw [x2,if_pos (by omega)]) (by decide) _ _ yk
    by_cases c4:60 < s.cells
    · simp [zbr,y0,c1,c2,c3,c4]
      exact fin (by rw [x2,if_pos (by omega)]) (by decide) _ _ yk
    rw [if_neg (by omega)] at x2
    by_cases c5:(4:Int) < s.facts.length
    · simp [zbr,y0,c1,c2,c3,c4,c5]
      exact fin (by rw [x2,if_pos (by omega)]) (by decide) _ _ yk
    rw [if_neg (by omega)] at x2
    simp [zbr,y0,c1,c2,c3,c4,c5]
    refine zalc (s:=s) (nx:=nx) (by omega) (by omega) (by omega) yk (fun hb H2 n2 hk2=>fin (by rw [x2,if_pos hb]) (by decide) _ _ hk2) fun hb H2 n2 hn2 hk2=>hK6 _ _ hn2 hk2 ?_
    rw [he,x2,hb]
    simp
end Go.Proofs.YtdmibdjokofclaaDoor
set_option maxRecDepth 8000
namespace Go.Proofs.YtdmibdjokofclaaDoor
open Go Go.RowKit
def zag9:List AV:=[.int .i64 0,.int .i64 0,.nils,.nils,.nils,.nils,.int .i64 0,.int .i64 0,.int .i64 0]
theorem zagy {H:Heap} {nx:Nat}:Frz H nx (.agg zag9) (.agg VM.agt0.avs) :=
  FL.agg (.cons (.same _ (.int _ _)) (.cons (.same _ (.int _ _)) (.cons .nils (.cons .nils (.cons .nils (.cons .nils (.cons (.same _ (.int _ _)) (.cons (.same _ (.int _ _)) (.cons (.same _ (.int _ _)) .nil)))))))))
def letV (a:Agt) (s:Spt):AV:=.tup [.agg ((VM.letIn a s).getD VM.agt0).avs,.bool (VM.letIn a s).isSome]
set_option maxRecDepth 20000 in
set_option maxHeartbeats 2000000 in
theorem zahk {a:Agt} {fs:List Frm} {f:Frm} (g:VM.Gone a fs f) (s:Spt) (hs:0≤s.fuel∧s.fuel≤2000):QC Tryd.prog 15 [.agg a.avs,.agg s.avs] (letV a s):=by
  refine QC.of' fun H nx => ?_
  suffices main:∀ Q:AV→Heap→Nat→Prop,(∀ v H' n',Frz H' nx v (letV a s)→Keep nx H' H→Q v H' n')→za Tryd.prog 15 [.agg a.avs,.agg s.avs] H nx Q from main _ fun v H' n' h1 h2=>⟨h1,h2⟩
  intro Q hQ
  refine zaas _ _ H nx _ ?_
  have hsu:(AV.agg a.avs).sure=true:=by simp [Agt.avs]
  have hss:(AV.agg s.avs).sure=true:=by simp [Spt.avs]
  obtain ⟨_,at9,al⟩:=zap a
  simp only [zvp,puth]
  refine ⟨hsu,hss,?_⟩
  generalize hX:Heap.put _ (nx+2) _=X
  have x0:X nx=some (.row 9 a.avs):=by rw [← hX,Heap.put_ne _ _ (by omega),Heap.put_ne _ _ (by omega),Heap.put_at]; rfl
  have x1:X (nx+1)=some (.row 4 [.str s.name,.ro (s.facts.map fun x=>.str x.key :: x.val.avs),.int .i64 s.fuel,.int .i64 s.cells]):=by rw [← hX,Heap.put_ne _ _ (by omega),Heap.put_at]; rfl
  have x2:X (nx+2)=some (.row 9 zag9):=by rw [← hX,Heap.put_at]; rfl
  have xk:Keep nx X H:=fun y hy=>by rw [← hX]; repeat' first | rw [Heap.put_ne _ _ (by omega)] | rfl
  clear hX
  have fl:a.frames.length≤12:=by rw [g.fr]; simp; have:=g.flen; omega
  simp [x0,al,at9]
  refine QC.call (zapc (zrn g) g.fr (by omega) (zaaf g) (VM.roots_ok g)) ?_
  have gp:=VM.pack_gone g
  have hp:(VM.pack a).permit=a.permit:=rfl
  have hlet:VM.letIn a s=if s.cells < (VM.pack a).heap.length then none else some (VM.answer (VM.fueled (VM.pack a) (min (VM.pack a).permit.fuel s.fuel)) 1):=rfl
  unfold letV at hQ
  rw [hlet] at hQ
  generalize VM.pack a=b at *
  have gb:=gp.fuel
  have z9:zag9.length=9:=rfl
  have m2:¬ nx+2=nx+3∧¬ nx+1=nx+3∧¬ nx=nx+3:=by omega
  by_cases hc:s.cells < b.heap.length
  · rw [if_pos hc] at hQ
    simp [znr,x0,x1,x2,Agt.avs,hc,z9]
    refine hQ _ _ _ ?_ fun y hy => ?_
    · exact FL.tup (.cons zagy (.cons (.same _ (.bool _)) .nil))
    · repeat' first | rw [Heap.put_ne _ _ (by omega)] | exact xk y hy
  · rw [if_neg hc] at hQ
    simp [znr,x0,x1,x2,Agt.avs,hc,z9]
    have gg:=VM.gone_fueled gp (n:=min b.permit.fuel s.fuel) (by omega)
    have st:=VM.gone_stk gg _ (by rw [gg.fr]; simp; exact .inr rfl)
    refine QC.call (zadc (k:=1) (zrn gg) gg.fr (by simp; have:=gp.flen; simp at this; omega) (by omega)) ?_
    generalize hc2:VM.answer (VM.fueled b (min b.permit.fuel s.fuel)) 1=c at *
    obtain ⟨_,ct,cl⟩:=zap c
    have oc:=zck c
    have csu:(AV.agg c.avs).sure=true:=by simp [Agt.avs]
    simp [zvq,x2,z9,ct,cl,csu]
    refine ⟨oc,hQ _ _ _ ?_ fun y hy => ?_⟩
    · exact FL.tup (.cons (.same _ (zgc _)) (.cons (.same _ (.bool _)) .nil))
    · repeat' first | rw [Heap.put_ne _ _ (by omega)] | exact xk y hy
end Go.Proofs.YtdmibdjokofclaaDoor
set_option maxRecDepth 8000
namespace Go.Proofs.YtdmibdjokofclaaDoor
open Go Go.RowKit
def rowT (l:List Str):List AV:=l.map AV.str
theorem zjz {A:Nat→Prop} {a b:AV} (h1:Bel A a) (h2:Bel A b):Bel A (.tup [a,b]):=.tup _ fun j v hv=>by
  match j,hv with
  | 0,hv=>cases hv; exact h1
  | 1,hv=>cases hv; exact h2
  | j+2,hv=>simp at hv
def zahp (r:List Str×Str×Int):AV:=.tup [.ro (r.1.map fun w=>[.str w]),.agg [.int .i64 0,.str r.2.1,.int .i64 r.2.2],.int .i64 0]
theorem zaji (l:List Str):(l.map fun w=>[AV.str w]).flatten=rowT l:=by
  induction l with
  | nil=>rfl
  | cons c r ih=>simp [rowT] at ih ⊢; exact ih
theorem zaer {H:Heap} {nx:Nat} {said:List Str} {sl:AV} (hs:Slot H 1 said.length (rowT said) sl) (ho:∀ y∈own sl,nx≤y) (t:Str) (e:Int):Frz H nx (.tup [sl,.agg [.int .i64 0,.str t,.int .i64 e],.int .i64 0]) (zahp (said,t,e)):=by
  have h1:Frz H nx sl (.ro (said.map fun w=>[.str w])):=Slot.frzN (sz:=1) (by rw [zaji,List.length_map]; exact hs) ho (fun x hx=>by obtain ⟨w,_,rfl⟩:=List.mem_map.1 hx; rfl) (zuj _)
  exact FL.tup (.cons h1 (.cons (FL.agg (.cons (.same _ (.int _ _)) (.cons (.same _ (.str _)) (.cons (.same _ (.int _ _)) .nil)))) (.cons (.same _ (.int _ _)) .nil)))
structure AlSt (l:List Spt) (R:List Str×Str×Int) (H0 H:Heap) (nx n e g:Nat) (a:Agt) (i:Nat) (said:List Str) (sl:AV):Prop where
  live:∃ fs f,VM.Live a fs f
  at_:i < l.length
  ag:H g=some (.row 9 a.avs)
  en:∃ z,H e=some (.row 3 z)∧z.length=3
  slot:Slot H 1 said.length (rowT said) sl
  own_:∀ y∈own sl,g < y∧y < n
  gn:g < n
  keep:Keep nx H H0
  go:VM.go l a i said=R
  few:(said.length:Int)+a.permit.fuel≤2000
set_option maxRecDepth 20000 in
set_option maxHeartbeats 4000000 in
theorem zakv {l:List Spt} (ok:VM.OkSpots l) {R:List Str×Str×Int} {H0 H:Heap} {nx n e g:Nat} {a:Agt} {i:Nat} {said:List Str} {sl:AV} {Q:QT} (he:nx≤e) (heg:e < g) (st:AlSt l R H0 H nx n e g a i said sl)
    (hq:∀ v H' n',Frz H' nx v (zahp R)→Keep nx H' H0→Q v H' n') :
    LP (zjg Q) [.ro (Ply l),.int .i64 i,.ptr e 0,.ptr g 0,sl] H n:=by
  refine LP.mk (fun k xs H' n'=>∃ (a:Agt) (i:Nat) (said:List Str) (sl:AV),k=a.permit.fuel.toNat∧xs=[.ro (Ply l),.int .i64 i,.ptr e 0,.ptr g 0,sl]∧AlSt l R H0 H' nx n' e g a i said sl) a.permit.fuel.toNat ⟨a,i,said,sl,rfl,rfl,st⟩ ?_
  clear st
  rintro k xs H' n' ⟨a,i,said,sl,rfl,rfl,st⟩
  suffices key:∀ K33:J3,(∀ (a2:Agt) (i2:Nat) (said2:List Str) (sl2:AV) (H2:Heap) (n2:Nat),a2.permit.fuel.toNat < a.permit.fuel.toNat→AlSt l R H0 H2 nx n2 e g a2 i2 said2 sl2→K33 [.ro (Ply l),.int .i64 i2,.ptr e 0,.ptr g 0,sl2] H2 n2)→zjg Q K33 [.ro (Ply l),.int .i64 i,.ptr e 0,.ptr g 0,sl] H' n' from
    key _ fun a2 i2 said2 sl2 H2 n2 h1 h2=>⟨a2.permit.fuel.toNat,h1,a2,i2,said2,sl2,rfl,rfl,h2⟩
  intro K33 hK
  obtain ⟨⟨fs,f,lv⟩,hi,hg,hen,hsl,how,hgn,hkp,hgo,hfew⟩:=st
  have fb:=lv.fuel
  obtain ⟨ad,at9,al⟩:=zap a
  have hpl:(Ply l).length=l.length:=by simp [Ply]
  have sm:l.getD i VM.spt0∈l:=VM.getD_spot hi
  have hg':(Ply l)[i]'(by rw [hpl]; exact hi)=(l.getD i VM.spt0).avs:=by simp [Ply,hi]
  obtain ⟨q1,q2⟩:=VM.go_run ok 2001 (said:=said) lv hi (by omega)
  have rq:=zaqh (most:=2001) lv (s:=l.getD i VM.spt0) (by have:=ok.name _ sm; simp only [maxLen]; omega) (by have:=ok.many _ sm; omega) (ok.facts _ sm) (by decide)
  have e1:(2001:Int).toNat=2001:=rfl
  rw [e1] at rq
  generalize VM.run (l.getD i VM.spt0) 2001 a=r at *
  generalize l.getD i VM.spt0=s at *
  have ht:s.avs.take 4=s.avs∧s.avs.length=4:=⟨rfl,rfl⟩
  simp [zjg,hg,al,at9,hi,hpl,hg',ht]
  refine zo.of_qc rq (zjz (zgc _) (znn _)) ?_
  obtain ⟨_,bt,bl⟩:=zap r.1
  have ob:=zck r.1
  have sb:((AV.agg r.1.avs).sure=true):=by simp [Agt.avs]
  have m1:¬ n'=g∧¬ n'+1=g∧¬ g=n'∧¬ g=n'+1:=by omega
  have mono:∀ {Y:Heap} {m i2:Nat} {c:Agt} {said2:List Str} {sl2:AV},n'≤m→(∃ fs f,VM.Live c fs f)→i2 < l.length→Y g=some (.row 9 c.avs)→(∀ y,y < n'→y ≠ g→y∉own sl→Y y=H' y)→Slot Y 1 said2.length (rowT said2) sl2→(∀ y∈own sl2,g < y∧y < m)→VM.go l c i2 said2=R→(said2.length:Int)+c.permit.fuel≤2000→AlSt l R H0 Y nx m e g c i2 said2 sl2:=fun {Y m i2 c said2 sl2} h1 h2 h3 h4 h5 h6 h7 h8 h9=>by
    have nso:∀ y,y≤g→y∉own sl:=fun y hy h=>by have:=how y h; omega
    obtain ⟨z,z1,z2⟩:=hen
    exact ⟨h2,h3,h4,⟨z,by rw [h5 e (by omega) (by omega) (nso _ (by omega))]; exact z1,z2⟩,h6,h7,by omega,fun y hy=>by rw [h5 y (by omega) (by omega) (nso _ (by omega))]; exact hkp y hy,h8,h9⟩
  rcases q2 with ⟨hk,⟨gs,h,l2⟩,hf⟩ | ⟨hk,⟨gs,h,l2⟩,hf⟩ | hk
  · rw [if_pos hk] at q1
    have fb2:=l2.fuel
    simp [zfv,hg,ad,al,at9,bt,bl,sb,eavs,m1,hk]
    refine ⟨ob,?_⟩
    generalize hY:Heap.put _ (n'+2) _=Y
    have y1:Y (n'+2)=some (.row 1 [.str r.2.text]):=by rw [← hY,Heap.put_at]
    have yg:Y g=some (.row 9 r.1.avs):=by rw [← hY,Heap.put_ne _ _ (by omega),Heap.put_at]
    have yk:∀ y,y < n'→y ≠ g→Y y=H' y:=fun y e1 e2=>by rw [← hY]; repeat' first | rw [Heap.put_ne _ _ (by omega)] | rfl
    clear hY
    have s1:Slot Y 1 said.length (rowT said) sl:=hsl.keep fun y hy=>by have:=how y hy; exact yk y (by omega) (by omega)
    refine s1.app (new:=[.str r.2.text]) (by simp [rowT]) y1 rfl (by simp) (by omega) fun H6 p1 p2 => ?_
    refine hK r.1 i (said ++ [r.2.text]) _ H6 _ (by omega) (mono (by omega) ⟨gs,h,l2⟩ hi ?_ (fun y e1 e2 e3 => ?_) ?_ (fun y hy => ?_) (by rw [← q1]; exact hgo) (by simp; omega))
    · rw [p2 g (fun h=>by have:=how _ h; omega) (by omega)]; exact yg
    · rw [p2 y e3 (by omega)]; exact yk y e1 e2
    · refine .inr ⟨_,_,?_,p1,?_,?_⟩
      · simp
      · rw [List.take_of_length_le (by simp [rowT])]; simp [rowT]
      · simp [rowT]
    · have e:y=n'+2+1:=by simpa [own] using hy
      omega
  · rw [if_neg (by omega),if_pos hk] at q1
    have fb2:=l2.fuel
    have fl2:=l2.flen
    have gs2:=VM.gone_stk l2 h (by rw [l2.fr]; simp)
    have aq:=zadc (k:=0) (zrn l2) l2.fr (by omega) (by omega)
    have stay:∀ (Y:Heap) (m:Nat),n'≤m→Y g=some (.row 9 r.1.avs)→(∀ y,y < n'→y ≠ g→Y y=H' y)→VM.landed l i r.1 r.2.text=(VM.answer r.1 0,i)→za Tryd.prog 28 [.agg r.1.avs,.int .i64 0] Y m (zfw [.ro (Ply l),.int .i64 i,.ptr e 0,.ptr g 0,sl] K33):=fun Y m h1 h2 h3 h4=>by
      refine QC.call aq ?_
      rw [h4] at q1
      have la:=VM.answer_live l2 (n:=0) (by omega)
      have fu:(VM.answer r.1 0).permit=r.1.permit:=VM.answer_fuel l2.fr 0
      generalize VM.answer r.1 0=c at *
      obtain ⟨_,ct,cl⟩:=zap c
      have oc:=zck c
      obtain ⟨rd,_,rl⟩:=zap r.1
      simp [zfw,h2,ct,cl,rl,rd]
      refine ⟨oc,hK c i said sl _ _ (by rw [fu]; omega) (mono (by omega) ⟨_,_,la⟩ hi (Heap.put_at _ _ _) (fun y e1 e2 e3=>by rw [Heap.put_ne _ _ e2]; exact h3 y e1 e2) (hsl.keep fun y hy=>by have:=how y hy; rw [Heap.put_ne _ _ (by omega)]; exact h3 y (by omega) (by omega)) (fun y hy=>by have:=how y hy; omega) (by rw [← q1]; exact hgo) (by rw [fu]; omega))⟩
    simp [zfv,hg,ad,al,at9,bt,bl,sb,eavs,m1,hk]
    refine ⟨ob,?_⟩
    refine QC.call (zafq l r.2.text (by have:=ok.len; omega)) ?_
    generalize hY:Heap.put _ g _=Y
    have yg:Y g=some (.row 9 r.1.avs):=by rw [← hY,Heap.put_at]
    have yk:∀ y,y < n'→y ≠ g→Y y=H' y:=fun y e1 e2=>by rw [← hY]; repeat' first | rw [Heap.put_ne _ _ (by omega)] | rfl
    clear hY
    have fr:=VM.find_range l r.2.text
    have m2:¬ n'+2=g∧¬ g=n'+2:=by omega
    have zk:∀ o,∀ y,y < n'→y ≠ g→(Y.put (n'+2) o) y=H' y:=fun o y e1 e2=>by rw [Heap.put_ne _ _ (by omega)]; exact yk y e1 e2
    have zg:∀ o,(Y.put (n'+2) o) g=some (.row 9 r.1.avs):=fun o=>by rw [Heap.put_ne _ _ (by omega)]; exact yg
    by_cases c1:0≤VM.find l r.2.text
    case neg =>
      simp [zjh,yg,bt,bl,sb,m2,c1]
      exact ⟨ob,stay _ _ (by omega) (zg _) (zk _) (by unfold VM.landed; rw [if_neg (fun h=>c1 h.1)])⟩
    by_cases c2:VM.find l r.2.text=i
    · simp [zjh,yg,bt,bl,sb,m2,c1,c2]
      exact ⟨ob,stay _ _ (by omega) (zg _) (zk _) (by unfold VM.landed; rw [if_neg (fun h=>h.2 c2)])⟩
    obtain ⟨j,hj⟩:=Int.eq_ofNat_of_zero_le c1
    have hjl:j < l.length:=by omega
    have c2':¬ (j:Int)=i:=fun h=>c2 (by rw [hj,h])
    have sj:l.getD j VM.spt0∈l:=VM.getD_spot hjl
    have hgj:(Ply l)[j]'(by rw [hpl]; exact hjl)=(l.getD j VM.spt0).avs:=by simp [Ply,hjl]
    have hland:VM.landed l i r.1 r.2.text=match VM.letIn r.1 (l.getD j VM.spt0) with | some y=>(y,j) | none=>(VM.answer r.1 0,i):=by
      unfold VM.landed
      rw [if_pos ⟨c1,c2⟩,hj]
      rfl
    have ll:=VM.landed_live ok l2 hi r.2.text
    have lq:=zahk l2 (l.getD j VM.spt0) (ok.fuel _ sj)
    unfold letV at lq
    generalize l.getD j VM.spt0=t at *
    have tt:t.avs.take 4=t.avs∧t.avs.length=4:=⟨rfl,rfl⟩
    simp [zjh,yg,bt,bl,sb,m2,hj,c2',hpl,hjl,hgj,tt]
    refine ⟨ob,?_⟩
    refine zo.of_qc lq (zjz (zgc _) (.bool _)) ?_
    obtain ⟨rd,_,_⟩:=zap r.1
    cases hl:VM.letIn r.1 t with
    | none =>
      rw [hl] at hland
      obtain ⟨_,zt,zl⟩:=zap VM.agt0
      have oz:=zck VM.agt0
      have zsu:(AV.agg VM.agt0.avs).sure=true:=by simp [Agt.avs]
      simp [znq,yg,bt,bl,sb,m2,zt,zl,zsu]
      refine ⟨oz,stay _ _ (by omega) ?_ (fun y e1 e2 => ?_) hland⟩
      · repeat' first | rw [Heap.put_ne _ _ (by omega)] | exact yg
      · repeat' first | rw [Heap.put_ne _ _ (by omega)] | exact yk y e1 e2
    | some c =>
      rw [hl] at hland
      rw [hland] at ll q1
      obtain ⟨lc,_,fc⟩:=ll
      obtain ⟨_,ct,cl⟩:=zap c
      have oc:=zck c
      have csu:(AV.agg c.avs).sure=true:=by simp [Agt.avs]
      simp [znq,yg,bt,bl,rd,sb,m2,ct,cl,csu]
      have fc2:0≤c.permit.fuel:=by obtain ⟨_,_,l3⟩:=lc; exact l3.fuel.1
      simp only at fc
      refine ⟨oc,hK c j said sl _ _ (by omega) (mono (by omega) lc hjl (Heap.put_at _ _ _) (fun y e1 e2 e3 => ?_) (hsl.keep fun y hy => ?_) (fun y hy=>by have:=how y hy; omega) (by rw [← q1]; exact hgo) (by omega))⟩
      · rw [Heap.put_ne _ _ e2]; repeat' first | rw [Heap.put_ne _ _ (by omega)] | exact yk y e1 e2
      · have:=how y hy
        rw [Heap.put_ne _ _ (by omega)]; repeat' first | rw [Heap.put_ne _ _ (by omega)] | exact yk y (by omega) (by omega)
  · rw [if_neg (by omega),if_neg (by omega)] at q1
    obtain ⟨z,z1,z2⟩:=hen
    have m3:¬ e=g∧¬ e=n'∧¬ e=n'+1:=by omega
    have fin:∀ Y:Heap,(∀ y,y < n'→y ≠ g→y ≠ e→Y y=H' y)→Q (.tup [sl,.agg [.int .i64 0,.str r.2.text,.int .i64 r.2.err],.int .i64 0]) Y (n'+2):=fun Y hy=>by
      refine hq _ _ _ ?_ fun y h1 => ?_
      · rw [← hgo,q1]
        exact zaer (hsl.keep fun y h=>by have:=how y h; exact hy y (by omega) (by omega) (by omega)) (fun y h=>by have:=how y h; omega) _ _
      · rw [hy y (by omega) (by omega) (by omega)]; exact hkp y h1
    rcases hk with hk | hk
    · simp [zfv,hg,ad,al,at9,bt,bl,sb,eavs,m1,hk,m3,z1,z2]
      refine ⟨ob,by rintro x ((rfl | rfl) | rfl) <;> rfl,fin _ fun y e1 e2 e3 => ?_⟩
      repeat' first | rw [Heap.put_ne _ _ (by omega)] | rfl
    · simp [zfv,hg,ad,al,at9,bt,bl,sb,eavs,m1,hk,m3,z1,z2]
      refine ⟨ob,by rintro x ((rfl | rfl) | rfl) <;> rfl,fin _ fun y e1 e2 e3 => ?_⟩
      repeat' first | rw [Heap.put_ne _ _ (by omega)] | rfl
end Go.Proofs.YtdmibdjokofclaaDoor
set_option maxRecDepth 8000
namespace Go.Proofs.YtdmibdjokofclaaDoor
open Go Go.RowKit
def runV (r:(List Str×Str×Int)×Int):AV:=.tup [.ro (r.1.1.map fun w=>[.str w]),.agg [.int .i64 0,.str r.1.2.1,.int .i64 r.1.2.2],.int .i64 r.2]
theorem zaes {H:Heap} {nx:Nat} (e:Int):Frz H nx (.tup [.nils,.agg [.int .i64 0,.str [],.int .i64 0],.int .i64 e]) (runV (([],[],0),e)) :=
  FL.tup (.cons .nils (.cons (FL.agg (.cons (.same _ (.int _ _)) (.cons (.same _ (.str _)) (.cons (.same _ (.int _ _)) .nil)))) (.cons (.same _ (.int _ _)) .nil)))
theorem zajt {p:Prg} (hp:VM.program p=0) (m:Pmt):zrz (VM.newAgt 0 p m):=by
  have po:=VM.prg_ok hp
  obtain ⟨c1,c2,c3,c4,c5⟩:=VM.first_code hp
  refine ⟨by simp only [VM.newAgt]; have:=po.codes; omega,fun c hc=>by simp only [VM.newAgt] at hc; have:=(po.code c hc).1; omega,by simp only [VM.newAgt]; have:=po.words; omega,by simp [VM.newAgt],by simp [VM.newAgt],fun g hg => ?_⟩
  simp [VM.newAgt] at hg
  subst hg
  simp; omega
set_option maxRecDepth 20000 in
set_option maxHeartbeats 4000000 in
theorem zaps {p:Prg} (m:Pmt) (l:List Spt) (at_:Int) (hp:VM.program p=0) (hl:l.length≤4611686018427387904) (hfl:∀ s∈l,s.facts.length≤4611686018427387903) :
    QC Tryd.prog 11 [.agg p.avs,.agg m.avs,.ro (Ply l),.int .i64 at_] (runV (VM.alone p m l at_)):=by
  refine QC.of' fun H nx => ?_
  suffices main:∀ Q:AV→Heap→Nat→Prop,(∀ v H' n',Frz H' nx v (runV (VM.alone p m l at_))→Keep nx H' H→Q v H' n')→za Tryd.prog 11 [.agg p.avs,.agg m.avs,.ro (Ply l),.int .i64 at_] H nx Q from main _ fun v H' n' h1 h2=>⟨h1,h2⟩
  intro Q hQ
  refine zaar _ _ _ _ H nx _ ?_
  have hsp:(AV.agg p.avs).sure=true:=by simp [Prg.avs]
  have hsm:(AV.agg m.avs).sure=true:=by simp [Pmt.avs]
  have pt:p.avs.take 2=p.avs∧p.avs.length=2:=⟨rfl,rfl⟩
  have mt:m.avs.take 3=m.avs∧m.avs.length=3:=⟨rfl,rfl⟩
  have mav:m.avs=[.int .i64 m.fuel,.int .i64 m.room,.int .i64 m.hops]:=rfl
  have hpl:(Ply l).length=l.length:=by simp [Ply]
  simp only [zvm,puth]
  refine ⟨hsp,hsm,?_⟩
  generalize hX:Heap.put _ (nx+2) _=X
  have x0:X nx=some (.row 2 p.avs):=by rw [← hX,Heap.put_ne _ _ (by omega),Heap.put_ne _ _ (by omega),Heap.put_at]; rfl
  have x1:X (nx+1)=some (.row 3 m.avs):=by rw [← hX,Heap.put_ne _ _ (by omega),Heap.put_at]; rfl
  have x2:X (nx+2)=some (.row 3 [.int .i64 0,.str [],.int .i64 0]):=by rw [← hX,Heap.put_at]
  have xk:Keep nx X H:=fun y hy=>by rw [← hX]; repeat' first | rw [Heap.put_ne _ _ (by omega)] | rfl
  clear hX
  have kp:∀ o,Keep nx (X.put (nx+2) o) H:=fun o y hy=>by rw [Heap.put_ne _ _ (by omega)]; exact xk y hy
  have err:∀ {e:Int},VM.alone p m l at_=(([],[],0),e)→∀ H' n',Keep nx H' H→Q (.tup [.nils,.agg [.int .i64 0,.str [],.int .i64 0],.int .i64 e]) H' n':=fun he H' n' hk=>hQ _ _ _ (by rw [he]; exact zaes _) hk
  refine QC.call (zada l hfl) ?_
  by_cases hw:(VM.spotsWrong l).1=0
  case neg =>
    simp [znp,hw,x2]
    exact err (by unfold VM.alone; rw [if_pos hw]) _ _ (kp _)
  simp [znp,hw,x1,mt,hsm]
  refine QC.call (mav ▸ zaap m) ?_
  by_cases hm:VM.permitErr m=0
  case neg =>
    simp [zfu,hm,x2]
    exact err (by unfold VM.alone; rw [if_neg (by simpa using hw),if_pos hm]) _ _ (kp _)
  by_cases ha:at_ < 0
  · simp [zfu,hm,x2,ha]
    exact err (by unfold VM.alone; rw [if_neg (by simpa using hw),if_neg (by simpa using hm),if_pos (.inl ha)]) _ _ (kp _)
  by_cases hb:(l.length:Int)≤at_
  · simp [zfu,hm,x2,ha,hpl,hb]
    exact err (by unfold VM.alone; rw [if_neg (by simpa using hw),if_neg (by simpa using hm),if_pos (.inr hb)]) _ _ (kp _)
  obtain ⟨i,rfl⟩:=Int.eq_ofNat_of_zero_le (show 0≤at_ by omega)
  have hi:i < l.length:=by omega
  have ok:=VM.spots_ok hw
  obtain ⟨c1,c2,c3,c4,c5⟩:=VM.first_code hp
  have hm':0≤m.fuel∧m.fuel≤2000∧0≤m.room∧m.room≤60∧0≤m.hops∧m.hops≤12:=by
    unfold VM.permitErr at hm
    split at hm
    · cases hm
    · omega
  have ha':¬ (i:Int) < 0:=by omega
  simp [zfu,hm,x0,x1,pt,mt,hsp,hsm,hpl,hb,ha']
  refine QC.call (zaqj (id:=0) (zajt hp m) c1 (by omega)) ?_
  have al:=VM.new_live (id:=0) hp (by omega) ⟨hm'.1,hm'.2.1⟩ ⟨hm'.2.2.1,hm'.2.2.2.1⟩ ⟨hm'.2.2.2.2.1,hm'.2.2.2.2.2⟩
  have hal:VM.alone p m l (i:Int)=(VM.go l (VM.newAgt 0 p m) i [],0):=by
    unfold VM.alone
    rw [if_neg (by simpa using hw),if_neg (by simpa using hm),if_neg (by omega)]
    rfl
  have hfu:(VM.newAgt 0 p m).permit=m:=rfl
  generalize VM.newAgt 0 p m=a at *
  obtain ⟨ad,at9,aln⟩:=zap a
  have oa:=zck a
  have asu:(AV.agg a.avs).sure=true:=by simp [Agt.avs]
  simp [zvn,at9,aln,ad,asu]
  refine ⟨oa,?_⟩
  refine zakv (nx:=nx) (e:=nx+2) (g:=nx+3) (H0:=H) ok (a:=a) (said:=[]) (R:=VM.go l a i []) (by omega) (by omega) ⟨⟨_,_,al⟩,hi,Heap.put_at _ _ _,⟨_,by rw [Heap.put_ne _ _ (by omega)]; exact x2,rfl⟩,.inl ⟨rfl,.inl rfl⟩,by simp [own],by omega,fun y hy=>by rw [Heap.put_ne _ _ (by omega)]; exact xk y hy,rfl,by rw [hfu]; simp; omega⟩ fun v H' n' h1 h2=>hQ v H' n' (by rw [hal]; exact h1) h2
end Go.Proofs.YtdmibdjokofclaaDoor
set_option maxRecDepth 8000
namespace Go.Proofs.YtdmibdjokofclaaDoor
open Go Go.RowKit
theorem zamb (n:Int) (h0:I64 n):QC Tryd.prog 73 [.int .i64 n] (.int .i64 (n.tmod 1073741825)):=by
  refine fun H nx=>ztr _ H nx _ ?_
  simp only [I64] at h0
  unfold zoo
  refine LP.mk (fun m xs H' nx'=>∃ k:Int,m=(if -1073741825 < k∧k < 1073741825 then 0 else 1)∧xs=[.int .i64 k,.int .i64 1073741825]∧I64 k∧H=H'∧nx=nx'∧k.tmod 1073741825=n.tmod 1073741825) _ ⟨n,rfl,rfl,h0,rfl,rfl,rfl⟩ ?_
  rintro m xs H' nx' ⟨k,rfl,rfl,hk,rfl,rfl,hm⟩
  simp only [I64] at hk
  obtain ⟨d1,d2,d3⟩:=tdm k
  have d4:(0≤k∧0≤k.tmod 1073741825∧k.tmod 1073741825 < 1073741825∧0≤k.tdiv 1073741825)∨(k≤0 ∧ -1073741825 < k.tmod 1073741825∧k.tmod 1073741825≤0∧k.tdiv 1073741825≤0):=by
    by_cases hk0:0≤k
    · exact .inl ⟨hk0,d2 hk0⟩
    · exact .inr ⟨by omega,d3 (by omega)⟩
  clear d2 d3
  have hw:IntKind.i64.wrap (-1073741825) = -1073741825:=i64w (by omega)
  have hq:IntKind.i64.wrap (k.tdiv 1073741825)=k.tdiv 1073741825:=i64w (by omega)
  have hp:IntKind.i64.wrap (k.tdiv 1073741825*1073741825)=k.tdiv 1073741825*1073741825:=i64w (by omega)
  have hr:k - k.tdiv 1073741825*1073741825=k.tmod 1073741825:=by omega
  have hs:IntKind.i64.wrap (k - k.tdiv 1073741825*1073741825)=k.tmod 1073741825:=by rw [hr]; exact i64w (by omega)
  have hin : -1073741825 < k.tmod 1073741825∧k.tmod 1073741825 < 1073741825:=by omega
  have next:(1073741825≤k∨k ≤ -1073741825)→∃ m',m' < (if -1073741825 < k∧k < 1073741825 then 0 else 1)∧∃ k':Int,m'=(if -1073741825 < k'∧k' < 1073741825 then 0 else 1)∧[AV.int .i64 (k.tmod 1073741825),.int .i64 1073741825]=[.int .i64 k',.int .i64 1073741825]∧I64 k'∧H=H∧nx=nx∧k'.tmod 1073741825=n.tmod 1073741825:=by
    intro hk'
    rw [if_neg (by omega)]
    exact ⟨0,by omega,k.tmod 1073741825,by rw [if_pos hin],rfl,by simp only [I64]; omega,rfl,rfl,by rw [← hm]; exact zzr hin⟩
  simp [zop,hq,hp,hs,hw]
  refine ⟨fun h => ?_,fun h=>⟨fun h2 => ?_,fun h2 => ?_⟩⟩
  · simpa using next (.inl h)
  · simpa using next (.inr h2)
  · rw [← hm]; exact (zzr (by omega)).symm
theorem zabl (n:Int) (h0:I64 n):QC Tryd.prog 67 [.int .i64 n] (.agg (VM.cInt n).avs):=by
  refine QC.of' fun H nx=>zxz _ H nx _ ?_
  unfold zsl
  refine QC.call (zamb n h0) ?_
  simp [zsm,VM.cInt,Val.avs]
theorem zyf (s:Str) (hs:s.length≤maxLen):QC Tryd.prog 44 [.str s] (.agg (VM.cText s).avs):=by
  refine QC.of' fun H nx=>zwo _ H nx _ ?_
  simp only [maxLen] at hs
  have h2:¬ (60 < s.length)→s.take 60=s:=fun h=>List.take_of_length_le (by omega)
  simp [zqf,VM.cText,Val.avs,SLS,zkz,lohi,PURE,qk,or_imp,forall_and]
  refine ⟨fun h=>by omega,fun h=>h2 (by omega)⟩
theorem zvi (b:Bool):QC Tryd.prog 66 [.bool b] (.tup [.agg (VM.bit b).avs,.int .i64 0]):=by
  refine QC.of' fun H nx=>ztq _ H nx _ ?_
  cases b <;> simp [zon,VM.bit,Val.avs,zai,zrp,zeu]
end Go.Proofs.YtdmibdjokofclaaDoor
set_option maxRecDepth 8000
namespace Go.Proofs.YtdmibdjokofclaaDoor
open Go Go.RowKit
set_option maxHeartbeats 2000000 in
theorem zrh {h:List Cl} (hc:zdc h):∀ (d:Nat) (v:Val) (deep:Int),VM.WrongOk v h.length→deep.toNat=d→d≤5 → -9223372036854775808≤deep→QC Tryd.prog 46 [.ro (h.map Cl.avs),.agg v.avs,.int .i64 deep] (.str (VM.vshow h d v))
  | d, v, deep,hv,hd,hd5,hlow=>by
    refine QC.of' fun H nx=>zwp _ _ _ H nx _ ?_
    rcases hv.kind with k | k | k
    · have:=hv.int k
      rw [VM.vshow_int k]
      simp [zdy,Val.avs,k]
      refine QC.call (zagw v.n (by omega) (by omega)) ?_
      simp [zqi]
    · rw [VM.vshow_text k]
      simp [zdy,Val.avs,k]
    · obtain ⟨h0,h1⟩:=hv.cell k
      have hlt:v.n.toNat < h.length:=by omega
      have hn0:¬ v.n < 0:=by omega
      have hn1:¬ (h.length:Int)≤v.n:=by omega
      cases d with
      | zero =>
        rw [VM.vshow_dots k]
        have:deep < 1:=by omega
        simp [zdy,Val.avs,k,this]
      | succ d =>
        have hpos:¬ deep < 1:=by omega
        obtain ⟨w1,w2⟩:=hc _ (List.getElem_mem hlt)
        rw [VM.vshow_cell k h0 (List.getElem?_eq_getElem hlt)]
        have hget:h[v.n.toNat]? = some h[v.n.toNat]:=List.getElem?_eq_getElem hlt
        generalize h[v.n.toNat]=c at *
        have l1:=zhw hc d w1
        have l2:=zhw hc d w2
        have hp:2 ^ d≤2 ^ 5:=Nat.pow_le_pow_right (by omega) (by omega)
        have hw:IntKind.i64.wrap (deep - 1)=deep - 1:=i64w (by omega)
        have ih1:=zrh hc d c.left (deep - 1) w1 (by omega) (by omega) (by omega)
        have ih2:=zrh hc d c.right (deep - 1) w2 (by omega) (by omega) (by omega)
        have t1:c.avs.take 3=c.left.avs:=rfl
        have t2:(c.avs.drop 3).take 3=c.right.avs:=rfl
        simp [zdy,Val.avs,k,hpos,hn0,hn1,hget,hw]
        have t3:c.avs.take 6=c.left.avs ++ c.right.avs:=rfl
        have t4:(c.left.avs ++ c.right.avs).take 3=c.left.avs:=rfl
        have t5:((c.left.avs ++ c.right.avs).drop 3).take 3=c.right.avs:=rfl
        rw [t3]
        refine ⟨h0,h1,fun x hx=>zae (zabf c x hx),?_⟩
        rw [t4]
        refine zo.of_qc ih1 (.str _) ?_
        simp [zqg,hget,hw]
        refine ⟨by omega,by omega,?_⟩
        rw [t5]
        refine zo.of_qc ih2 (.str _) ?_
        simp [zqh]
        omega
end Go.Proofs.YtdmibdjokofclaaDoor
set_option maxRecDepth 8000
namespace Go.Proofs.YtdmibdjokofclaaDoor
open Go Go.RowKit
structure zeg (H:Heap) (n sz k:Nat) (cs:List AV) (x:AV):Prop where
  src:∀ H':Heap,(∀ g,g < n→H' g=H g)→∃ rd,zm sz H' x=some (k,cs,rd)
  len:cs.length=k*sz
  one:cs.all AV.one=true
  x1:x.cells=[x]∧x.one=true∧x.sure=true
theorem zeg.keep {H H2:Heap} {n n2 sz k:Nat} {cs:List AV} {x:AV} (c:zeg H n sz k cs x) (hn:n≤n2) (hk:∀ g,g < n→H2 g=H g):zeg H2 n2 sz k cs x :=
  ⟨fun H' h=>c.src H' fun g hg=>(h g (by omega)).trans (hk g hg),c.len,c.one,c.x1⟩
theorem zeg.ro {H:Heap} {n sz:Nat} {xs:List (List AV)} (hs:∀ x∈xs,x.length=sz) (ho:∀ x∈xs,∀ c∈x,c.one=true):zeg H n sz xs.length xs.flatten (.ro xs) :=
  ⟨fun H' _=>⟨[],zcw hs⟩,zbf hs,List.all_eq_true.2 fun c hc=>by obtain ⟨x,hx,hcx⟩:=List.mem_flatten.1 hc; exact ho x hx c hcx,rfl,rfl,rfl⟩
theorem zeg.slc {H:Heap} {n sz g k:Nat} {cs:List AV} (h:H g=some (.row sz cs)) (hg:g < n) (hl:cs.length=k*sz) (ho:cs.all AV.one=true):zeg H n sz k cs (.slc g 0 k):=by
  refine ⟨fun H' hk=>⟨[g],?_⟩,hl,ho,rfl,rfl,rfl⟩
  simp only [zm]
  rw [hk g hg,h]
  simp only [Nat.zero_add,List.drop_zero]
  rw [if_pos (by omega),List.take_of_length_le (by omega)]
set_option maxRecDepth 20000 in
set_option maxHeartbeats 1000000 in
theorem zvv {id trip:Int} {p:Prg} {fa ha va sa:AV} {m:Pmt} {fn at_:Int} {k:Nat} {cs:List AV} {H:Heap} {n:Nat} {Q:AV→Heap→Nat→Prop} (cp:zeg H n 4 (k+1) cs fa) (hk:k≤4096) (h1:ha.cells=[ha]∧ha.one=true∧ha.sure=true) (v1:va.one=true∧va.sure=true) (s1:sa.one=true∧sa.sure=true)
    (hq:∀ H' n' g',n≤g'→g' < n'→Keep n H' H→H' g'=some (.row 4 (cs.take (k*4) ++ [.int .i64 fn,.int .i64 at_,va,sa]))→Q (.agg (zc id trip p (.slc g' 0 (k+1)) ha m)) H' n') :
    za Tryd.prog 42 [.agg (zc id trip p fa ha m),.agg [.int .i64 fn,.int .i64 at_,va,sa]] H n Q:=by
  refine zwj _ _ H n _ ?_
  have av:∀ fa',(AV.agg (zc id trip p fa' ha m)).cells=zc id trip p fa' ha m:=fun fa'=>by simp
  unfold zpx
  have hsu:(AV.agg (zc id trip p fa ha m)).sure=true:=by simp [zc,cp.x1.2.2,h1.2.2]
  refine ⟨hsu,by simp [v1.2,s1.2],?_⟩
  have e9:(zc id trip p fa ha m).length=9:=rfl
  have e4:(zc id trip p fa ha m)[4]? = some fa:=rfl
  rw [av,e9]
  generalize hX:(((H.put n (some (AObj.row 9 (zc id trip p fa ha m)))).put (n+1) _).put (n+2) _).put (n+3) _=HX
  have x0:HX n=some (.row 9 (zc id trip p fa ha m)):=by rw [← hX,Heap.put_ne _ _ (by omega),Heap.put_ne _ _ (by omega),Heap.put_ne _ _ (by omega),Heap.put_at]
  have x1:HX (n+1)=some (.row 4 [.int .i64 fn,.int .i64 at_,va,sa]):=by rw [← hX,Heap.put_ne _ _ (by omega),Heap.put_ne _ _ (by omega),Heap.put_at]; rfl
  have x2:∃ z,HX (n+2)=some (.row 9 z)∧z.length=9:=⟨_,by rw [← hX,Heap.put_ne _ _ (by omega),Heap.put_at],rfl⟩
  have x3:HX (n+3)=some (.row 4 []):=by rw [← hX,Heap.put_at]
  have xk:∀ g,g < n→HX g=H g:=fun g hg=>by rw [← hX,Heap.put_ne _ _ (by omega),Heap.put_ne _ _ (by omega),Heap.put_ne _ _ (by omega),Heap.put_ne _ _ (by omega)]
  obtain ⟨z,z1,z2⟩:=x2
  obtain ⟨rd,hs⟩:=cp.src HX xk
  have hw:IntKind.i64.wrap (k:Int)=k:=i64w (by omega)
  have hl:=cp.len
  have ho:=cp.one
  rw [List.all_eq_true] at ho
  simp [x0,e4,hs,x3,x1,zc,hw,z1,z2,v1.1,s1.1,cp.x1.1,h1.1,h1.2.1]
  refine ⟨ho,by omega,by omega,by omega,hq _ _ (n+4) (by omega) (by omega) (fun g hg => ?_) ?_⟩
  · rw [Heap.put_ne _ _ (by omega),Heap.put_ne _ _ (by omega),Heap.put_ne _ _ (by omega),Heap.put_ne _ _ (by omega)]
    exact xk g hg
  · rw [Heap.put_ne _ _ (by omega),Heap.put_ne _ _ (by omega),Heap.put_at,List.drop_of_length_le (by omega)]
end Go.Proofs.YtdmibdjokofclaaDoor
set_option maxRecDepth 8000
namespace Go.Proofs.YtdmibdjokofclaaDoor
open Go Go.RowKit
theorem zds (fs:List Frm):∀ x∈fs.map Frm.avs,x.length=4:=by intro x hx; obtain ⟨f,_,rfl⟩:=List.mem_map.1 hx; rfl
theorem oneF (fs:List Frm):∀ x∈fs.map Frm.avs,∀ c∈x,c.one=true:=by
  intro x hx c hc; obtain ⟨f,_,rfl⟩:=List.mem_map.1 hx
  simp [Frm.avs] at hc
  rcases hc with rfl | rfl | rfl | rfl <;> rfl
theorem zuu {H:Heap} {nx g:Nat} {fs:List Frm} {f:Frm} {va sa:AV} {cs:List AV} (h:H g=some (.row 4 cs)) (hc:cs=(fs.map Frm.avs).flatten ++ [.int .i64 f.fn,.int .i64 f.at_,va,sa]) (hg:nx≤g) (hv:Frz H nx va (.ro (f.vars.map Val.avs))) (hs:Frz H nx sa (.ro (f.stack.map Val.avs))) :
    Frz H nx (.slc g 0 (fs.length+1)) (.ro ((fs ++ [f]).map Frm.avs)):=by
  have hl:((fs.map Frm.avs).flatten).length=fs.length*4:=by rw [zbf (zds fs)]; simp
  have key:∀ (i:Nat) (x:List AV) (j:Nat) (v:AV),((fs ++ [f]).map Frm.avs)[i]? = some x→x[j]? = some v→∃ u,cs[0+i*4+j]? = some u∧Frz H nx u v:=fun i x j v hx hv'=>by
    rw [List.getElem?_map] at hx
    obtain ⟨f',hf,rfl⟩:=Option.map_eq_some_iff.1 hx
    have hj:j < 4:=(List.getElem?_eq_some_iff.1 hv').1
    rw [Nat.zero_add,hc]
    by_cases hi:i < fs.length
    · rw [List.getElem?_append_left hi] at hf
      have hm:(fs.map Frm.avs)[i]? = some f'.avs:=by rw [List.getElem?_map,hf]; rfl
      refine ⟨v,?_,.same _ (zabt f' j v hv')⟩
      have:=zuw (zds fs) hm hv'
      rw [List.getElem?_append_left (by omega)]; exact this
    · have hi':i=fs.length:=by have:=(List.getElem?_eq_some_iff.1 hf).1; simp at this; omega
      subst hi'
      rw [List.getElem?_append_right (Nat.le_refl _)] at hf
      simp at hf; subst hf
      rw [List.getElem?_append_right (by omega),hl,show fs.length*4+j - fs.length*4=j by omega]
      match j,hv' with
      | 0,hv'=>cases hv'; exact ⟨_,rfl,.same _ (.int _ _)⟩
      | 1,hv'=>cases hv'; exact ⟨_,rfl,.same _ (.int _ _)⟩
      | 2,hv'=>cases hv'; exact ⟨_,rfl,hv⟩
      | 3,hv'=>cases hv'; exact ⟨_,rfl,hs⟩
      | j+4,hv'=>omega
  refine .slc g 0 _ 4 cs _ hg h (by rw [hc,List.length_append,hl]; simp; omega) (by simp) (zds _) (fun i j=>(cs[0+i*4+j]?).getD .junk) (fun i x j v hx hv' => ?_) (fun i x j v hx hv' => ?_)
  · obtain ⟨u,q1,q2⟩:=key i x j v hx hv'; rw [q1]; rfl
  · obtain ⟨u,q1,q2⟩:=key i x j v hx hv'; rw [q1]; exact q2
theorem zxk {H:Heap} {n:Nat} (fs:List Frm):zeg H n 4 fs.length (fs.map Frm.avs).flatten (.ro (fs.map Frm.avs)):=by
  have:=zeg.ro (H:=H) (n:=n) (zds fs) (oneF fs)
  simpa using this
theorem zaag (fs:List Frm) (f:Frm):(((fs ++ [f]).map Frm.avs).flatten).take (fs.length*4)=(fs.map Frm.avs).flatten:=by
  have hl:((fs.map Frm.avs).flatten).length=fs.length*4:=by rw [zbf (zds fs)]; simp
  rw [List.map_append,List.flatten_append,List.take_append_of_le_length (by omega),List.take_of_length_le (by omega)]
set_option maxRecDepth 20000 in
set_option maxHeartbeats 1000000 in
theorem zup {a:Agt} {fs:List Frm} {f:Frm} {k:Int} (hfr:a.frames=fs ++ [f]) (hf:fs.length≤4096) (hst:f.stack.length≤4096) :
    QC Tryd.prog 31 [.agg a.avs,.int .i64 k] (.agg (VM.answer a k).avs):=by
  refine QC.of' fun H n => ?_
  refine ztg _ _ H n _ ?_
  have av:(AV.agg a.avs).cells=a.avs:=by simp
  have hsu:(AV.agg a.avs).sure=true:=by simp [Agt.avs]
  have e9:a.avs.length=9:=rfl
  have e4:a.avs[4]? = some (.ro (a.frames.map Frm.avs)):=rfl
  unfold zmp
  rw [av,e9]
  refine ⟨hsu,?_⟩
  have hw:IntKind.i64.wrap (fs.length:Int)=fs.length:=i64w (by omega)
  have hlast:(fs ++ [f])[fs.length]? = some f:=by simp
  rw [hfr] at e4
  have hsrc:∀ (H:Heap) (l:List Val),zm 3 H (.ro (l.map Val.avs))=some (l.length,rowV l,[]):=fun H l=>by rw [zcw (zbw l)]; simp [rowV]
  have hones:∀ l:List Val,∀ x∈rowV l,x.one=true:=fun l c hc=>zae (zbq l c hc)
  have tk:(rowV f.stack).take (f.stack.length*3)=rowV f.stack:=List.take_of_length_le (by simp)
  have at9:a.avs.take 9=a.avs:=by rw [← e9,List.take_length]
  simp [e4,hw]
  have nn1:n ≠ n+4+1+1:=by omega
  have nn2:n ≠ n+4+1:=by omega
  simp [Frm.avs,hsrc,tk,e9,at9,nn1,nn2]
  refine ⟨by omega,hones _,by omega,by omega,?_⟩
  generalize hX:Heap.put _ (n+2) _=HX
  have x1:∃ z,HX (n+1)=some (.row 9 z)∧z.length=9:=⟨_,by rw [← hX,Heap.put_ne _ _ (by omega),Heap.put_ne _ _ (by omega),Heap.put_ne _ _ (by omega),Heap.put_ne _ _ (by omega),Heap.put_ne _ _ (by omega),Heap.put_ne _ _ (by omega),Heap.put_ne _ _ (by omega),Heap.put_at],rfl⟩
  have x2:HX (n+4+1+1)=some (.row 3 (rowV f.stack ++ [.int .i64 0,.int .i64 k,.str []])):=by rw [← hX,Heap.put_ne _ _ (by omega),Heap.put_at]
  have xk:∀ g,g < n→HX g=H g:=fun g hg=>by rw [← hX]; rw [Heap.put_ne _ _ (by omega),Heap.put_ne _ _ (by omega),Heap.put_ne _ _ (by omega),Heap.put_ne _ _ (by omega),Heap.put_ne _ _ (by omega),Heap.put_ne _ _ (by omega),Heap.put_ne _ _ (by omega),Heap.put_ne _ _ (by omega),Heap.put_ne _ _ (by omega)]
  have ea:a.avs=zc a.id a.trip a.prog (.ro ((fs ++ [f]).map Frm.avs)) (.ro (a.heap.map Cl.avs)) a.permit:=by rw [Agt.avs_eq,hfr]
  rw [ea]
  have cpy:=zxk (H:=HX) (n:=n+4+1+1+1) (fs ++ [f])
  rw [show (fs ++ [f]).length=fs.length+1 by simp] at cpy
  refine zvv cpy hf ⟨rfl,rfl,rfl⟩ ⟨rfl,rfl⟩ ⟨rfl,rfl⟩ fun H' n' g' hg1 hg2 kp hr => ?_
  rw [zaag] at hr
  obtain ⟨z,z1,z2⟩:=x1
  have e1:=(kp (n+1) (by omega)).trans z1
  have e2:=(kp (n+4+1+1) (by omega)).trans x2
  simp [zmq,zc,e1,z2]
  rw [zadd hfr]
  refine ⟨zcf (zuu (by rw [Heap.put_ne _ _ (by omega)]; exact hr) rfl (by omega) (.same _ (zcn (zek _))) ?_) (.same _ (zcn (zao _))),fun g hg => ?_⟩
  · refine Slot.frzV (.inr ⟨n+4+1+1,_,by simp,by rw [Heap.put_ne _ _ (by omega)]; exact e2,?_,by simp; omega⟩) (by simp [own]; omega)
    rw [List.take_of_length_le (by simp; omega),zel]; rfl
  · rw [kp g (by omega)]; exact xk g hg
set_option maxRecDepth 20000 in
set_option maxHeartbeats 1000000 in
theorem zajk {id:Int} {p:Prg} {m:Pmt} (hp:0 < p.codes.length) (hv:0≤(VM.codeAt p 0).vars∧(VM.codeAt p 0).vars≤4096) :
    QC Tryd.prog 29 [.int .i64 id,.agg p.avs,.agg m.avs] (.agg (VM.newAgt id p m).avs):=by
  refine QC.of' fun H nx => ?_
  refine zxx _ _ _ H nx _ ?_
  have pv:(AV.agg p.avs).cells=p.avs:=by simp
  have pl:p.avs.length=2:=rfl
  have mv:(AV.agg m.avs).cells=m.avs:=by simp
  have ml:m.avs.length=3:=rfl
  have hsp:(AV.agg p.avs).sure=true:=by simp [Prg.avs]
  have hsm:(AV.agg m.avs).sure=true:=by simp [Pmt.avs]
  unfold zsb
  rw [pv,pl,mv,ml]
  refine ⟨hsp,hsm,?_⟩
  have hc:p.codes[0]? = some (VM.codeAt p 0):=zmj (p:=p) (k:=0) hp
  obtain ⟨k,hk⟩:∃ k:Nat,(VM.codeAt p 0).vars=k:=⟨(VM.codeAt p 0).vars.toNat,by omega⟩
  have hc':p.codes[0]=VM.codeAt p 0:=(List.getElem?_eq_some_iff.1 hc).2
  have na:VM.newAgt id p m=⟨id,0,p,[] ++ [⟨0,0,List.replicate k VM.vzero,[]⟩],[],m⟩:=by unfold VM.newAgt; rw [hk]; rfl
  have hr:rowV (List.replicate k VM.vzero)=(List.replicate k [AV.int .i64 0,AV.int .i64 0,AV.str []]).flatten:=by unfold rowV; rw [List.map_replicate]; rfl
  simp [Prg.avs,Pmt.avs,hp,hc',Cod.avs,hk]
  refine ⟨by omega,by omega,fun x hx=>by rcases hx with (rfl | rfl | rfl | rfl) | rfl | rfl | rfl | rfl | rfl <;> rfl,?_⟩
  generalize hX:Heap.put _ (nx+2) (some (AObj.row 9 (AV.int IntKind.i64 id :: _)))=HX
  have x3:HX (nx+3)=some (.row 3 (rowV (List.replicate k VM.vzero))):=by rw [← hX,Heap.put_ne _ _ (by omega),Heap.put_ne _ _ (by omega),Heap.put_at,hr]
  have x4:HX (nx+4)=some (.row 4 [AV.int .i64 0,AV.int .i64 0,.slc (nx+3) 0 k,.nils]):=by rw [← hX,Heap.put_ne _ _ (by omega),Heap.put_at]
  rw [na]
  refine zcf (zuu (fs:=[]) x4 rfl (by omega) (Slot.frzV (.inr ⟨nx+3,_,by simp,x3,List.take_of_length_le (by simp),by simp⟩) (by simp [own])) .nils) .nils
end Go.Proofs.YtdmibdjokofclaaDoor
set_option maxRecDepth 8000
namespace Go.Proofs.YtdmibdjokofclaaDoor
open Go Go.RowKit
def Good (H:Heap) (nx:Nat) (v:AV) (r:Agt):Prop:=∃ xs,v=.agg xs∧xs.length=9∧(∀ x∈xs,x.one=true)∧(AV.agg xs).sure=true∧∀ H2:Heap,(∀ g,nx+4≤g→H2 g=H g)→Frz H2 nx v (.agg r.avs)
structure Outs (H0 H:Heap) (nx:Nat):Prop where
  r2:∃ z,H (nx+2)=some (.row 9 z)∧z.length=9
  r3:∃ z,H (nx+3)=some (.row 3 z)∧z.length=3
  keep:Keep nx H H0
theorem Outs.more {H0 H H':Heap} {nx:Nat} (o:Outs H0 H nx) (hk:∀ g,g < nx+4→g ≠ nx→g ≠ nx+1→H' g=H g):Outs H0 H' nx:=by
  obtain ⟨z,z1,z2⟩:=o.r2
  obtain ⟨y,y1,y2⟩:=o.r3
  exact ⟨⟨z,by rw [hk _ (by omega) (by omega) (by omega)]; exact z1,z2⟩,⟨y,by rw [hk _ (by omega) (by omega) (by omega)]; exact y1,y2⟩,fun g hg=>by rw [hk g (by omega) (by omega) (by omega)]; exact o.keep g hg⟩
theorem Good.more {H H':Heap} {nx:Nat} {v:AV} {r:Agt} (g:Good H nx v r) (hk:∀ g,nx+4≤g→H' g=H g):Good H' nx v r:=by
  obtain ⟨xs,h1,h2,h3,h4,h5⟩:=g
  exact ⟨xs,h1,h2,h3,h4,fun H2 h=>h5 H2 fun g hg=>(h g hg).trans (hk g hg)⟩
def zji (H0:Heap) (nx:Nat) (r:Agt×Evt):AV→Heap→Nat→Prop:=fun v H' _=>Frz H' nx v (.tup [.agg r.1.avs,.agg r.2.avs])∧Keep nx H' H0
theorem ret {H0 H:Heap} {nx n:Nat} {v:AV} {r:Agt×Evt} (g:Good H nx v r.1) (o:Outs H0 H nx):ST 9 (.ptr (nx+2) 0) v H fun H1=>ST 3 (.ptr (nx+3) 0) (.agg r.2.avs) H1 fun H2=>LD true 9 (.ptr (nx+2) 0) H2 fun v1=>LD true 3 (.ptr (nx+3) 0) H2 fun v2=>zji H0 nx r (.tup [v1,v2]) H2 n:=by
  obtain ⟨xs,rfl,h2,h3,h4,h5⟩:=g
  obtain ⟨⟨z,z1,z2⟩,⟨y,y1,y2⟩,keep⟩:=o
  have tx:xs.take 9=xs:=List.take_of_length_le (by omega)
  have m1:nx+2 ≠ nx+3:=by omega
  have m2:nx+3 ≠ nx+2:=by omega
  have m:min xs.length 9=9:=by omega
  simp [z1,y1,z2,y2,h2,tx,Evt.avs,m1,m2,m]
  refine ⟨h3,Frz.tup2 (h5 _ fun g hg=>by rw [Heap.put_ne _ _ (by omega),Heap.put_ne _ _ (by omega)]) (.same _ (znn _)),fun g hg => ?_⟩
  · rw [Heap.put_ne _ _ (by omega),Heap.put_ne _ _ (by omega)]; exact keep g hg
theorem ex_0 {a b:AV} {k:AV→Prop}:EX (.tup [a,b]) 0 k=k a:=by simp
theorem ex_1 {a b:AV} {k:AV→Prop}:EX (.tup [a,b]) 1 k=k b:=by simp
theorem retE {H0 H:Heap} {nx n:Nat} {v:AV} {r:Agt×Evt} (g:Good H nx v r.1) (o:Outs H0 H nx):EX (.tup [v,.agg r.2.avs]) 0 fun a=>EX (.tup [v,.agg r.2.avs]) 1 fun b=>ST 9 (.ptr (nx+2) 0) a H fun H1=>ST 3 (.ptr (nx+3) 0) b H1 fun H2=>LD true 9 (.ptr (nx+2) 0) H2 fun v1=>LD true 3 (.ptr (nx+3) 0) H2 fun v2=>zji H0 nx r (.tup [v1,v2]) H2 n:=by
  rw [ex_0,ex_1]; exact ret g o
theorem zzx {H:Heap} {nx g:Nat} {l:List Val} (h:H g=some (.row 3 (rowV l))) (hg:nx≤g):Frz H nx (.slc g 0 l.length) (.ro (l.map Val.avs)) :=
  Slot.frzV (.inr ⟨g,_,rfl,h,List.take_of_length_le (by simp),by simp⟩) (by simpa [own] using hg)
def Part (H:Heap) (nx n:Nat) (v r:AV):Prop:=v.cells=[v]∧v.one=true∧v.sure=true∧∀ H2:Heap,(∀ g,nx+4≤g→g < n→H2 g=H g)→Frz H2 nx v r
theorem Part.more {H H':Heap} {nx n n':Nat} {v r:AV} (p:Part H nx n v r) (hn:n≤n') (hk:∀ g,nx+4≤g→g < n→H' g=H g):Part H' nx n' v r:=⟨p.1,p.2.1,p.2.2.1,fun H2 h=>p.2.2.2 H2 fun g hg hl=>(h g hg (by omega)).trans (hk g hg hl)⟩
theorem Part.ro {H:Heap} {nx n:Nat} {xs:List (List AV)} (hx:∀ x∈xs,∀ c∈x,scal c=true):Part H nx n (.ro xs) (.ro xs):=⟨rfl,rfl,rfl,fun H2 _=>.same _ (zcn hx)⟩
theorem Part.row {H:Heap} {nx n g:Nat} {l:List Val} (h:H g=some (.row 3 (rowV l))) (hg:nx+4≤g) (hl:g < n):Part H nx n (.slc g 0 l.length) (.ro (l.map Val.avs)) :=
  ⟨rfl,rfl,rfl,fun H2 hk=>zzx (by rw [hk g hg hl]; exact h) (by omega)⟩
theorem Part.nils {H:Heap} {nx n:Nat}:Part H nx n .nils (.ro []):=⟨rfl,rfl,rfl,fun H2 _=>.nils⟩
theorem zmi {H:Heap} {nx n g:Nat} {id trip:Int} {p:Prg} {fs:List Frm} {f:Frm} {h:List Cl} {m:Pmt} {va sa ha:AV} (hg:nx+4≤g) (hr:H g=some (.row 4 ((fs.map Frm.avs).flatten ++ [.int .i64 f.fn,.int .i64 f.at_,va,sa]))) (hv:Part H nx n va (.ro (f.vars.map Val.avs))) (hs:Part H nx n sa (.ro (f.stack.map Val.avs))) (hh:Part H nx n ha (.ro (h.map Cl.avs))) :
    Good H nx (.agg (zc id trip p (.slc g 0 (fs.length+1)) ha m)) ⟨id,trip,p,fs ++ [f],h,m⟩:=by
  refine ⟨_,rfl,rfl,?_,?_,fun H2 hk=>zcf (zuu (by rw [hk g hg]; exact hr) rfl (by omega) (hv.2.2.2 H2 fun g hg _=>hk g hg) (hs.2.2.2 H2 fun g hg _=>hk g hg)) (hh.2.2.2 H2 fun g hg _=>hk g hg)⟩
  · intro x hx
    simp [zc] at hx
    rcases hx with rfl | rfl | rfl | rfl | rfl | rfl | rfl | rfl | rfl <;> first | rfl | exact hh.2.1
  · simp [zc,hh.2.2.1]
theorem zdl {H:Heap} {nx n ga:Nat} {id trip:Int} {p:Prg} {fs:List Frm} {f:Frm} {h:List Cl} {m:Pmt} {va sa ha w1 w2 w3 w4:AV} {Q:AV→Heap→Nat→Prop} (hn:nx+4≤n) (hk:fs.length≤4096) (hl:ga < n) (hr:H ga=some (.row 4 ((fs.map Frm.avs).flatten ++ [w1,w2,w3,w4]))) (hw:w1.one=true∧w2.one=true∧w3.one=true∧w4.one=true)
    (hv:Part H nx n va (.ro (f.vars.map Val.avs))) (hs:Part H nx n sa (.ro (f.stack.map Val.avs))) (hh:Part H nx n ha (.ro (h.map Cl.avs)))
    (hq:∀ H' n' g',n≤g'→g' < n'→Keep n H' H→H' g'=some (.row 4 ((fs.map Frm.avs).flatten ++ [.int .i64 f.fn,.int .i64 f.at_,va,sa]))→Good H' nx (.agg (zc id trip p (.slc g' 0 (fs.length+1)) ha m)) ⟨id,trip,p,fs ++ [f],h,m⟩→Q (.agg (zc id trip p (.slc g' 0 (fs.length+1)) ha m)) H' n') :
    za Tryd.prog 42 [.agg (zc id trip p (.slc ga 0 (fs.length+1)) ha m),.agg [.int .i64 f.fn,.int .i64 f.at_,va,sa]] H n Q:=by
  have hlf:((fs.map Frm.avs).flatten).length=fs.length*4:=by rw [zbf (zds fs)]; simp
  refine zvv (zeg.slc hr hl (by rw [List.length_append,hlf]; simp; omega) ?_) hk ⟨hh.1,hh.2.1,hh.2.2.1⟩ ⟨hv.2.1,hv.2.2.1⟩ ⟨hs.2.1,hs.2.2.1⟩ fun H' n' g' h1 h2 kp hr' => ?_
  · refine List.all_eq_true.2 fun c hc => ?_
    rcases List.mem_append.1 hc with hc | hc
    · obtain ⟨x,hx,hcx⟩:=List.mem_flatten.1 hc; exact oneF fs x hx c hcx
    · simp at hc; rcases hc with rfl | rfl | rfl | rfl
      · exact hw.1
      · exact hw.2.1
      · exact hw.2.2.1
      · exact hw.2.2.2
  · rw [List.take_append_of_le_length (by omega),List.take_of_length_le (by omega)] at hr'
    exact hq H' n' g' h1 h2 kp hr' (zmi (n:=n) (by omega) hr' (hv.more (Nat.le_refl _) fun g _ hg=>kp g hg) (hs.more (Nat.le_refl _) fun g _ hg=>kp g hg) (hh.more (Nat.le_refl _) fun g _ hg=>kp g hg))
end Go.Proofs.YtdmibdjokofclaaDoor
set_option maxRecDepth 8000
namespace Go.Proofs.YtdmibdjokofclaaDoor
open Go Go.RowKit
section
variable {H0 H:Heap} {nx n ga:Nat} {id trip:Int} {p:Prg} {fs:List Frm} {f:Frm} {h:List Cl} {m:Pmt} {va sa ha w1 w2 w3 w4:AV}
theorem zaia (er:Int) {xs:List AV} (hx:H nx=some (.row 9 xs)) (hl:xs.length=9) (ho:∀ x∈xs,x.one=true) (hn:nx < n) {Q:AV→Heap→Nat→Prop} (hq:∀ H',(∀ g,g < n→H' g=H g)→Q (.tup [.agg xs,.agg (VM.dead er).avs]) H' (n+2)):za Tryd.prog 41 [.int .i64 er,.ptr nx 0] H n Q:=by
  refine ztf _ _ H n _ ?_
  have tx:xs.take 9=xs:=List.take_of_length_le (by omega)
  have m1:nx ≠ n:=by omega
  have m2:nx ≠ n+1:=by omega
  have m3:n ≠ n+1:=by omega
  have m:min xs.length 9=9:=by omega
  have d9:List.drop 9 [AV.int .i64 0,.int .i64 0,.nils,.nils,.nils,.nils,.int .i64 0,.int .i64 0,.int .i64 0]=[]:=rfl
  simp [zmo,hx,m1,m2,m3,tx,hl,m]
  exact ⟨ho,fun x hx=>by rcases hx with (rfl | rfl) | rfl <;> rfl,hq _ fun g hg=>by rw [Heap.put_ne _ _ (by omega),Heap.put_ne _ _ (by omega),Heap.put_ne _ _ (by omega),Heap.put_ne _ _ (by omega)]⟩
set_option maxRecDepth 20000 in
set_option maxHeartbeats 1000000 in
theorem zadr (v:Val) {gs:Nat} (hn:nx+6≤n) (hk:fs.length≤4096) (hst:f.stack.length≤4096) (r0:H nx=some (.row 9 (zc id trip p (.slc ga 0 (fs.length+1)) ha m))) (r4:H (nx+4)=some (.row 4 [.int .i64 f.fn,.int .i64 f.at_,va,.slc gs 0 f.stack.length])) (rs:H gs=some (.row 3 (rowV f.stack))) (hgs:nx+6≤gs∧gs < n)
    (hga:nx+6≤ga∧ga < n) (ra:H ga=some (.row 4 ((fs.map Frm.avs).flatten ++ [w1,w2,w3,w4]))) (hne:ga ≠ gs) (hw:w1.one=true∧w2.one=true∧w3.one=true∧w4.one=true)
    (hv:∀ H':Heap,(∀ g,nx+6≤g→g < n→g ≠ gs→H' g=H g)→Part H' nx n va (.ro (f.vars.map Val.avs))) (hh:∀ H':Heap,(∀ g,nx+6≤g→g < n→g ≠ gs→H' g=H g)→Part H' nx n ha (.ro (h.map Cl.avs)))
    {Q:AV→Heap→Nat→Prop} (hq:∀ v' H' n',Good H' nx v' ⟨id,trip,p,fs ++ [{ f with stack:=f.stack ++ [v] }],h,m⟩→(∀ g,g < nx+4→H' g=H g)→Q (.tup [v',.agg VM.ev0.avs]) H' n') :
    za Tryd.prog 43 [.agg v.avs,.ptr (nx+4) 0,.ptr nx 0] H n Q:=by
  refine zte _ _ _ H n _ ?_
  have ce:(AV.agg v.avs).cells=v.avs:=by simp
  have lv:v.avs.length=3:=rfl
  have tv:v.avs.take 3=v.avs:=rfl
  unfold zmm
  rw [ce,lv]
  have m0:nx+4 ≠ n:=by omega
  have m1:nx+4 ≠ n+1:=by omega
  have m2:nx+4 ≠ n+2:=by omega
  have m3:nx+4 ≠ n+3:=by omega
  have ga1:gs ≠ n:=by omega
  have ga2:gs ≠ n+1:=by omega
  have ga3:gs ≠ n+2:=by omega
  have ga4:gs ≠ n+3:=by omega
  refine ⟨by simp [Val.avs],?_⟩
  have b1:nx ≠ n:=by omega
  have b2:nx ≠ n+1:=by omega
  have b3:nx ≠ n+2:=by omega
  have b4:nx ≠ n+3:=by omega
  have b5:nx ≠ n+4:=by omega
  have b6:nx ≠ gs:=by omega
  have b7:nx+4 ≠ gs:=by omega
  have b8:nx ≠ nx+4:=by omega
  have tk:(rowV f.stack).take (f.stack.length*3)=rowV f.stack:=List.take_of_length_le (by simp)
  simp [r4,m0,m1,m2,m3,tv,lv,ga1,ga2,ga3,ga4,rs,b1,b2,b3,b4,b5,b6,b7,b8,r0,zc,tk]
  refine ⟨fun x hx=>zae (zat v x hx),by omega,?_⟩
  generalize hX:Heap.put _ (nx+4) _=HX
  have old:∀ g,g < n→g ≠ gs→g ≠ nx+4→HX g=H g:=fun g h1 h2 h3=>by
    rw [← hX,Heap.put_ne _ _ h3,Heap.put_ne _ _ (by omega),Heap.put_ne _ _ h2,Heap.put_ne _ _ (by omega),Heap.put_ne _ _ (by omega),Heap.put_ne _ _ (by omega),Heap.put_ne _ _ (by omega)]
  have x1:HX (n+4)=some (.row 3 (rowV (f.stack ++ [v]))):=by rw [← hX,Heap.put_ne _ _ (by omega),Heap.put_at,zel]
  have x2:∃ z,HX (n+1)=some (.row 9 z)∧z.length=9:=⟨_,by rw [← hX,Heap.put_ne _ _ (by omega),Heap.put_ne _ _ (by omega),Heap.put_ne _ _ (by omega),Heap.put_ne _ _ (by omega),Heap.put_ne _ _ (by omega),Heap.put_at],rfl⟩
  have x3:∃ z,HX (n+2)=some (.row 3 z)∧z.length=3:=⟨_,by rw [← hX,Heap.put_ne _ _ (by omega),Heap.put_ne _ _ (by omega),Heap.put_ne _ _ (by omega),Heap.put_ne _ _ (by omega),Heap.put_at],rfl⟩
  have hs':Part HX nx (n+4+1) (.slc (n+4) 0 (f.stack.length+1)) (.ro ((f.stack ++ [v]).map Val.avs)):=by
    have:=Part.row (nx:=nx) (n:=n+4+1) x1 (by omega) (by omega)
    simpa using this
  have hv0:=hv HX fun g h1 h2 h3=>old g h2 h3 (by omega)
  have hh0:=hh HX fun g h1 h2 h3=>old g h2 h3 (by omega)
  have hv':=hv0.more (n':=n+4+1) (H':=HX) (by omega) fun g _ _=>rfl
  have hh':=hh0.more (n':=n+4+1) (H':=HX) (by omega) fun g _ _=>rfl
  refine zdl (f:={ f with stack:=f.stack ++ [v] }) (by omega) hk (by omega) (by rw [old ga hga.2 hne (by omega)]; exact ra) hw hv' hs' hh' fun H' n' g' h1 h2 kp hr gd => ?_
  obtain ⟨z,z1,z2⟩:=x2
  obtain ⟨y,y1,y2⟩:=x3
  have q1:=(kp (n+1) (by omega)).trans z1
  have q2:=(kp (n+2) (by omega)).trans y1
  have c1:n+2 ≠ n+1:=by omega
  have c2:n+1 ≠ n+2:=by omega
  simp [zmn,zc,q1,q2,z2,y2,c1,c2,hh'.1,hh'.2.1]
  have q4:=(kp (n+4) (by omega)).trans x1
  have fin:∀ o o',∀ g,g ≠ n+1→g ≠ n+2→((H'.put (n+1) o).put (n+2) o') g=H' g:=fun o o' g h1 h2=>by rw [Heap.put_ne _ _ h2,Heap.put_ne _ _ h1]
  refine hq _ _ _ (zmi (n:=n') (f:={ f with stack:=f.stack ++ [v] }) (by omega) (by rw [fin _ _ g' (by omega) (by omega)]; exact hr) (hv0.more (by omega) fun g h1 h2 => ?_) ?_ (hh0.more (by omega) fun g h1 h2 => ?_)) fun g hg => ?_
  · rw [fin _ _ g (by omega) (by omega),kp g (by omega)]
  · have:=Part.row (nx:=nx) (n:=n') ((fin (some (.row 9 (zc id trip p (.slc g' 0 (fs.length+1)) ha m ++ z.drop 9))) (some (.row 3 (VM.ev0.avs ++ y.drop 3))) (n+4) (by omega) (by omega)).trans q4) (by omega) (by omega)
    simpa [zc,VM.ev0,Evt.avs] using this
  · rw [fin _ _ g (by omega) (by omega),kp g (by omega)]
  · rw [fin _ _ g (by omega) (by omega),kp g (by omega)]; exact old g (by omega) (by omega) (by omega)
end
end Go.Proofs.YtdmibdjokofclaaDoor
