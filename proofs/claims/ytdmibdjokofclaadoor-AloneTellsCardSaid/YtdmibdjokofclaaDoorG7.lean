/- What is right never gets stuck: the agent behind a step is right. -/
import Derived.Test.YtdmibdjokofclaaDoorG6
set_option linter.unusedSimpArgs false
set_option linter.unusedVariables false
set_option maxRecDepth 8000
namespace Go.Proofs.YtdmibdjokofclaaDoor
namespace VM
theorem hts_len {p:Prg} {f:Frm} (hp:program p=0) (hc:f.fn.toNat < p.codes.length):(hts p f).length=(codeAt p f.fn).ins.length:=by
  obtain ⟨pr,_⟩:=zad hp
  obtain ⟨_,calm,hz⟩:=pr _ (code_mem hc)
  exact (zcr calm hz).1
theorem FrOk.mono {p:Prg} {N M:Nat} {f:Frm} (h:FrOk p N f) (hn:N≤M):FrOk p M f :=
  ⟨h.fn0,h.at0,h.code,h.ins,h.vars,fun v hv=>(h.vv v hv).mono (by omega),fun v hv=>(h.sv v hv).mono (by omega)⟩
theorem Live.on {a:Agt} {fs:List Frm} {f:Frm} (l:Live a fs f) {k:Int} {vs st:List Val} {h:List Cl} {m:Pmt} (hk:there (hts a.prog f) (k,st.length)) (hvl:vs.length=f.vars.length) (hv:∀ v∈vs,WrongOk v h.length) (hs:∀ v∈st,WrongOk v h.length)
    (hh:a.heap.length≤h.length) (hc:∀ c∈h,WrongOk c.left h.length∧WrongOk c.right h.length) (m1:0≤m.fuel∧m.fuel≤2000) (m2:0≤m.room) (m3:0≤m.hops∧m.hops≤12) (hl:(h.length:Int)+m.room≤60) :
    Live { a with frames:=fs ++ [⟨f.fn,k,vs,st⟩],heap:=h,permit:=m } fs ⟨f.fn,k,vs,st⟩:=by
  have ok:=l.ok f (by simp)
  obtain ⟨k0,k1⟩:=hk
  have klt:=(List.getElem?_eq_some_iff.1 k1).1
  rw [hts_len l.prog ok.code] at klt
  refine ⟨rfl,l.prog,l.id,l.trip,m1,m2,m3,l.flen,hl,fun g hg => ?_,l.chain,k1,hc⟩
  rcases List.mem_append.1 hg with hg | hg
  · exact (l.ok g (by simp [hg])).mono hh
  · simp only [List.mem_singleton] at hg
    subst hg
    exact ⟨ok.fn0,k0,ok.code,klt,by have:=ok.vars; simp only; omega,hv,hs⟩
theorem WChain.last {p:Prg} {gs:List Frm} {g:Frm} {fn:Int} (h:WChain p (gs ++ [g]) fn):WChain p gs g.fn∧Waits p g fn:=by
  generalize hl:gs ++ [g]=l at h
  cases h with
  | nil=>simp at hl
  | snoc gs' g' _ h1 h2 =>
    obtain ⟨rfl,h⟩:=List.append_inj' hl rfl
    cases h
    exact ⟨h1,h2⟩
theorem Now.go {p:Prg} {f:Frm} {i:Ins} (n:Now p f i) (h1:i.op ≠ 15) (h2:i.op ≠ 18):there (hts p f) (f.at_+1,after i f.stack.length) :=
  n.next _ (by unfold succs; simp [h1,h2])
theorem Now.jump {p:Prg} {f:Frm} {i:Ins} (n:Now p f i) (h:i.op=15∨i.op=16):there (hts p f) (i.a,after i f.stack.length) :=
  n.next _ (by unfold succs; simp [h])
theorem low_len (k:Nat) (st:List Val):(low k st).length=st.length - k:=by unfold low; simp
theorem low_mem {k:Nat} {st:List Val} {v:Val} (h:v∈low k st):v∈st:=List.mem_of_mem_take h
theorem top1_mem {st:List Val} (h:1≤st.length):top1 st∈st:=by
  unfold top1
  rw [List.getD_eq_getElem?_getD,List.getElem?_eq_getElem (by omega)]
  exact List.getElem_mem _
theorem top2_mem {st:List Val} (h:2≤st.length):top2 st∈st:=by
  unfold top2
  rw [List.getD_eq_getElem?_getD,List.getElem?_eq_getElem (by omega)]
  exact List.getElem_mem _
theorem zero_ok (N:Int):WrongOk vzero N:=⟨.inl rfl,fun _=>by unfold vzero; simp,by unfold vzero; simp,fun h=>by unfold vzero at h; simp at h,fun h=>by unfold vzero at h; simp at h,fun _=>rfl⟩
theorem num_ok {n:Int} (h : -1073741824≤n∧n≤1073741824) (N:Int):WrongOk ⟨0,n,[]⟩ N:=⟨.inl rfl,fun _=>h,by simp,fun h=>by simp at h,fun h=>by simp at h,fun _=>rfl⟩
theorem text_ok (s:Str) (N:Int):WrongOk (cText s) N:=⟨.inr (.inl rfl),fun h=>by unfold cText at h; simp at h,by unfold cText; simp; omega,fun h=>by unfold cText at h; simp at h,fun _=>rfl,fun h=>by unfold cText at h; simp at h⟩
theorem cInt_ok (n N:Int):WrongOk (cInt n) N:=by
  unfold cInt
  apply num_ok
  have:=Int.tmod_lt_of_pos n (b:=1073741825) (by omega)
  have:=Int.lt_tmod_of_pos n (b:=1073741825) (by omega)
  omega
theorem bit_ok (b:Bool) (N:Int):WrongOk (bit b) N:=by
  unfold bit
  apply num_ok
  cases b <;> simp
theorem two_ok (op:Int) (a b:Val) (N:Int):WrongOk (two op a b).1 N:=by
  unfold two
  repeat' split
  all_goals first | exact zero_ok N | exact bit_ok _ N | exact text_ok _ N | exact cInt_ok _ N
theorem any_ok {v:Val} (h:WrongOk v (0:Int)) (N:Int):WrongOk v N:=⟨h.kind,h.int,h.len,fun k=>by have:=h.cell k; omega,h.txt,h.non⟩
theorem ask_ok {l:List Fct} (h:∀ x∈l,WrongOk x.val (0:Int)) (k:Str) (N:Int):WrongOk (ask l k) N:=by
  unfold ask
  cases hf:l.find? (fun f=>decide (f.key=k)) with
  | none=>exact zero_ok N
  | some f=>exact any_ok (h f (List.mem_of_find?_eq_some hf)) N
theorem getD_mem {α:Type} {l:List α} {n:Nat} {d:α} (h:n < l.length):l.getD n d∈l:=by
  rw [List.getD_eq_getElem?_getD,List.getElem?_eq_getElem h]
  exact List.getElem_mem h
set_option maxHeartbeats 2000000 in
theorem opDo_live {a:Agt} {fs:List Frm} {f:Frm} {s:Spt} (l:Live a fs f) (hf:a.permit.fuel ≠ 0) (hs:∀ x∈s.facts,WrongOk x.val (0:Int)) {i:Ins} (n:Now a.prog f i) :
    (opDo { a with permit:={ a.permit with fuel:=a.permit.fuel - 1 } } s fs { f with at_:=f.at_+1 } i).2.kind=0→∃ gs g,Live (opDo { a with permit:={ a.permit with fuel:=a.permit.fuel - 1 } } s fs { f with at_:=f.at_+1 } i).1 gs g:=by
  obtain ⟨o1,o2,o3,o4⟩:=numbers_ok n.num
  have ok:=l.ok f (by simp)
  have sv:=ok.sv
  have vv:=ok.vv
  have b1:=l.fuel
  have b2:=l.room
  have b3:=l.hops
  have b4:=l.hlen
  have nx:=n.go
  have pops:=n.pops
  obtain ⟨fn,at_,vars,stack⟩:=f
  obtain ⟨op,ia,ib⟩:=i
  simp only at *
  have hop:op=1∨op=2∨op=3∨op=4∨op=5∨op=6∨op=7∨op=8∨op=9∨op=10∨op=11∨op=12∨op=13∨op=14∨op=15∨op=16∨op=17∨op=18∨op=19:=by omega
  have lowok:∀ k,∀ v∈low k stack,WrongOk v a.heap.length:=fun k v hv=>sv v (low_mem hv)
  have snoc:∀ (st:List Val) (v:Val) (N:Nat),a.heap.length≤N→(∀ x∈st,WrongOk x a.heap.length)→WrongOk v N→∀ x∈st ++ [v],WrongOk x N:=fun st v N hN h1 h2 x hx=>by
    rcases List.mem_append.1 hx with h | h
    · exact (h1 x h).mono (by omega)
    · simp at h; rw [h]; exact h2
  have gen:∀ {st vs:List Val} {z k:Int} {h:List Cl} {m:Pmt},there (hts a.prog ⟨fn,at_,vars,stack⟩) (k,z)→(st.length:Int)=z→vs.length=vars.length→(∀ v∈vs,WrongOk v h.length)→(∀ v∈st,WrongOk v h.length) →
      a.heap.length≤h.length→(∀ c∈h,WrongOk c.left h.length∧WrongOk c.right h.length)→(0≤m.fuel∧m.fuel≤2000)→0≤m.room→(0≤m.hops∧m.hops≤12)→((h.length:Int)+m.room≤60) →
      ∃ gs g,Live { a with frames:=fs ++ [⟨fn,k,vs,st⟩],heap:=h,permit:=m } gs g:=fun h1 hz h2 h3 h4 h5 h6 h7 h8 h9 h10 =>
    ⟨fs,_,l.on (by rw [hz]; exact h1) h2 h3 h4 h5 h6 h7 h8 h9 h10⟩
  have same:∀ {st vs:List Val} {z k:Int},there (hts a.prog ⟨fn,at_,vars,stack⟩) (k,z)→(st.length:Int)=z→vs.length=vars.length→(∀ v∈vs,WrongOk v a.heap.length)→(∀ v∈st,WrongOk v a.heap.length) →
      ∃ gs g,Live { a with frames:=fs ++ [⟨fn,k,vs,st⟩],heap:=a.heap,permit:={ a.permit with fuel:=a.permit.fuel - 1 } } gs g:=fun h1 hz h2 h3 h4 =>
    gen h1 hz h2 h3 h4 (Nat.le_refl _) l.cells (by simp only; omega) b2 b3 b4
  have top1ok:1≤stack.length→WrongOk (top1 stack) a.heap.length:=fun h=>sv _ (top1_mem h)
  have top2ok:2≤stack.length→WrongOk (top2 stack) a.heap.length:=fun h=>sv _ (top2_mem h)
  have cellok:∀ v:Val,WrongOk v a.heap.length→v.kind=2→v.n.toNat < a.heap.length:=fun v h k=>by have:=h.cell k; omega
  have cellin:∀ v:Val,WrongOk v a.heap.length→v.kind=2→WrongOk (a.heap.getD v.n.toNat cl0).left a.heap.length∧WrongOk (a.heap.getD v.n.toNat cl0).right a.heap.length:=fun v h k=>l.cells _ (getD_mem (cellok v h k))
  have ll:∀ k,(low k stack).length=stack.length - k:=fun k=>low_len k stack
  rcases hop with rfl | rfl | rfl | rfl | rfl | rfl | rfl | rfl | rfl | rfl | rfl | rfl | rfl | rfl | rfl | rfl | rfl | rfl | rfl
  · -- a number
    rw [opDo_1]
    intro _
    have hn : -1073741824≤ia∧ia≤1073741824:=by unfold numOk at o3; simpa using o3
    exact same (nx (by omega) (by omega)) (by simp [after,effect]) rfl vv (snoc _ _ _ (Nat.le_refl _) sv (num_ok hn _))
  · -- a text
    rw [opDo_2]
    intro _
    exact same (nx (by omega) (by omega)) (by simp [after,effect]) rfl vv (snoc _ _ _ (Nat.le_refl _) sv (text_ok _ _))
  · -- a variable
    rw [opDo_3]
    intro _
    have hv:=ok.vars
    have hn:0≤ia∧ia < (codeAt a.prog fn).vars:=by unfold numOk isIn at o3; simpa using o3
    exact same (nx (by omega) (by omega)) (by simp [after,effect]) rfl vv (snoc _ _ _ (Nat.le_refl _) sv (vv _ (getD_mem (by simp only at hv; omega))))
  · -- a variable is set
    rw [opDo_4]
    have hp:1≤stack.length:=by simp [effect] at pops; omega
    intro _
    exact same (nx (by omega) (by omega)) (by simp [after,effect,ll]; omega) (by simp) (fun v hv=>by
      rcases List.mem_or_eq_of_mem_set hv with h | h
      · exact vv v h
      · rw [h]; exact top1ok hp) (lowok 1)
  · -- an operation
    rw [opDo_5]
    have hp:2≤stack.length:=by simp [effect] at pops; omega
    by_cases ht:(two ia (top2 stack) (top1 stack)).2=0
    · rw [if_pos ht]
      intro _
      exact same (nx (by omega) (by omega)) (by simp [after,effect,ll]; omega) rfl vv (snoc _ _ _ (Nat.le_refl _) (lowok 2) (two_ok _ _ _ _))
    · rw [if_neg ht]; intro h; exact absurd h (by simp [dead])
  · -- a cell
    rw [opDo_6]
    have hp:2≤stack.length:=by simp [effect] at pops; omega
    by_cases hr:a.permit.room=0
    · rw [if_pos hr]; intro h; exact absurd h (by simp [dead])
    · rw [if_neg hr]
      intro _
      refine gen (h:=a.heap ++ [⟨top2 stack,top1 stack⟩]) (m:=⟨a.permit.fuel - 1,a.permit.room - 1,a.permit.hops⟩) (nx (by omega) (by omega)) (by simp [after,effect,ll]; omega) rfl (fun v hv=>(vv v hv).mono (by simp; omega)) (snoc _ _ _ (by simp) (lowok 2) ?_) (by simp) (fun c hc => ?_) (by simp only; omega) (by simp only; omega) b3 (by simp; omega)
      · exact ⟨.inr (.inr rfl),fun h=>by simp at h,by simp,fun _=>by simp; omega,fun h=>by simp at h,fun _=>rfl⟩
      · rcases List.mem_append.1 hc with h | h
        · obtain ⟨w1,w2⟩:=l.cells c h
          exact ⟨w1.mono (by simp; omega),w2.mono (by simp; omega)⟩
        · simp at h; subst h
          exact ⟨(top2ok hp).mono (by simp; omega),(top1ok (by omega)).mono (by simp; omega)⟩
  · -- a left part
    rw [opDo_7]
    have hp:1≤stack.length:=by simp [effect] at pops; omega
    by_cases hk:(top1 stack).kind=2
    · rw [if_neg (by simpa using hk)]
      intro _
      exact same (nx (by omega) (by omega)) (by simp [after,effect,ll]; omega) rfl vv (snoc _ _ _ (Nat.le_refl _) (lowok 1) (cellin _ (top1ok hp) hk).1)
    · rw [if_pos (by simpa using hk)]; intro h; exact absurd h (by simp [dead])
  · -- a right part
    rw [opDo_8]
    have hp:1≤stack.length:=by simp [effect] at pops; omega
    by_cases hk:(top1 stack).kind=2
    · rw [if_neg (by simpa using hk)]
      intro _
      exact same (nx (by omega) (by omega)) (by simp [after,effect,ll]; omega) rfl vv (snoc _ _ _ (Nat.le_refl _) (lowok 1) (cellin _ (top1ok hp) hk).2)
    · rw [if_pos (by simpa using hk)]; intro h; exact absurd h (by simp [dead])
  · -- a left part is set
    rw [opDo_9]
    have hp:2≤stack.length:=by simp [effect] at pops; omega
    by_cases hk:(top2 stack).kind=2
    · rw [if_neg (by simpa using hk)]
      intro _
      refine gen (h:=a.heap.set (top2 stack).n.toNat { a.heap.getD (top2 stack).n.toNat cl0 with left:=top1 stack }) (nx (by omega) (by omega)) (by simp [after,effect,ll]; omega) rfl (by simpa using vv) (by simpa using lowok 2) (by simp) (fun c hc => ?_) (by simp only; omega) b2 b3 (by simpa using b4)
      rw [List.length_set]
      rcases List.mem_or_eq_of_mem_set hc with h | h
      · exact l.cells c h
      · rw [h]; exact ⟨top1ok (by omega),(cellin _ (top2ok hp) hk).2⟩
    · rw [if_pos (by simpa using hk)]; intro h; exact absurd h (by simp [dead])
  · -- a right part is set
    rw [opDo_10]
    have hp:2≤stack.length:=by simp [effect] at pops; omega
    by_cases hk:(top2 stack).kind=2
    · rw [if_neg (by simpa using hk)]
      intro _
      refine gen (h:=a.heap.set (top2 stack).n.toNat { a.heap.getD (top2 stack).n.toNat cl0 with right:=top1 stack }) (nx (by omega) (by omega)) (by simp [after,effect,ll]; omega) rfl (by simpa using vv) (by simpa using lowok 2) (by simp) (fun c hc => ?_) (by simp only; omega) b2 b3 (by simpa using b4)
      rw [List.length_set]
      rcases List.mem_or_eq_of_mem_set hc with h | h
      · exact l.cells c h
      · rw [h]; exact ⟨(cellin _ (top2ok hp) hk).1,top1ok (by omega)⟩
    · rw [if_pos (by simpa using hk)]; intro h; exact absurd h (by simp [dead])
  · -- the place is asked
    rw [opDo_11]
    have hp:1≤stack.length:=by simp [effect] at pops; omega
    by_cases hk:(top1 stack).kind=1
    · rw [if_neg (by simpa using hk)]
      intro _
      exact same (nx (by omega) (by omega)) (by simp [after,effect,ll]; omega) rfl vv (snoc _ _ _ (Nat.le_refl _) (lowok 1) (ask_ok hs _ _))
    · rw [if_pos (by simpa using hk)]; intro h; exact absurd h (by simp [dead])
  · -- the place's name
    rw [opDo_12]
    intro _
    exact same (nx (by omega) (by omega)) (by simp [after,effect]) rfl vv (snoc _ _ _ (Nat.le_refl _) sv (text_ok _ _))
  · -- setting out
    rw [opDo_13]
    have hp:1≤stack.length:=by simp [effect] at pops; omega
    by_cases hk:(top1 stack).kind=1
    · rw [if_neg (by simpa using hk)]
      by_cases hh:a.permit.hops=0
      · rw [if_pos hh]
        intro _
        exact same (nx (by omega) (by omega)) (by simp [after,effect,ll]; omega) rfl vv (snoc _ _ _ (Nat.le_refl _) (lowok 1) (zero_ok _))
      · rw [if_neg hh]; intro h; exact absurd h (by simp)
    · rw [if_pos (by simpa using hk)]; intro h; exact absurd h (by simp [dead])
  · -- something is said
    rw [opDo_14]
    intro h; exact absurd h (by simp)
  · -- a jump
    rw [opDo_15]
    intro _
    exact same (n.jump (.inl rfl)) (by simp [after,effect]) rfl vv sv
  · -- a branch
    rw [opDo_16]
    have hp:1≤stack.length:=by simp [effect] at pops; omega
    intro _
    by_cases hz:(top1 stack).kind=0∧(top1 stack).n=0
    · rw [if_pos hz]
      exact same (n.jump (.inr rfl)) (by simp [after,effect,ll]; omega) rfl vv (lowok 1)
    · rw [if_neg hz]
      exact same (nx (by omega) (by omega)) (by simp [after,effect,ll]; omega) rfl vv (lowok 1)
  · -- a call
    rw [opDo_17]
    by_cases hd:12≤fs.length+1
    · rw [if_pos hd]; intro h; exact absurd h (by simp [dead])
    rw [if_neg hd]
    intro _
    have hn:(0≤ia∧ia < a.prog.codes.length)∧some ib=(a.prog.codes[ia.toNat]?).map (·.params):=by unfold numOk isIn at o3; simpa using o3
    obtain ⟨⟨h0,h1⟩,h2⟩:=hn
    have hlt:ia.toNat < a.prog.codes.length:=by omega
    have hcm:=code_mem (p:=a.prog) (n:=ia) hlt
    have hpar:(codeAt a.prog ia).params=ib:=by
      unfold codeAt
      rw [List.getD_eq_getElem?_getD]
      rw [List.getElem?_eq_getElem hlt] at h2 ⊢
      simp at h2; simp [h2]
    obtain ⟨pr,_⟩:=zad l.prog
    obtain ⟨crange,calm,hz⟩:=pr _ hcm
    have hk:=heights_ok calm hz
    unfold codeRange at crange
    rw [decide_eq_false_iff_not,hpar] at crange
    simp [effect] at pops
    have nxt:=nx (by omega) (by omega)
    have eaf:after ⟨17,ia,ib⟩ stack.length=stack.length+1 - ib:=by simp [after,effect]
    rw [eaf] at nxt
    obtain ⟨nx0,nx1⟩:=nxt
    have klt:=(List.getElem?_eq_some_iff.1 nx1).1
    rw [hts_len l.prog ok.code] at klt
    have ok0:=ok.at0
    have okc:=ok.code
    have okf:=ok.fn0
    have okv:=ok.vars
    simp only at nx0 nx1 klt ok0 okc okf okv
    have hat:(at_+1).toNat - 1=at_.toNat:=by omega
    have hins:(codeAt a.prog fn).ins[at_.toNat]? = some ⟨17,ia,ib⟩:=n.at_
    have hst:(hts a.prog ⟨fn,at_,vars,stack⟩)[at_.toNat]? = some (stack.length:Int):=l.still
    have hhts:∀ (x:Int) (vs st:List Val),hts a.prog ⟨fn,x,vs,st⟩=hts a.prog ⟨fn,at_,vars,stack⟩:=fun _ _ _=>rfl
    have hwait:Waits a.prog ⟨fn,at_+1,vars,low ib.toNat stack⟩ ia:=by
      refine ⟨by simp only; omega,?_,?_,?_,?_⟩
      · simp only
        rw [hat,List.getD_eq_getElem?_getD,hins]; rfl
      · simp only
        rw [hat,List.getD_eq_getElem?_getD,hins]; rfl
      · simp only
        rw [hhts,hat,List.getD_eq_getElem?_getD,hst]
        simp
      · simp only
        rw [hhts,nx1,ll]
        congr 1
        omega
    have hstart:(heights (codeAt a.prog ia).ins).1[(0:Int).toNat]? = some 0:=hk.start.2
    simp only [toF]
    refine ⟨fs ++ [⟨fn,at_+1,vars,low ib.toNat stack⟩],⟨ia,0,stack.drop (stack.length - ib.toNat) ++ List.replicate ((codeAt a.prog ia).vars - ib).toNat vzero,[]⟩,rfl,l.prog,l.id,l.trip,by simp only; omega,b2,b3,by simp; omega,b4,fun g hg => ?_,WChain.snoc fs ⟨fn,at_+1,vars,low ib.toNat stack⟩ ia l.chain hwait,hstart,l.cells⟩
    · rcases List.mem_append.1 hg with hg | hg
      · rcases List.mem_append.1 hg with hg | hg
        · exact l.ok g (by simp [hg])
        · simp at hg; subst hg
          exact ⟨okf,nx0,okc,klt,okv,vv,lowok _⟩
      · simp at hg; subst hg
        refine ⟨h0,by simp,hlt,by simp only; omega,?_,fun v hv => ?_,by simp⟩
        · simp only [List.length_append,List.length_drop,List.length_replicate]; omega
        · rcases List.mem_append.1 hv with h | h
          · exact sv v (List.mem_of_mem_drop h)
          · rw [List.eq_of_mem_replicate h]; exact zero_ok _
  · -- coming back
    rw [opDo_18]
    have hp:1≤stack.length:=by simp [effect] at pops; omega
    cases hg:fs.getLast? with
    | none=>intro h; exact absurd h (by simp)
    | some g =>
      intro _
      obtain ⟨gs,rfl⟩:=List.getLast?_eq_some_iff.1 hg
      obtain ⟨c1,c2⟩:=l.chain.last
      have okg:=l.ok g (by simp)
      refine ⟨gs,{ g with stack:=g.stack ++ [top1 stack] },?_,l.prog,l.id,l.trip,by simp only [push,toF]; omega,b2,b3,by have:=l.flen; simp at this; omega,b4,fun x hx => ?_,c1,?_,l.cells⟩
      · simp [push,toF]
      · rcases List.mem_append.1 hx with h | h
        · exact l.ok x (by simp [h])
        · simp at h; subst h
          exact ⟨okg.fn0,okg.at0,okg.code,okg.ins,okg.vars,okg.vv,snoc _ _ _ (Nat.le_refl _) okg.sv (top1ok hp)⟩
      · have h1:(hts a.prog g)[g.at_.toNat]? = some ((g.stack.length:Int)+1):=c2.hei
        show (hts a.prog g)[g.at_.toNat]? = some (((g.stack ++ [top1 stack]).length:Nat):Int)
        rw [h1]; simp
  · -- nothing of it
    rw [opDo_19]
    have hp:1≤stack.length:=by simp [effect] at pops; omega
    intro _
    exact same (nx (by omega) (by omega)) (by simp [after,effect,ll]; omega) rfl vv (lowok 1)
theorem step_live {a:Agt} {fs:List Frm} {f:Frm} {s:Spt} (l:Live a fs f) (hs:∀ x∈s.facts,WrongOk x.val (0:Int)) (h:(step a s).2.kind=0):∃ gs g,Live (step a s).1 gs g:=by
  unfold step at h ⊢
  by_cases hf:a.permit.fuel=0
  · rw [if_pos hf] at h; exact absurd h (by simp [dead])
  rw [if_neg hf] at h ⊢
  have e1:a.frames.getLast? = some f:=by rw [l.fr]; simp
  have e2:a.frames.dropLast=fs:=by rw [l.fr]; simp
  rw [e1] at h ⊢
  simp only [e2] at h ⊢
  exact opDo_live l hf hs l.now h
end VM
end Go.Proofs.YtdmibdjokofclaaDoor
