/- The document's Make: statements of one instruction. The document's Make: if. The document's Make: while. The document's Make: blocks. code: put, and the find of a function. code: expressions. code: statements. code: statements, and blocks. code: Make. -/
import Derived.Test.YtpllgpgdcbgalaaDoorG11
set_option linter.unusedSimpArgs false
set_option linter.unusedVariables false
set_option maxRecDepth 8000
namespace Go.Proofs.YtpllgpgdcbgalaaDoor
open Go Go.RowKit
theorem zqk (t:Str) (v:Nat):∀ l:List (Str×Nat),(l.map (·.1)).Nodup→∃ r,zah (.str t) (zal l)=some r∧∃ l',(match r with | some (i,_)=>(zal l).set i (.str t,.int .i64 v) | none=>zal l ++ [(.str t,.int .i64 v)])=zal l'∧(l'.map (·.1)).Nodup∧(∀ u,l'.lookup u=if u=t then some v else l.lookup u)∧∀ u∈l'.map (·.1),u=t∨u∈l.map (·.1)
  | [], _=>⟨none,rfl,[(t,v)],rfl,by simp,fun u=>by
      rw [List.lookup_cons]
      by_cases e:u=t
      · simp [e]
      · have hb:(u == t)=false:=by simpa using e
        simp [hb,e],by simp⟩
  | (w, n) :: r,hn=>by
    rw [List.map_cons,List.nodup_cons] at hn
    have hc:zal ((w,n) :: r)=(.str w,.int .i64 n) :: zal r:=rfl
    rw [hc,zoi]
    by_cases h:t=w
    · subst h
      refine ⟨some (0,.int .i64 n),by simp,(t,v) :: r,rfl,by simpa using hn,fun u => ?_,fun u hu => ?_⟩
      · rw [List.lookup_cons,List.lookup_cons]
        by_cases e:u=t
        · simp [e]
        · have hb:(u == t)=false:=by simpa using e
          simp [hb,e]
      · simp only [List.map_cons,List.mem_cons] at hu ⊢
        exact .inr hu
    · obtain ⟨q,h1,l',h2,h3,h4,h5⟩:=zqk t v r hn.2
      have key:∀ u,((w,n) :: l').lookup u=if u=t then some v else ((w,n) :: r).lookup u:=fun u=>by
        rw [List.lookup_cons,List.lookup_cons]
        by_cases e:u=w
        · subst e
          have:¬ u=t:=fun e=>h e.symm
          simp [this]
        · have hb:(u == w)=false:=by simpa using e
          rw [hb]
          exact h4 u
      have key2:(((w,n) :: l').map (·.1)).Nodup:=by
        rw [List.map_cons,List.nodup_cons]
        exact ⟨fun hm=>(h5 _ hm).elim (fun e=>h e.symm) hn.1,h3⟩
      have key3:∀ u∈((w,n) :: l').map (·.1),u=t∨u∈((w,n) :: r).map (·.1):=fun u hu=>by
        simp only [List.map_cons,List.mem_cons] at hu ⊢
        rcases hu with rfl | hu
        · exact .inr (.inl rfl)
        · exact (h5 u hu).imp id .inr
      rw [if_neg h,h1]
      cases q with
      | none =>
        simp only at h2
        exact ⟨none,rfl,(w,n) :: l',by simp only [List.cons_append]; rw [h2]; rfl,key2,key,key3⟩
      | some p =>
        obtain ⟨p,pv⟩:=p
        simp only at h2
        exact ⟨some (p+1,pv),rfl,(w,n) :: l',by simp only [List.set_cons_succ]; rw [h2]; rfl,key2,key,key3⟩
section
variable {gk go gm m0 gs ga:Nat} {fns:List Fnc} {env:VM.Env} {ws0:List Str} {A0:AV} {H0:Heap} {out args:List Ins} {x:Sm} {ws:List Str} {vars:Nat} {A B Ba:AV} {H:Heap} {m:Nat}
theorem SmS.lets (h:SmS gk go gm m0 gs ga fns env ws0 A0 H0 out args x ws vars A B Ba H m) {nm:Str} {l:List (Str×Nat)} (h3:(l.map (·.1)).Nodup) (h4:∀ t,(l.lookup t).getD 0=VM.look ((nm,vars) :: env) t) :
    SmS gk go gm m0 gs ga fns ((nm,vars) :: env) ws0 A0 H0 out args x ws (vars+1) A B Ba ((H.put gm (some (.mp (zal l)))).put gk (some (.row 3 [.ro (fns.map Fnc.avs),A,.int .i64 ((vars+1:Nat):Int)]))) m:=by
  have hlo:=h.st.lo
  have hlg:=h.st.lg
  have alg:=h.ar.lg
  have hsl:=h.sl
  have hAo:=h.st.ed.rm.own
  have hBo:=h.st.rb.bo
  have hao:=h.ar.rb.bo
  have hgm:=h.st.ed.no
  have hgn:=h.st.ed.rm.gn
  have hnk:=h.st.ed.nk
  have k1:∀ y,y ≠ gk→y ≠ gm→((H.put gm (some (.mp (zal l)))).put gk (some (.row 3 [.ro (fns.map Fnc.avs),A,.int .i64 ((vars+1:Nat):Int)]))) y=H y:=fun y a b=>by rw [Heap.put_ne _ _ a,Heap.put_ne _ _ b]
  have r:RMk gk fns ws (vars+1) A ((H.put gm (some (.mp (zal l)))).put gk (some (.row 3 [.ro (fns.map Fnc.avs),A,.int .i64 ((vars+1:Nat):Int)]))) m:=⟨Heap.put_at _ _ _,h.st.ed.rm.wr.keepO (Nat.le_refl _) fun y hy=>k1 y (by have:=hAo y hy; omega) fun e=>hgm (e ▸ hy),hgn⟩
  have e:RX gk ws A H m0 ws A ((H.put gm (some (.mp (zal l)))).put gk (some (.row 3 [.ro (fns.map Fnc.avs),A,.int .i64 ((vars+1:Nat):Int)]))) m:=⟨h.st.rx.le,fun y hy hn _=>k1 y hn (by omega),.inl ⟨rfl,rfl,fun y hy=>k1 y (by have:=hAo y hy; omega) fun e=>hgm (e ▸ hy)⟩⟩
  exact ⟨⟨⟨r,⟨l,by rw [Heap.put_ne _ _ hnk,Heap.put_at],h3,h4⟩,h.st.ed.lt,hnk,hgm⟩,h.st.rx.trans e,by rw [k1 go (by omega) h.st.ne]; exact h.st.oc,h.st.rb.keepO (Nat.le_refl _) fun y hy=>k1 y (by have:=hBo y hy; omega) fun e=>h.st.nb.2 (e ▸ hy),h.st.ab,h.st.nb,hlo,hlg,h.st.ne,h.st.gA⟩,
    ⟨by rw [k1 ga (by omega) h.ar.ne.2]; exact h.ar.oc,h.ar.rb.keepO (Nat.le_refl _) fun y hy=>k1 y (by have:=hao y hy; omega) fun e=>h.ar.nb.2.2 (e ▸ hy),h.ar.aA,h.ar.nb,alg,h.ar.ne,h.ar.gA⟩,by rw [k1 gs (by omega) h.sn.2.1]; exact h.sc,hsl,h.sA,h.sn⟩
theorem zrr {op a:Int} {L len A1 A2 A3:AV} {i:Nat} {K:J3} (p:SmS gk go gm m0 gs ga fns env ws0 A0 H0 out args x ws vars A B Ba H m) (hi:i < 4294967296) (ho:out.length+args.length+1≤4294967296) (hj:∀ i∈args,i.op ≠ 15∧i.op ≠ 16) (hop:op ≠ 15∧op ≠ 16)
    (hq:∀ B' H' m',StS gk go gm m0 fns env ws0 A0 H0 (zaa out (args ++ [⟨op,a,0⟩])) ws vars A B' H' m'→K [.ptr gk 0,.ptr go 0,.amap gm,L,len,.int .i64 ((i+1:Nat):Int)] H' m') :
    za Tryd.prog 58 [.int .i64 op,.int .i64 a,.ptr go 0,.ptr ga 0] H m (zbc [.ptr gk 0,.ptr go 0,.amap gm,.ptr gs 0,.ptr ga 0,L,len,.int .i64 i,A1,A2,A3] K):=by
  have hwi:IntKind.i64.wrap ((i:Int)+1)=((i+1:Nat):Int):=by rw [i64w (by omega)]; omega
  refine zaej p.st p.ar ho (fun q hq h => ?_) fun B' H' m' st _ _ => ?_
  · rcases List.mem_append.1 hq with hq | hq
    · have:=hj q hq; omega
    · simp at hq; subst hq; simp only at h; omega
  · simp only [zbc,zwr,zwq,zwp,zafb,zafa,zaez,zaer,hwi]
    exact hq B' H' m' st
end
set_option maxHeartbeats 4000000 in
theorem zwi {gk go gm m0 gs ga:Nat} {fns:List Fnc} {env:VM.Env} {ws0:List Str} {A0:AV} {H0:Heap} {out:List Ins} {k:Int} {nm:Str} {ar:List Ex} {t e:List Sm} {ws:List Str} {vars i:Nat} {A B Ba:AV} {H:Heap} {m:Nat} {L len:AV} {K K2:J3} (s:VM.MkS) (hs:s.2=vars) (hws:(VM.exIL (fns.map fun f:Fnc=>f.name) env ar s.1).1=ws)
    (p:SmS gk go gm m0 gs ga fns env ws0 A0 H0 out (VM.exIL (fns.map fun f:Fnc=>f.name) env ar s.1).2 (.mk k nm ar t e) ws vars A B Ba H m) (hi:i < 4294967296) (ho:out.length+(VM.exIL (fns.map fun f:Fnc=>f.name) env ar s.1).2.length+1≤4294967296) (hv:vars < 4294967296) (hk:k=1∨k=2∨(5≤k∧k≤9))
    (hq:∀ A' B' H' m',StS gk go gm m0 fns (VM.stI (fns.map fun f:Fnc=>f.name) env 0 (.mk k nm ar t e) s).2.1 ws0 A0 H0 (zaa out (VM.stI (fns.map fun f:Fnc=>f.name) env 0 (.mk k nm ar t e) s).2.2) (VM.stI (fns.map fun f:Fnc=>f.name) env 0 (.mk k nm ar t e) s).1.1 (VM.stI (fns.map fun f:Fnc=>f.name) env 0 (.mk k nm ar t e) s).1.2 A' B' H' m'→K [.ptr gk 0,.ptr go 0,.amap gm,L,len,.int .i64 ((i+1:Nat):Int)] H' m') :
    zf K K2 [.ptr gk 0,.ptr go 0,.amap gm,.ptr gs 0,.ptr ga 0,L,len,.int .i64 i,.ro (ar.map Ex.avs),.int .i64 ar.length,.int .i64 ar.length] H m:=by
  have hno:=VM.exIL_no (fns.map fun f:Fnc=>f.name) env ar s.1
  have sc:=p.sc
  rw [zay] at sc
  generalize hnm:(fns.map fun f:Fnc=>f.name)=names at *
  generalize hO:(VM.exIL names env ar s.1).2=O at *
  have row:=p.st.ed.rm.row
  obtain ⟨l,me⟩:=p.st.ed.me
  have nkm:¬ gk=gm:=fun e=>p.st.ed.nk e.symm
  have nmk:¬ gm=gk:=p.st.ed.nk
  have nsk:¬ gs=gk:=by have:=p.st.lo; have:=p.sl; omega
  have nsm:¬ gs=gm:=p.sn.2.1
  by_cases k1:k=1
  · subst k1
    obtain ⟨r,f1,l',h2,h3,h4,_⟩:=zqk nm vars l me.nd
    have h4':∀ t,(l'.lookup t).getD 0=VM.look ((nm,vars) :: env) t:=fun t=>by
      rw [h4 t]
      unfold VM.look
      rw [List.lookup_cons]
      by_cases e:t=nm
      · simp [e]
      · have hb:(t == nm)=false:=by simpa using e
        rw [hb,if_neg e]
        exact me.look t
    have e1:VM.stI names env 0 (.mk 1 nm ar t e) s=((ws,vars+1),(nm,vars) :: env,O ++ [⟨4,(vars:Nat),0⟩]):=by unfold VM.stI; simp [hO,hws,hs]
    rw [e1] at hq
    have pl:=p.lets h3 h4'
    have fin:=zrr (op:=4) (a:=(vars:Nat)) (L:=L) (len:=len) (A1:=.ro (ar.map Ex.avs)) (A2:=.int .i64 ar.length) (A3:=.int .i64 ar.length) (K:=K) pl hi ho hno (by omega) (hq A)
    have me':MapE ((H.put gm (some (.mp (zal l')))).put gk (some (.row 3 [.ro (fns.map Fnc.avs),A,.int .i64 ((vars+1:Nat):Int)]))) gm l' ((nm,vars) :: env):=⟨by rw [Heap.put_ne _ _ nmk,Heap.put_at],h3,h4'⟩
    obtain ⟨r2,g1,g2⟩:=me'.find nm
    have hl:VM.look ((nm,vars) :: env) nm=vars:=by unfold VM.look; simp
    rw [hl] at g2
    have hwv:IntKind.i64.wrap ((vars:Int)+1)=(vars:Int)+1:=i64w (by omega)
    have e2:((vars+1:Nat):Int)=(vars:Int)+1:=by omega
    rw [e2] at fin
    cases r with
    | none =>
      simp only at h2
      cases r2 with
      | none =>
        simp only at g2
        rw [← g2] at fin
        simp [zf,sc,me.at_,f1,row,nkm,nmk,nsk,nsm,h2,g1,hwv]
        exact fin
      | some v2 =>
        simp only at g2
        simp [zf,sc,me.at_,f1,row,nkm,nmk,nsk,nsm,h2,g1,hwv,g2]
        exact fin
    | some v =>
      simp only at h2
      cases r2 with
      | none =>
        simp only at g2
        rw [← g2] at fin
        simp [zf,sc,me.at_,f1,row,nkm,nmk,nsk,nsm,h2,g1,hwv]
        exact fin
      | some v2 =>
        simp only at g2
        simp [zf,sc,me.at_,f1,row,nkm,nmk,nsk,nsm,h2,g1,hwv,g2]
        exact fin
  by_cases k2:k=2
  · subst k2
    obtain ⟨r,f1,f2⟩:=me.find nm
    have e1:VM.stI names env 0 (.mk 2 nm ar t e) s=((ws,vars),env,O ++ [⟨4,(VM.look env nm:Nat),0⟩]):=by unfold VM.stI; simp [hO,hws,hs]
    rw [e1] at hq
    have fin:=zrr (op:=4) (a:=(VM.look env nm:Nat)) (L:=L) (len:=len) (A1:=.ro (ar.map Ex.avs)) (A2:=.int .i64 ar.length) (A3:=.int .i64 ar.length) (K:=K) p hi ho hno (by omega) (hq A)
    rw [← f2] at fin
    cases r with
    | none =>
      simp [zf,sc,me.at_,f1]
      exact fin
    | some v =>
      simp [zf,sc,me.at_,f1]
      exact fin
  have hk5:k=5∨k=6∨k=7∨k=8∨k=9:=by omega
  have new:∀ (o:AObj) (op:Int),VM.opS k=[⟨op,0,0⟩]→(op ≠ 15∧op ≠ 16)→za Tryd.prog 58 [.int .i64 op,.int .i64 0,.ptr go 0,.ptr ga 0] (H.put m (some o)) (m+1) (zbc [.ptr gk 0,.ptr go 0,.amap gm,.ptr gs 0,.ptr ga 0,L,len,.int .i64 i,.ro (ar.map Ex.avs),.int .i64 ar.length,.int .i64 ar.length] K):=fun o op hop hn=>by
    have p1:=p.new (H':=H.put m (some o)) (m':=m+1) (by omega) fun y hy=>Heap.put_ne _ _ (by omega)
    have e1:VM.stI names env 0 (.mk k nm ar t e) s=((ws,vars),env,O ++ [⟨op,0,0⟩]):=by
      unfold VM.stI
      simp only [hO,hws,hs]
      rw [if_neg k1,if_neg k2,if_neg (by omega),if_neg (by omega),hop]
    rw [e1] at hq
    exact zrr p1 hi ho hno hn (hq A)
  have nsm1:¬ gs=m:=by have:=p.sl; omega
  rcases hk5 with rfl | rfl | rfl | rfl | rfl
  · have:=new (.mp [(.int .i64 5,.int .i64 14),(.int .i64 6,.int .i64 18),(.int .i64 7,.int .i64 9),(.int .i64 8,.int .i64 10),(.int .i64 9,.int .i64 19)]) 14 (by simp [VM.opS]) (by omega)
    simp [zf,sc,nsm1]
    exact this
  · have:=new (.mp [(.int .i64 5,.int .i64 14),(.int .i64 6,.int .i64 18),(.int .i64 7,.int .i64 9),(.int .i64 8,.int .i64 10),(.int .i64 9,.int .i64 19)]) 18 (by simp [VM.opS]) (by omega)
    simp [zf,sc,nsm1]
    exact this
  · have:=new (.mp [(.int .i64 5,.int .i64 14),(.int .i64 6,.int .i64 18),(.int .i64 7,.int .i64 9),(.int .i64 8,.int .i64 10),(.int .i64 9,.int .i64 19)]) 9 (by simp [VM.opS]) (by omega)
    simp [zf,sc,nsm1]
    exact this
  · have:=new (.mp [(.int .i64 5,.int .i64 14),(.int .i64 6,.int .i64 18),(.int .i64 7,.int .i64 9),(.int .i64 8,.int .i64 10),(.int .i64 9,.int .i64 19)]) 10 (by simp [VM.opS]) (by omega)
    simp [zf,sc,nsm1]
    exact this
  · have:=new (.mp [(.int .i64 5,.int .i64 14),(.int .i64 6,.int .i64 18),(.int .i64 7,.int .i64 9),(.int .i64 8,.int .i64 10),(.int .i64 9,.int .i64 19)]) 19 (by simp [VM.opS]) (by omega)
    simp [zf,sc,nsm1]
    exact this
end Go.Proofs.YtpllgpgdcbgalaaDoor
set_option maxRecDepth 8000
namespace Go.Proofs.YtpllgpgdcbgalaaDoor
open Go Go.RowKit
def ifP (a T E:List Ins):List Ins:=zaa (zaa (a ++ [⟨16,((a.length+T.length+2:Nat):Int),0⟩]) T ++ [⟨15,((a.length+T.length+2+E.length:Nat):Int),0⟩]) E
def whP (a T:List Ins):List Ins:=zaa (a ++ [⟨16,((a.length+T.length+2:Nat):Int),0⟩]) T ++ [⟨15,0,0⟩]
theorem zaed (names:List Str) (env:VM.Env) (nm:Str) (ar:List Ex) (t e:List Sm) (s:VM.MkS) :
    VM.stI names env 0 (.mk 3 nm ar t e) s=((VM.stIL names env 0 e (VM.stIL names env 0 t ((VM.exIL names env ar s.1).1,s.2)).1).1,env,ifP (VM.exIL names env ar s.1).2 (VM.stIL names env 0 t ((VM.exIL names env ar s.1).1,s.2)).2 (VM.stIL names env 0 e (VM.stIL names env 0 t ((VM.exIL names env ar s.1).1,s.2)).1).2):=by
  unfold VM.stI
  simp only
  generalize VM.exIL names env ar s.1=a
  have h1:=VM.stIL_sh names (a.2.length+1) t env 0 (a.1,s.2)
  rw [show 0+(a.2.length+1)=0+a.2.length+1 by omega] at h1
  rw [h1]
  generalize VM.stIL names env 0 t (a.1,s.2)=T
  simp only [List.length_map]
  have h2:=VM.stIL_sh names (a.2.length+1+T.2.length+1) e env 0 T.1
  rw [show 0+(a.2.length+1+T.2.length+1)=0+a.2.length+1+T.2.length+1 by omega] at h2
  rw [h2]
  generalize VM.stIL names env 0 e T.1=E
  simp only [List.length_map]
  rw [if_neg (by decide),if_neg (by decide),if_pos (by trivial)]
  unfold ifP zaa
  simp
  refine ⟨by omega,?_⟩
  intro a_1 _
  rw [show a.2.length+(T.2.length+1+1)=a.2.length+1+T.2.length+1 by omega]
theorem zaec (names:List Str) (env:VM.Env) (nm:Str) (ar:List Ex) (t e:List Sm) (s:VM.MkS) :
    VM.stI names env 0 (.mk 4 nm ar t e) s=((VM.stIL names env 0 t ((VM.exIL names env ar s.1).1,s.2)).1,env,whP (VM.exIL names env ar s.1).2 (VM.stIL names env 0 t ((VM.exIL names env ar s.1).1,s.2)).2):=by
  unfold VM.stI
  simp only
  generalize VM.exIL names env ar s.1=a
  have h1:=VM.stIL_sh names (a.2.length+1) t env 0 (a.1,s.2)
  rw [show 0+(a.2.length+1)=0+a.2.length+1 by omega] at h1
  rw [h1]
  generalize VM.stIL names env 0 t (a.1,s.2)=T
  simp only [List.length_map]
  rw [if_neg (by decide),if_neg (by decide),if_neg (by decide),if_pos (by trivial)]
  unfold whP zaa
  simp
  omega
def RBlk (gk:Nat) (fns:List Fnc) (l:List Sm):Prop:=∀ (ga:Nat) (env:VM.Env) (ws:List Str) (vars:Nat) (A:AV) (H:Heap) (m:Nat) (Q:QT),Ed gk ga fns env ws vars A H m→ws.length+VM.smWL l≤2147483648→vars+VM.smWL l≤2147483648 →
  (∀ A' H' m',RMk gk fns (VM.stIL (fns.map fun f:Fnc=>f.name) env 0 l (ws,vars)).1.1 (VM.stIL (fns.map fun f:Fnc=>f.name) env 0 l (ws,vars)).1.2 A' H' m'→RX gk ws A H m (VM.stIL (fns.map fun f:Fnc=>f.name) env 0 l (ws,vars)).1.1 A' H' m'→Q (.ro ((VM.stIL (fns.map fun f:Fnc=>f.name) env 0 l (ws,vars)).2.map Ins.avs)) H' m') →
  za Tryd.prog 39 [.ptr gk 0,.ro (l.map Sm.avs),.amap ga] H m Q
theorem zrq {n N:Nat} {l:List Ins} (h:∀ i∈l,i.op=15∨i.op=16→0≤i.a∧i.a≤N):∀ i∈l.map (VM.shI n),i.op=15∨i.op=16→0≤i.a∧i.a≤((n+N:Nat):Int):=fun i hi ho=>by
  obtain ⟨j,hj,rfl⟩:=List.mem_map.1 hi
  unfold VM.shI at ho ⊢
  split at ho
  · rename_i h1
    rw [if_pos h1]
    have:=h j hj h1
    simp only
    omega
  · rename_i h1
    exact absurd ho h1
theorem zade {a T E:List Ins} (ha:∀ i∈a,i.op ≠ 15∧i.op ≠ 16) (hT:∀ i∈T,i.op=15∨i.op=16→0≤i.a∧i.a≤(T.length:Nat)) (hE:∀ i∈E,i.op=15∨i.op=16→0≤i.a∧i.a≤(E.length:Nat)):∀ i∈ifP a T E,i.op=15∨i.op=16→0≤i.a∧i.a≤((a.length+T.length+2+E.length:Nat):Int):=fun i hi ho=>by
  unfold ifP zaa at hi
  simp only [List.mem_append,List.mem_singleton] at hi
  rcases hi with (((hi | rfl) | hi) | rfl) | hi
  · have:=ha i hi; omega
  · simp only; omega
  · have:=zrq hT i hi ho; simp at this; omega
  · simp only; omega
  · have:=zrq hE i hi ho; simp at this; omega
theorem zacn {a T:List Ins} (ha:∀ i∈a,i.op ≠ 15∧i.op ≠ 16) (hT:∀ i∈T,i.op=15∨i.op=16→0≤i.a∧i.a≤(T.length:Nat)):∀ i∈whP a T,i.op=15∨i.op=16→0≤i.a∧i.a≤((a.length+T.length+2:Nat):Int):=fun i hi ho=>by
  unfold whP zaa at hi
  simp only [List.mem_append,List.mem_singleton] at hi
  rcases hi with ((hi | rfl) | hi) | rfl
  · have:=ha i hi; omega
  · simp only; omega
  · have:=zrq hT i hi ho; simp at this; omega
  · simp
    omega
theorem RowS.srcI {H:Heap} {lo hi:Nat} {l:List Ins} {X:AV} (h:RowS Ins.avs 3 H lo hi l X):∃ rd,(∀ y∈rd,y∈owns X)∧∀ H':Heap,(∀ y∈owns X,H' y=H y)→zh 3 H' X=Option.some (l.length,(l.map Ins.avs).flatten,rd):=by
  cases h with
  | nil=>exact ⟨[],by simp,fun _ _=>rfl⟩
  | @row l g a1 a2 a3=>exact ⟨[g],by simp [owns],fun H' hk=>by
      have hl:=zap (f:=Ins.avs) (sz:=3) (fun _=>rfl) l
      simp only [zh,hk g (by simp [owns]),a3,Nat.zero_add,List.drop_zero]
      rw [if_pos (by omega),List.take_of_length_le (by omega)]⟩
theorem zpa (l:List Ins):(l.map (List.length ∘ Ins.avs)).sum=l.length*3:=by
  have h:=zap (f:=Ins.avs) (sz:=3) (fun _=>rfl) l
  rw [List.length_flatten,List.map_map] at h
  exact h
theorem zna (l:List Ins):(l.map Ins.avs).flatten.take (l.length*3)=(l.map Ins.avs).flatten:=List.take_of_length_le (by rw [zap (f:=Ins.avs) (sz:=3) (fun _=>rfl) l]; omega)
theorem zvv (l:List Ins):∀ (x:AV) (a:Ins),a∈l→x∈a.avs→x.one=true:=fun x a _ h=>zfv a x h
theorem zow {H:Heap} {n g:Nat} {l:List Ins} {k:Nat} (hk:k=l.length) (hg:g < n) (h:H g=some (.row 3 (l.map Ins.avs).flatten)):zac H n 3 (l.map Ins.avs) (.slc g 0 k):=by
  subst hk
  have q:=zac.slc (H:=H) (nx:=n) (sz:=3) (xs:=l.map Ins.avs) g hg h
  rwa [List.length_map] at q
theorem zve (l:List Ins):((l.map Ins.avs).flatten).all AV.one=true:=by
  rw [List.all_eq_true]
  intro v hv
  obtain ⟨y,hy,hv⟩:=List.mem_flatten.1 hv
  obtain ⟨z,_,rfl⟩:=List.mem_map.1 hy
  exact zfv z v hv
theorem ztl {H:Heap} {n:Nat} (l:List Ins):zac H n 3 (l.map Ins.avs) (.ro (l.map Ins.avs)):=.ro
theorem StS.join {gk go gm m0:Nat} {fns:List Fnc} {env:VM.Env} {ws0:List Str} {A0:AV} {H0:Heap} {out J:List Ins} {ws:List Str} {vars:Nat} {A B:AV} {Y:Heap} {M N:Nat} {kt:Kt} {Z:Heap} (h:StS gk go gm m0 fns env ws0 A0 H0 out ws vars A B Y M) (hm:M≤N) (hk:∀ y,y < M→Z y=Y y) (hX:Z N=some (.row 3 (J.map Ins.avs).flatten)) (ho:out.length≤4294967296) (hJl:J.length≤4294967296) (hJ:∀ i∈J,i.op=15∨i.op=16→0≤i.a∧i.a≤4294967296)
    (hq:Z go=some (.row 1 [B])→go < M→(∀ H' m',N+1 < m'→(∀ y,y < M→y ≠ go→H' y=Z y)→H' go=some (.row 1 [.slc (N+1) 0 (zaa out J).length])→H' (N+1)=some (.row 3 ((zaa out J).map Ins.avs).flatten)→StS gk go gm m0 fns env ws0 A0 H0 (zaa out J) ws vars A (.slc (N+1) 0 (zaa out J).length) H' m')→kt (.slc (N+1) 0 (zaa out J).length) (N :: owns B) [N+1] [(N+1,some (.row 3 ((zaa out J).map Ins.avs).flatten))]) :
    zm Tryd.prog (.clo 59 []) [B,.slc N 0 J.length] Z (N+1) kt:=by
  have hbo:=h.rb.bo
  have hlg:=h.lg
  have hlo:=h.lo
  have rB:RowS Ins.avs 3 Z m0 (N+1) out B:=h.rb.keepO (by omega) fun y hy=>hk y (hbo y hy).2
  refine zm.join (xs:=out) (ys:=J) (N :: owns B) (fun g hg => ?_) (fun g hg => ?_) (fun H2 n2 hag=>rB.argI fun y hy=>hag y (by simp [hy])) (fun H2 n2 hag => ?_) ho hJl hJ ?_
  · rcases List.mem_cons.1 hg with rfl | hg
    · rw [hX]; rfl
    · exact rB.some g hg
  · rcases List.mem_cons.1 hg with rfl | hg
    · omega
    · have:=hbo g hg; omega
  · have:=hag N (by simp)
    exact zow rfl this.2 (by rw [this.1]; exact hX)
  · refine hq (by rw [hk go hlg.2.1]; exact h.oc) hlg.2.1 fun H' m' hm' hk' e1 e2=>h.put (by omega) (fun y hy => ?_) e1 (.row (by omega) hm' e2) fun y hy=>by simp [owns] at hy; omega
    have hA:=h.ed.rm.own
    have hlt:=h.ed.lt
    have hAk:y < M∧y ≠ go:=by
      have:=h.rx.le
      rcases hy with hy | hy | rfl
      · exact ⟨by omega,by omega⟩
      · exact ⟨(hA y hy).2,fun e=>h.gA (e ▸ hy)⟩
      · exact ⟨hlt,fun e=>h.ne e.symm⟩
    rw [hk' y hAk.1 hAk.2,hk y hAk.1]
set_option maxHeartbeats 4000000 in
theorem zaeh {gk go gm m0 gs ga nx M N:Nat} {fns:List Fnc} {env:VM.Env} {ws0:List Str} {A0:AV} {H0:Heap} {out O X T E:List Ins} {x:Sm} {ws:List Str} {vars i:Nat} {A B Ba:AV} {Y Z H1:Heap} {D1:zi} {o:Option AObj} {L len A1 A2 A3:AV} {K:J3} {fr1 fr2 fr3 fr4 rd1:List Nat}
    (p:SmS gk go gm m0 gs ga fns env ws0 A0 H0 out O x ws vars A B Ba Y M) (hm:M≤N) (hk:∀ y,y < M→Z y=Y y) (hX:Z N=some (.row 3 (X.map Ins.avs).flatten)) (hZ:(H1.apply D1).apply [(N,o)]=Z) (hnx:nx+fr1.length+fr2.length+1+fr3.length+1+fr4.length=N) (hrd:N+1∉rd1)
    (hi:i < 4294967296) (hOl:O.length+T.length+E.length+2≤4294967296) (hX2:X.length=O.length+1+T.length) (ho:out.length≤4294967296) (hE:∀ i∈E,i.op=15∨i.op=16→0≤i.a∧i.a≤4294967296) (hJ:∀ i∈zaa (X ++ [⟨15,((O.length+T.length+2+E.length:Nat):Int),0⟩]) E,i.op=15∨i.op=16→0≤i.a∧i.a≤4294967296)
    (hq:∀ A' B' H' m',StS gk go gm m0 fns env ws0 A0 H0 (zaa out (zaa (X ++ [⟨15,((O.length+T.length+2+E.length:Nat):Int),0⟩]) E)) ws vars A' B' H' m'→K [.ptr gk 0,.ptr go 0,.amap gm,L,len,.int .i64 ((i+1:Nat):Int)] H' m') :
    zes [.ptr gk 0,.ptr go 0,.amap gm,.ptr gs 0,.ptr ga 0,L,len,.int .i64 i,A1,A2,A3] H1 D1 (.ro (T.map Ins.avs)) (.ro (E.map Ins.avs)) nx fr1 fr2 fr3 fr4 K (.slc N 0 X.length) rd1 [N] [(N,o)]:=by
  have hwi:IntKind.i64.wrap ((i:Int)+1)=((i+1:Nat):Int):=by rw [i64w (by omega)]; omega
  have alg:=p.ar.lg
  have aoc:Z ga=some (.row 1 [Ba]):=by rw [hk ga alg.2]; exact p.ar.oc
  have bln:=fun k:AV→Prop=>p.ar.rb.lnl (k:=k)
  have hlg:=p.st.lg
  have goc:Z go=some (.row 1 [B]):=by rw [hk go hlg.2.1]; exact p.st.oc
  have g1:¬ N=ga:=by omega
  have g2:¬ ga=N:=by omega
  have g3:¬ ga=N+1:=by omega
  have g4:¬ go=N:=by omega
  have g5:¬ go=N+1:=by omega
  have g6:¬ go=N+1+1:=by omega
  have w1:IntKind.i64.wrap ((O.length:Int)+T.length)=((O.length+T.length:Nat):Int):=by rw [i64w (by omega)]; omega
  have w2:IntKind.i64.wrap (((O.length+T.length:Nat):Int)+2)=((O.length+T.length+2:Nat):Int):=by rw [i64w (by omega)]; omega
  have w3:IntKind.i64.wrap (((O.length+T.length+2:Nat):Int)+E.length)=((O.length+T.length+2+E.length:Nat):Int):=by rw [i64w (by omega)]; omega
  simp only [zes,hZ,hnx]
  simp [aoc,g1,g4,g5,g6,bln,w1,w2,w3,hX,goc,zpa,zna,hrd,-List.map_flatten,-Int.natCast_add]
  refine ⟨by omega,?_⟩
  generalize hI:(⟨15,((O.length+T.length+2+E.length:Nat):Int),0⟩:Ins)=I at *
  have eI:[AV.int .i64 15,.int .i64 ((O.length+T.length+2+E.length:Nat):Int),.int .i64 0]=I.avs:=by rw [← hI]; rfl
  rw [eI]
  have eX:(X.map Ins.avs).flatten ++ I.avs=((X ++ [I]).map Ins.avs).flatten:=by simp
  rw [eX]
  refine zm.join (xs:=X ++ [I]) (ys:=E) [N+1+1] (fun g hg => ?_) (fun g hg => ?_) (fun H2 n2 hag => ?_) (fun H2 n2 hag=>ztl E) (by simp; omega) (by omega) hE ?_
  · simp at hg; subst hg; rw [Heap.put_at]; rfl
  · simp at hg; omega
  · have:=hag (N+1+1) (by simp)
    exact zow (by simp) this.2 (by rw [this.1,Heap.put_at])
  have hJl:(zaa (X ++ [I]) E).length≤4294967296:=by unfold zaa; simp; omega
  generalize zaa (X ++ [I]) E=J at *
  simp only [ziz,hnx,zas,zbe,List.length_cons,List.length_nil,Nat.zero_add]
  refine p.st.join (M:=M) (N:=N+1+1+1) (by omega) (fun y hy => ?_) (Heap.put_at _ _ _) ho hJl hJ fun e1 e2 st => ?_
  · rw [Heap.put_ne _ _ (by omega),Heap.put_ne _ _ (by omega),Heap.put_ne _ _ (by omega),Heap.put_ne _ _ (by omega),hk y hy]
  have g7:¬ go=N+1+1+1:=by omega
  have g8:¬ go=N+1+1+1+1:=by omega
  have g9:¬ N+1+1+1=go:=by omega
  have g10:¬ N+1+1+1+1=go:=by omega
  simp [zja,goc,g4,g5,g6,g7,g8,g9,hwi,hnx,-List.map_flatten,-Int.natCast_add]
  refine hq _ _ _ _ (st _ _ (by omega) (fun y hy hne => ?_) (Heap.put_at _ _ _) (by rw [Heap.put_ne _ _ g10,Heap.put_at]))
  rw [Heap.put_ne _ _ hne,Heap.put_ne _ _ (by omega),eX]
set_option maxHeartbeats 8000000 in
theorem zaei {gk go gm m0 gs ga:Nat} {fns:List Fnc} {env:VM.Env} {ws0:List Str} {A0:AV} {H0:Heap} {out O:List Ins} {nm:Str} {ar:List Ex} {t e:List Sm} {ws:List Str} {vars i:Nat} {A B Ba:AV} {H:Heap} {m:Nat} {L len:AV} {K K2:J3} (hT:RBlk gk fns t) (hE:RBlk gk fns e)
    (p:SmS gk go gm m0 gs ga fns env ws0 A0 H0 out O (.mk 3 nm ar t e) ws vars A B Ba H m) (hi:i < 4294967296) (hno:∀ i∈O,i.op ≠ 15∧i.op ≠ 16) (hb:out.length+O.length+2*VM.smWL t+2*VM.smWL e+2≤4294967296) (hws:ws.length+VM.smWL t+VM.smWL e≤2147483648) (hv:vars+VM.smWL t+VM.smWL e≤2147483648)
    (hq:∀ T E,T=VM.stIL (fns.map fun f:Fnc=>f.name) env 0 t (ws,vars)→E=VM.stIL (fns.map fun f:Fnc=>f.name) env 0 e T.1→∀ A' B' H' m',StS gk go gm m0 fns env ws0 A0 H0 (zaa out (ifP O T.2 E.2)) E.1.1 E.1.2 A' B' H' m'→K [.ptr gk 0,.ptr go 0,.amap gm,L,len,.int .i64 ((i+1:Nat):Int)] H' m') :
    zf K K2 [.ptr gk 0,.ptr go 0,.amap gm,.ptr gs 0,.ptr ga 0,L,len,.int .i64 i,.ro (ar.map Ex.avs),.int .i64 ar.length,.int .i64 ar.length] H m:=by
  have sc:=p.sc
  rw [zay] at sc
  have hwi:IntKind.i64.wrap ((i:Int)+1)=((i+1:Nat):Int):=by rw [i64w (by omega)]; omega
  have hTl:=VM.stIL_le (fns.map fun f:Fnc=>f.name) t env 0 (ws,vars)
  have hTi:=VM.inWL_le t
  have hEi:=VM.inWL_le e
  simp [zf,sc]
  refine zm.rm p.st.ed (VM.stIL_gr (fns.map fun f:Fnc=>f.name) t env 0 (ws,vars)) (fun H1 m1 Q1 ed hQ1=>hT gm env ws vars A H1 m1 Q1 ed (by omega) (by omega) hQ1) fun A2 rd fr D ff r2 e2 dd => ?_
  have p2:=p.call r2 e2
  have sc2:=p2.sc
  rw [zay] at sc2
  simp [zix,sc2]
  have hEl:=VM.stIL_le (fns.map fun f:Fnc=>f.name) e env 0 (VM.stIL (fns.map fun f:Fnc=>f.name) env 0 t (ws,vars)).1
  simp only at hTl
  refine zm.rm p2.st.ed (VM.stIL_gr (fns.map fun f:Fnc=>f.name) e env 0 (VM.stIL (fns.map fun f:Fnc=>f.name) env 0 t (ws,vars)).1) (fun H1 m1 Q1 ed hQ1=>hE gm env _ _ A2 H1 m1 Q1 ed (by omega) (by omega) hQ1) fun A3 rd2 fr2 D2 ff2 r3 e3 dd2 => ?_
  have p3:=p2.call r3 e3
  have j1:∀ P,zb (domD D) [gs] P=P:=fun P=>zol fun y hy=>by
    have hlo:=p.st.lo
    have hsl:=p.sl
    rcases dd y hy with h | h | h
    · simp; omega
    · simp; exact fun e=>p.sA.1 (e ▸ h)
    · simp; omega
  have hq':=hq _ _ rfl rfl
  have jT:=VM.stIL_jmp (fns.map fun f:Fnc=>f.name) t env 0 (ws,vars)
  have jE:=VM.stIL_jmp (fns.map fun f:Fnc=>f.name) e env 0 (VM.stIL (fns.map fun f:Fnc=>f.name) env 0 t (ws,vars)).1
  generalize VM.stIL (fns.map fun f:Fnc=>f.name) env 0 t (ws,vars)=T at *
  generalize VM.stIL (fns.map fun f:Fnc=>f.name) env 0 e T.1=E at *
  simp only [ziy,j1,zxk]
  generalize (H.apply D).apply D2=Y at *
  generalize hM:m+fr.length+fr2.length=M at *
  obtain ⟨ra,hra,sa⟩:=p3.ar.rb.srcI
  have aoc:=p3.ar.oc
  have alg:=p3.ar.lg
  have hao:=p3.ar.rb.bo
  have gaM:¬ ga=M:=by omega
  have gaM1:¬ ga=M+1:=by omega
  have gaM2:¬ ga=M+2:=by omega
  have sa1:=sa (Y.put M (Option.some (.row 3 []))) fun y hy=>Heap.put_ne _ _ (by have:=hao y hy; omega)
  have one1:=zve O
  have bln:=fun k:AV→Prop=>p3.ar.rb.lnl (k:=k)
  have hTl2:T.2.length≤4294967296:=by omega
  have hEl2:E.2.length≤4294967296:=by omega
  have w1:IntKind.i64.wrap ((O.length:Int)+T.2.length)=((O.length+T.2.length:Nat):Int):=by rw [i64w (by omega)]; omega
  have w2:IntKind.i64.wrap (((O.length+T.2.length:Nat):Int)+2)=((O.length+T.2.length+2:Nat):Int):=by rw [i64w (by omega)]; omega
  simp [aoc,gaM,gaM1,sa1,bln,w1,w2,zpa,zna,-List.map_flatten,-Int.natCast_add]
  refine ⟨zvv O,by omega,by omega,by omega,by omega,by omega,by omega,by omega,⟨by omega,fun h=>by have:=hao _ (hra _ h); omega⟩,?_⟩
  generalize hI:(⟨16,((O.length+T.2.length+2:Nat):Int),0⟩:Ins)=I at *
  have eI:[AV.int .i64 16,.int .i64 ((O.length+T.2.length+2:Nat):Int),.int .i64 0]=I.avs:=by rw [← hI]; rfl
  rw [eI]
  have eX:(O.map Ins.avs).flatten ++ I.avs=((O ++ [I]).map Ins.avs).flatten:=by simp
  rw [eX]
  refine zm.join (xs:=O ++ [I]) (ys:=T.2) [M+1+1+1] (fun g hg => ?_) (fun g hg => ?_) (fun H2 n2 hag => ?_) (fun H2 n2 hag=>ztl T.2) (by simp; omega) hTl2 (fun i hi h=>by have:=jT i hi h; omega) ?_
  · simp at hg; subst hg; rw [Heap.put_at]; rfl
  · simp at hg; omega
  · have:=hag (M+1+1+1) (by simp)
    exact zow (by simp) this.2 (by rw [this.1,Heap.put_at])
  refine zaeh p3 (by omega) (fun y hy => ?_) (by simp only [zas,zbe]; exact Heap.put_at _ _ _) rfl (by simp only [hM,List.length_cons,List.length_nil]) (by simp; omega) hi (by omega) (by unfold zaa; simp; omega) (by omega) (fun i hi h=>by have:=jE i hi h; omega) ?_ ?_
  · simp only [zas,zbe]
    rw [Heap.put_ne _ _ (by omega),Heap.put_ne _ _ (by omega),Heap.put_ne _ _ (by omega),Heap.put_ne _ _ (by omega),Heap.put_ne _ _ (by omega),Heap.put_ne _ _ (by omega)]
  · have:=zade (a:=O) (T:=T.2) (E:=E.2) hno (fun i hi h=>by have:=jT i hi h; omega) fun i hi h=>by have:=jE i hi h; omega
    unfold ifP at this
    rw [hI] at this
    exact fun i hi h=>by have:=this i hi h; omega
  · have:=hq'
    unfold ifP at this
    rw [hI] at this
    exact this
end Go.Proofs.YtpllgpgdcbgalaaDoor
set_option maxRecDepth 8000
namespace Go.Proofs.YtpllgpgdcbgalaaDoor
open Go Go.RowKit
set_option maxHeartbeats 8000000 in
theorem zaef {gk go gm m0 gs ga:Nat} {fns:List Fnc} {env:VM.Env} {ws0:List Str} {A0:AV} {H0:Heap} {out O:List Ins} {nm:Str} {ar:List Ex} {t e:List Sm} {ws:List Str} {vars i:Nat} {A B Ba:AV} {H:Heap} {m:Nat} {L len:AV} {K K2:J3} (hT:RBlk gk fns t)
    (p:SmS gk go gm m0 gs ga fns env ws0 A0 H0 out O (.mk 4 nm ar t e) ws vars A B Ba H m) (hi:i < 4294967296) (hno:∀ i∈O,i.op ≠ 15∧i.op ≠ 16) (hb:out.length+O.length+2*VM.smWL t+2≤4294967296) (hws:ws.length+VM.smWL t≤2147483648) (hv:vars+VM.smWL t≤2147483648)
    (hq:∀ T,T=VM.stIL (fns.map fun f:Fnc=>f.name) env 0 t (ws,vars)→∀ A' B' H' m',StS gk go gm m0 fns env ws0 A0 H0 (zaa out (whP O T.2)) T.1.1 T.1.2 A' B' H' m'→K [.ptr gk 0,.ptr go 0,.amap gm,L,len,.int .i64 ((i+1:Nat):Int)] H' m') :
    zf K K2 [.ptr gk 0,.ptr go 0,.amap gm,.ptr gs 0,.ptr ga 0,L,len,.int .i64 i,.ro (ar.map Ex.avs),.int .i64 ar.length,.int .i64 ar.length] H m:=by
  have sc:=p.sc
  rw [zay] at sc
  have hwi:IntKind.i64.wrap ((i:Int)+1)=((i+1:Nat):Int):=by rw [i64w (by omega)]; omega
  have hTl:=VM.stIL_le (fns.map fun f:Fnc=>f.name) t env 0 (ws,vars)
  have hTi:=VM.inWL_le t
  simp [zf,sc]
  refine hT gm env ws vars A H m _ p.st.ed (by omega) (by omega) fun A2 Y M r2 e2 => ?_
  have p3:=p.call r2 e2
  have hq':=hq _ rfl
  have jT:=VM.stIL_jmp (fns.map fun f:Fnc=>f.name) t env 0 (ws,vars)
  generalize VM.stIL (fns.map fun f:Fnc=>f.name) env 0 t (ws,vars)=T at *
  simp only at hTl
  obtain ⟨ra,hra,sa⟩:=p3.ar.rb.srcI
  have aoc:=p3.ar.oc
  have alg:=p3.ar.lg
  have hao:=p3.ar.rb.bo
  have hlg:=p3.st.lg
  have goc:=p3.st.oc
  have hbo:=p3.st.rb.bo
  have gaM:¬ ga=M:=by omega
  have gaM1:¬ ga=M+1:=by omega
  have goM:¬ go=M:=by omega
  have goM1:¬ go=M+1:=by omega
  have goM2:¬ go=M+1+1:=by omega
  have goM3:¬ go=M+1+1+1:=by omega
  have sa1:=sa (Y.put M (Option.some (.row 3 []))) fun y hy=>Heap.put_ne _ _ (by have:=hao y hy; omega)
  have bln:=fun k:AV→Prop=>p3.ar.rb.lnl (k:=k)
  have hTl2:T.2.length≤4294967296:=by omega
  have w1:IntKind.i64.wrap ((O.length:Int)+T.2.length)=((O.length+T.2.length:Nat):Int):=by rw [i64w (by omega)]; omega
  have w2:IntKind.i64.wrap (((O.length+T.2.length:Nat):Int)+2)=((O.length+T.2.length+2:Nat):Int):=by rw [i64w (by omega)]; omega
  simp [zhj,aoc,gaM,gaM1,sa1,bln,w1,w2,goc,goM,goM1,goM2,goM3,zpa,zna,-List.map_flatten,-Int.natCast_add]
  refine ⟨zvv O,by omega,by omega,by omega,by omega,by omega,by omega,by omega,⟨by omega,fun h=>by have:=hao _ (hra _ h); omega⟩,?_⟩
  have jJ:=zacn (a:=O) (T:=T.2) hno fun i hi h=>by have:=jT i hi h; omega
  unfold whP at jJ hq'
  generalize hI:(⟨16,((O.length+T.2.length+2:Nat):Int),0⟩:Ins)=I at *
  have eI:[AV.int .i64 16,.int .i64 ((O.length+T.2.length+2:Nat):Int),.int .i64 0]=I.avs:=by rw [← hI]; rfl
  rw [eI]
  have eX:(O.map Ins.avs).flatten ++ I.avs=((O ++ [I]).map Ins.avs).flatten:=by simp
  rw [eX]
  refine zm.join (xs:=O ++ [I]) (ys:=T.2) [M+1+1+1] (fun g hg => ?_) (fun g hg => ?_) (fun H2 n2 hag => ?_) (fun H2 n2 hag=>ztl T.2) (by simp; omega) hTl2 (fun i hi h=>by have:=jT i hi h; omega) ?_
  · simp at hg; subst hg; rw [Heap.put_at]; rfl
  · simp at hg; omega
  · have:=hag (M+1+1+1) (by simp)
    exact zow (by simp) this.2 (by rw [this.1,Heap.put_at])
  have hXl:(zaa (O ++ [I]) T.2).length=O.length+1+T.2.length:=by unfold zaa; simp; omega
  generalize zaa (O ++ [I]) T.2=X at *
  have goM4:¬ go=M+1+1+1+1:=by omega
  have goM5:¬ go=M+1+1+1+1+1:=by omega
  have goM6:¬ go=M+1+1+1+1+1+1:=by omega
  have goM7:¬ go=M+1+1+1+1+1+1+1:=by omega
  simp [ziv,zpa,zna,-List.map_flatten,-Int.natCast_add]
  refine ⟨by omega,?_⟩
  have eJ:(X.map Ins.avs).flatten ++ [AV.int .i64 15,.int .i64 0,.int .i64 0]=((X ++ [(⟨15,0,0⟩:Ins)]).map Ins.avs).flatten:=by simp [Ins.avs]
  rw [eJ]
  rw [show X.length+1=(X ++ [(⟨15,0,0⟩:Ins)]).length by simp]
  have hJl:(X ++ [(⟨15,0,0⟩:Ins)]).length≤4294967296:=by simp; omega
  generalize X ++ [(⟨15,0,0⟩:Ins)]=J at *
  refine p3.st.join (M:=M) (N:=M+1+1+1+1+1+1) (by omega) (fun y hy => ?_) (Heap.put_at _ _ _) (by omega) hJl (fun i hi h=>by have:=jJ i hi h; omega) fun e1 e2 st => ?_
  · rw [Heap.put_ne _ _ (by omega),Heap.put_ne _ _ (by omega),Heap.put_ne _ _ (by omega),Heap.put_ne _ _ (by omega),Heap.put_ne _ _ (by omega),Heap.put_ne _ _ (by omega),Heap.put_ne _ _ (by omega),Heap.put_ne _ _ (by omega),Heap.put_ne _ _ (by omega)]
  simp [ziw,goc,goM,goM1,goM2,goM3,goM4,goM5,goM6,goM7,hwi,-List.map_flatten,-Int.natCast_add]
  refine ⟨fun e=>absurd e (by omega),by omega,by omega,by omega,by omega,?_⟩
  refine hq' _ _ _ _ (st _ _ (by omega) (fun y hy hne => ?_) (Heap.put_at _ _ _) (by rw [Heap.put_ne _ _ (by omega),Heap.put_at]))
  rw [Heap.put_ne _ _ hne]
  repeat rw [Heap.put_ne _ _ (by omega)]
end Go.Proofs.YtpllgpgdcbgalaaDoor
set_option maxRecDepth 8000
namespace Go.Proofs.YtpllgpgdcbgalaaDoor
open Go Go.RowKit
theorem VM.len_smWL:∀ l:List Sm,l.length≤VM.smWL l
  | []=>by simp
  | .mk k nm ar t e :: r=>by have:=VM.len_smWL r; unfold VM.smWL VM.smW; simp only [List.length_cons]; omega
theorem StS.put0 {gk go gm m0:Nat} {fns:List Fnc} {env:VM.Env} {ws0:List Str} {A0:AV} {H0:Heap} {out:List Ins} {ws:List Str} {vars:Nat} {A B:AV} {H:Heap} {m:Nat} (h:StS gk go gm m0 fns env ws0 A0 H0 out ws vars A B H m) (x:Sm) {H':Heap} (hk:∀ y,y < m→H' y=H y) (hs:H' m=some (.row 5 x.avs)) (ha:H' (m+1)=some (.row 1 [.nils])) :
    SmS gk go gm m0 m (m+1) fns env ws0 A0 H0 out [] x ws vars A B .nils H' (m+2):=by
  have hA:=h.ed.rm.own
  have hB:=h.rb.bo
  have hlg:=h.lg
  have hlt:=h.ed.lt
  have hle:=h.rx.le
  refine ⟨(h.new (by omega) hk).1,⟨ha,.nil,by simp [owns],by simp [owns],⟨by omega,by omega⟩,⟨by omega,by omega⟩,fun hy=>by have:=hA _ hy; omega,fun hy=>by have:=hB _ hy; omega⟩,hs,⟨by omega,by omega⟩,⟨fun hy=>by have:=hA _ hy; omega,fun hy=>by have:=hB _ hy; omega,by simp [owns]⟩,by omega,by omega,by omega⟩
set_option maxHeartbeats 4000000 in
theorem zacw {gk go gm m0 gs ga:Nat} {fns:List Fnc} {env:VM.Env} {ws0:List Str} {A0:AV} {H0:Heap} {out:List Ins} {k:Int} {nm:Str} {ar:List Ex} {t e:List Sm} {ws:List Str} {vars i:Nat} {A B:AV} {H:Heap} {m:Nat} {L len:AV} {K:J3} (hfl:fns.length≤4294967296) (hnd:(fns.map (·.name)).Nodup)
    (hok:VM.okSm (.mk k nm ar t e)) (hc:VM.callsS (fns.map (·.name)) (.mk k nm ar t e)) (hT:RBlk gk fns t) (hE:RBlk gk fns e)
    (p:SmS gk go gm m0 gs ga fns env ws0 A0 H0 out [] (.mk k nm ar t e) ws vars A B .nils H m) (hi:i < 4294967296) (ho:out.length+2*VM.smW (.mk k nm ar t e)≤4294967296) (hw:ws.length+VM.smW (.mk k nm ar t e)≤2147483648) (hv:vars+VM.smW (.mk k nm ar t e)≤2147483648)
    (hq:∀ R,R=VM.stI (fns.map fun f:Fnc=>f.name) env 0 (.mk k nm ar t e) (ws,vars)→∀ A' B' H' m',StS gk go gm m0 fns R.2.1 ws0 A0 H0 (zaa out R.2.2) R.1.1 R.1.2 A' B' H' m'→K [.ptr gk 0,.ptr go 0,.amap gm,L,len,.int .i64 ((i+1:Nat):Int)] H' m') :
    LP (zf K) [.ptr gk 0,.ptr go 0,.amap gm,.ptr gs 0,.ptr ga 0,L,len,.int .i64 i,.ro (ar.map Ex.avs),.int .i64 ar.length,.int .i64 0] H m:=by
  unfold VM.okSm at hok
  unfold VM.callsS at hc
  unfold VM.smW at ho hw hv
  have hal:=VM.exIL_le (fns.map fun f:Fnc=>f.name) env ar ws
  have hno:=VM.exIL_no (fns.map fun f:Fnc=>f.name) env ar ws
  refine zaeg (zqd hfl hnd ar hok.2.2.2.2.1 hc.1) p (by omega) fun A' Ba H' m' q => ?_
  by_cases k3:k=3
  · subst k3
    refine zaei hT hE q hi hno (by omega) (by omega) (by omega) fun T E hT hE A2 B2 H2 m2 st => ?_
    have:=zaed (fns.map fun f:Fnc=>f.name) env nm ar t e (ws,vars)
    simp only at this
    rw [← hT,← hE] at this
    exact hq _ this.symm A2 B2 H2 m2 st
  by_cases k4:k=4
  · subst k4
    refine zaef hT q hi hno (by omega) (by omega) (by omega) fun T hT A2 B2 H2 m2 st => ?_
    have:=zaec (fns.map fun f:Fnc=>f.name) env nm ar t e (ws,vars)
    simp only at this
    rw [← hT] at this
    exact hq _ this.symm A2 B2 H2 m2 st
  exact zwi (ws,vars) rfl rfl q hi (by simp only; omega) (by omega) (by omega) (hq _ rfl)
set_option maxHeartbeats 4000000 in
theorem ztp {gk ga:Nat} {fns:List Fnc} {env:VM.Env} {ws:List Str} {vars:Nat} {A:AV} {H:Heap} {m:Nat} (hfl:fns.length≤4294967296) (hnd:(fns.map (·.name)).Nodup) {l:List Sm} (hok:∀ x∈l,VM.okSm x) (hc:∀ x∈l,VM.callsS (fns.map (·.name)) x)
    (hB:∀ k nm ar t e,Sm.mk k nm ar t e∈l→RBlk gk fns t∧RBlk gk fns e) (h:Ed gk ga fns env ws vars A H m) (hw:ws.length+VM.smWL l≤2147483648) (hv:vars+VM.smWL l≤2147483648) :
    za Tryd.prog 39 [.ptr gk 0,.ro (l.map Sm.avs),.amap ga] H m fun B H' m'=>∃ A',PcS gk ga m fns env ws A H (VM.stIL (fns.map fun f:Fnc=>f.name) env 0 l (ws,vars)).2 (VM.stIL (fns.map fun f:Fnc=>f.name) env 0 l (ws,vars)).1.1 (VM.stIL (fns.map fun f:Fnc=>f.name) env 0 l (ws,vars)).1.2 A' B H' m':=by
  refine zmo _ _ _ _ _ _ ?_
  obtain ⟨le,me⟩:=h.me
  have hgn:=h.rm.gn
  have hga:=h.lt
  have hown:=h.rm.own
  have hll:=VM.len_smWL l
  have gam:¬ ga=m:=by omega
  have gam1:¬ ga=m+1:=by omega
  simp [ziu]
  unfold zrk
  simp [gam,gam1,me.at_]
  have e0:(zal le).length=le.length:=by simp [zal]
  rw [e0]
  refine zaaf me hga (fun y hy => ?_) ?_ ?_ ?_ fun H1 l1 k1 q1 me1 => ?_
  · rw [Heap.put_ne _ _ (by omega),Heap.put_ne _ _ (by omega),Heap.put_ne _ _ (by omega)]
  · rw [Heap.put_ne _ _ (by omega),Heap.put_ne _ _ (by omega),Heap.put_at]
  · rw [Heap.put_ne _ _ (by omega),Heap.put_at]
  · rw [Heap.put_at]
  have hx1:RX gk ws A H m ws A H1 (m+3):=⟨by omega,fun y hy _ _=>k1 y hy,.inl ⟨rfl,rfl,fun y hy=>k1 y (hown y hy).2⟩⟩
  have st0:StS gk m (m+1) m fns env ws A H [] ws vars A .nils H1 (m+3):=⟨⟨h.rm.more (by omega) fun y hy=>k1 y (by rcases hy with rfl | hy; exact hgn; exact (hown y hy).2),⟨l1,me1⟩,by omega,by omega,fun hy=>by have:=hown _ hy; omega⟩,hx1,q1,.nil,by simp [owns],⟨by simp [owns],by simp [owns]⟩,hgn,⟨by omega,by omega,by omega⟩,by omega,fun hy=>by have:=hown _ hy; omega⟩
  simp
  generalize hR:VM.stIL (fns.map fun f:Fnc=>f.name) env 0 l (ws,vars)=R
  refine LP.mk (fun j xs H' m'=>∃ (q:Nat) (out:List Ins) (env':VM.Env) (ws':List Str) (vars':Nat) (A' B:AV),q+j=l.length∧xs=[.ptr gk 0,.ptr m 0,.amap (m+1),.ro (l.map Sm.avs),.int .i64 l.length,.int .i64 q]∧StS gk m (m+1) m fns env' ws A H out ws' vars' A' B H' m'∧out.length+2*VM.smWL (l.drop q)≤4294967296∧ws'.length+VM.smWL (l.drop q)≤2147483648∧vars'+VM.smWL (l.drop q)≤2147483648∧R=((VM.stIL (fns.map fun f:Fnc=>f.name) env' out.length (l.drop q) (ws',vars')).1,out ++ (VM.stIL (fns.map fun f:Fnc=>f.name) env' out.length (l.drop q) (ws',vars')).2)) l.length
    ⟨0,[],env,ws,vars,A,.nils,by omega,rfl,st0,by simp; omega,by simpa using hw,by simpa using hv,by simp [hR]⟩ ?_
  rintro j xs H' m' ⟨q,out,env',ws',vars',A',B,hqj,rfl,st,ho,hw1,hv1,he⟩
  cases j with
  | zero =>
    obtain rfl:q=l.length:=by omega
    rw [List.drop_length] at he
    rw [VM.stIL] at he
    simp only [List.append_nil] at he
    simp [zcq,st.oc]
    rw [he]
    exact ⟨A',h.ext st.ed.rm st.rx,st.rx,st.rb,st.ab,st.lo,hga⟩
  | succ j =>
    have hlt:q < l.length:=by omega
    have hdr:l.drop q=l[q] :: l.drop (q+1):=List.drop_eq_getElem_cons hlt
    rw [hdr] at ho hw1 hv1 he
    rw [VM.smWL] at ho hw1 hv1
    rw [VM.stIL] at he
    have hok1:=hok l[q] (List.getElem_mem hlt)
    have hc1:=hc l[q] (List.getElem_mem hlt)
    have hB1:=fun k nm ar t e (h:l[q]=.mk k nm ar t e)=>hB k nm ar t e (h ▸ List.getElem_mem hlt)
    have hle:=VM.stI_le (fns.map fun f:Fnc=>f.name) l[q] env' 0 (ws',vars')
    have hsh:=VM.stI_sh (fns.map fun f:Fnc=>f.name) out.length l[q] env' 0 (ws',vars')
    have hin:=VM.inW_le l[q]
    rw [Nat.zero_add] at hsh
    obtain ⟨k,nm,ar,t,e,hx⟩:∃ k nm ar t e,l[q]=Sm.mk k nm ar t e:=by
      generalize l[q]=x
      obtain ⟨k,nm,ar,t,e⟩:=x
      exact ⟨_,_,_,_,_,rfl⟩
    obtain ⟨hT,hE⟩:=hB1 k nm ar t e hx
    rw [hx] at he ho hw1 hv1 hok1 hc1 hle hsh hin
    have hav:l[q].avs=[.int .i64 k,.str nm,.ro (ar.map Ex.avs),.ro (t.map Sm.avs),.ro (e.map Sm.avs)]:=by rw [hx,zay]
    have n1:¬ m'=m'+1:=by omega
    simp [zcq,hlt,hav]
    have sm:=st.put0 (.mk k nm ar t e) (H':=(H'.put m' (some (.row 5 [.int .i64 k,.str nm,.ro (ar.map Ex.avs),.ro (t.map Sm.avs),.ro (e.map Sm.avs)]))).put (m'+1) (some (.row 1 [.nils]))) (fun y hy=>by rw [Heap.put_ne _ _ (by omega),Heap.put_ne _ _ (by omega)]) (by rw [Heap.put_ne _ _ n1,Heap.put_at,zay]) (Heap.put_at _ _ _)
    refine zacw hfl hnd hok1 hc1 hT hE sm (by omega) (by omega) (by omega) (by omega) fun Q hQ A2 B2 H2 m2 st2 => ?_
    rw [← hQ] at hsh hle
    simp only at hle
    refine ⟨j,by omega,q+1,by omega,by simp,zaa out Q.2.2,Q.2.1,Q.1.1,Q.1.2,⟨A2,B2,st2⟩,by unfold zaa; simp; omega,by omega,by omega,?_⟩
    rw [hsh] at he
    rw [he]
    unfold zaa
    simp
theorem zvs {gk:Nat} {fns:List Fnc} (hfl:fns.length≤4294967296) (hnd:(fns.map (·.name)).Nodup) {l:List Sm} (hok:∀ x∈l,VM.okSm x) (hc:∀ x∈l,VM.callsS (fns.map (·.name)) x)
    (hB:∀ k nm ar t e,Sm.mk k nm ar t e∈l→RBlk gk fns t∧RBlk gk fns e):RBlk gk fns l:=fun _ _ _ _ _ _ _ _ h hw hv hq=>PcS.done (ztp hfl hnd hok hc hB h hw hv) hq
theorem zks:∀ {l:List Sm},VM.okSmL l→∀ x∈l,VM.okSm x
  | [],_,x,h=>absurd h (by simp)
  | y :: r,ho,x,h=>by unfold VM.okSmL at ho; exact (List.mem_cons.1 h).elim (fun e=>e ▸ ho.1) (zks ho.2 x)
theorem zhh {N:List Str}:∀ {l:List Sm},VM.callsSL N l→∀ x∈l,VM.callsS N x
  | [],_,x,h=>absurd h (by simp)
  | y :: r,ho,x,h=>by unfold VM.callsSL at ho; exact (List.mem_cons.1 h).elim (fun e=>e ▸ ho.1) (zhh ho.2 x)
mutual
theorem rsub {gk:Nat} {fns:List Fnc} (hfl:fns.length≤4294967296) (hnd:(fns.map (·.name)).Nodup):∀ x:Sm,VM.okSm x→VM.callsS (fns.map (·.name)) x→∀ k nm ar t e,x=.mk k nm ar t e→RBlk gk fns t∧RBlk gk fns e
  | .mk k nm ar t e,ho,hc,_,_,_,_,_,h=>by
    cases h
    unfold VM.okSm at ho
    unfold VM.callsS at hc
    exact ⟨zvs hfl hnd (zks ho.2.2.2.2.2.1) (zhh hc.2.1) (ztc hfl hnd t ho.2.2.2.2.2.1 hc.2.1),zvs hfl hnd (zks ho.2.2.2.2.2.2) (zhh hc.2.2) (ztc hfl hnd e ho.2.2.2.2.2.2 hc.2.2)⟩
theorem ztc {gk:Nat} {fns:List Fnc} (hfl:fns.length≤4294967296) (hnd:(fns.map (·.name)).Nodup):∀ l:List Sm,VM.okSmL l→VM.callsSL (fns.map (·.name)) l→∀ k nm ar t e,Sm.mk k nm ar t e∈l→RBlk gk fns t∧RBlk gk fns e
  | [],_,_,_,_,_,_,_,h=>absurd h (by simp)
  | y :: r,ho,hc,k,nm,ar,t,e,h=>by
    unfold VM.okSmL at ho
    unfold VM.callsSL at hc
    exact (List.mem_cons.1 h).elim (fun e'=>rsub hfl hnd y ho.1 hc.1 k nm ar t e e'.symm) (ztc hfl hnd r ho.2 hc.2 k nm ar t e)
end
theorem rblk {gk ga:Nat} {fns:List Fnc} {env:VM.Env} {ws:List Str} {vars:Nat} {A:AV} {H:Heap} {m:Nat} (hfl:fns.length≤4294967296) (hnd:(fns.map (·.name)).Nodup) {l:List Sm} (hok:VM.okSmL l) (hc:VM.callsSL (fns.map (·.name)) l)
    (h:Ed gk ga fns env ws vars A H m) (hw:ws.length+VM.smWL l≤2147483648) (hv:vars+VM.smWL l≤2147483648) :
    za Tryd.prog 39 [.ptr gk 0,.ro (l.map Sm.avs),.amap ga] H m fun B H' m'=>∃ A',PcS gk ga m fns env ws A H (VM.stIL (fns.map fun f:Fnc=>f.name) env 0 l (ws,vars)).2 (VM.stIL (fns.map fun f:Fnc=>f.name) env 0 l (ws,vars)).1.1 (VM.stIL (fns.map fun f:Fnc=>f.name) env 0 l (ws,vars)).1.2 A' B H' m' :=
  ztp hfl hnd (zks hok) (zhh hc) (ztc hfl hnd l hok hc) h hw hv
end Go.Proofs.YtpllgpgdcbgalaaDoor
set_option maxRecDepth 8000
namespace Go.Proofs.YtpllgpgdcbgalaaDoor
open Go Go.RowKit
theorem zzo (D1 D2:zi) (H:Heap):H.apply (D1 ++ D2)=(H.apply D1).apply D2:=by
  induction D1 generalizing H with
  | nil=>rfl
  | cons d D1 ih=>obtain ⟨g,o⟩:=d; exact ih (H.put g o)
structure zxt (gk:Nat) (c0 c1 c2 c3:AV) (out:List Ins) (B:AV) (H:Heap):Prop where
  row:H gk=some (.row 5 [c0,c1,c2,c3,B])
  ir:(B=.nils∧out=[])∨∃ gb,B=.slc gb 0 out.length∧gb ≠ gk∧H gb=some (.row 3 (out.map Ins.avs).flatten)
set_option maxHeartbeats 1000000 in
theorem zsf {gk m:Nat} {c0 c1 c2 c3 B:AV} {out:List Ins} {H:Heap} {op a b:Int} {Q:QT} (h:zxt gk c0 c1 c2 c3 out B H) (hgk:gk < m) (hB:∀ g∈owns B,g < m) (hl:out.length≤4294967296)
    (hq:∀ H' m' gn,m≤gn→gn < m'→H' gk=some (.row 5 [c0,c1,c2,c3,.slc gn 0 (out.length+1)])→H' gn=some (.row 3 ((out ++ [Ins.mk op a b]).map Ins.avs).flatten)→(∀ y,y < m→y ≠ gk→y∉owns B→H' y=H y)→Q (.int .i64 out.length) H' m') :
    za Tryd.prog 38 [.ptr gk 0,.int .i64 op,.int .i64 a,.int .i64 b] H m Q:=by
  refine znj _ _ _ _ _ _ _ ?_
  have row:=h.row
  rcases h.ir with ⟨rfl,rfl⟩ | ⟨gb,rfl,hne,hgb⟩
  · have _u:=hl
    have ne_0:gk ≠ m∧m ≠ gk∧gk ≠ m+1∧m+1 ≠ gk:=⟨by omega,by omega,by omega,by omega⟩
    simp [zey,row,ne_0]
    refine hq _ _ (m+1) (by omega) (by omega) (Heap.put_at _ _ _) (by rw [Heap.put_ne _ _ (by omega),Heap.put_at]; rfl) fun y hy h1 _ => ?_
    rw [Heap.put_ne _ _ h1,Heap.put_ne _ _ (by omega),Heap.put_ne _ _ (by omega)]
  · have hgm:gb < m:=hB gb (by simp [owns])
    have rl:=zap (f:=Ins.avs) (sz:=3) (fun _=>rfl) out
    have h1:(out.length+1)*24≤140737488355328:=by omega
    have hsn:=zbu (f:=Ins.avs) out (Ins.mk op a b)
    generalize (out.map Ins.avs).flatten=rr at *
    have h3:rr.take (out.length*3)=rr:=List.take_of_length_le (by omega)
    have hw:IntKind.i64.wrap (out.length:Int)=out.length:=i64w (by omega)
    have ne_1:gk ≠ gb∧gb ≠ gk∧gk ≠ m∧m ≠ gk∧gk ≠ m+1∧m+1 ≠ gk∧gb ≠ m∧m ≠ gb∧gb ≠ m+1∧m+1 ≠ gb:=⟨by omega,by omega,by omega,by omega,by omega,by omega,by omega,by omega,by omega,by omega⟩
    simp [zey,row,hgb,rl,h1,h3,hw,ne_1]
    refine hq _ _ (m+1) (by omega) (by omega) (Heap.put_at _ _ _) (by rw [Heap.put_ne _ _ (by omega),Heap.put_at,hsn]; rfl) fun y hy h1 h2 => ?_
    simp [owns] at h2
    rw [Heap.put_ne _ _ h1,Heap.put_ne _ _ (by omega),Heap.put_ne _ _ h2,Heap.put_ne _ _ (by omega)]
theorem MkM.putAt {gk m vars high:Nat} {fns:List Fnc} {ws:List Str} {out:List Ins} {A B:AV} {H:Heap} (h:MkM gk fns vars high ws A out B H m):zxt gk (.ro (fns.map Fnc.avs)) A (.int .i64 vars) (.int .i64 high) out B H∧(∀ g∈owns B,g < m):=by
  have:=h.ir
  refine ⟨⟨h.row,?_⟩,?_⟩
  · cases this with
    | nil=>exact .inl ⟨rfl,rfl⟩
    | row h1 h2 h3=>exact .inr ⟨_,rfl,by omega,h3⟩
  · cases this with
    | nil=>intro g hg; simp [owns] at hg
    | row h1 h2 h3=>intro g hg; simp [owns] at hg; omega
theorem MkM.put {gk m m' gn vars high:Nat} {fns:List Fnc} {ws:List Str} {out:List Ins} {A B:AV} {H H':Heap} {i:Ins} (h:MkM gk fns vars high ws A out B H m) (h1:m≤gn) (h2:gn < m') (h3:H' gk=some (.row 5 [.ro (fns.map Fnc.avs),A,.int .i64 vars,.int .i64 high,.slc gn 0 (out.length+1)]))
    (h4:H' gn=some (.row 3 ((out ++ [i]).map Ins.avs).flatten)) (h5:∀ y,y < m→y ≠ gk→y∉owns B→H' y=H y):MkM gk fns vars high ws A (out ++ [i]) (.slc gn 0 (out.length+1)) H' m'∧MExt gk A B H m A (.slc gn 0 (out.length+1)) H' m':=by
  have hgn:=h.gn
  have ra:=h.wr
  have hA:∀ y∈owns A,y < m:=by
    cases ra with
    | nil=>intro y hy; simp [owns] at hy
    | row a1 a2 a3=>intro y hy; simp [owns] at hy; omega
  refine ⟨⟨h3,?_,?_,fun y hy hy2 => ?_,by omega⟩,by omega,fun y a b c d=>h5 y a b d,fun y hy=>.inl hy,fun y hy => ?_⟩
  · have hf:=h.far
    cases ra with
    | nil=>exact .nil
    | @row l ga a1 a2 a3=>exact .row a1 (by omega) (by rw [h5 _ a2 (by omega) (hf _ (by simp [owns]))]; exact a3)
  · have:=RowS.row (f:=Ins.avs) (sz:=3) (H:=H') (lo:=gk+1) (hi:=m') (l:=out ++ [i]) (ga:=gn) (by omega) h2 h4
    rw [List.length_append] at this
    exact this
  · have:=hA y hy
    simp [owns] at hy2
    omega
  · simp [owns] at hy; exact .inr (by omega)
theorem zdy {gk m vars high:Nat} {fns:List Fnc} {ws:List Str} {out:List Ins} {A B:AV} {H:Heap} {op a b:Int} {Q:QT} (h:MkM gk fns vars high ws A out B H m) (hl:out.length≤4294967296)
    (hq:∀ B' H' m',MkM gk fns vars high ws A (out ++ [Ins.mk op a b]) B' H' m'→MExt gk A B H m A B' H' m'→Q (.int .i64 out.length) H' m') :
    za Tryd.prog 38 [.ptr gk 0,.int .i64 op,.int .i64 a,.int .i64 b] H m Q:=by
  obtain ⟨p1,p2⟩:=h.putAt
  refine zsf p1 h.gn p2 hl fun H' m' gn h1 h2 h3 h4 h5 => ?_
  obtain ⟨q1,q2⟩:=h.put h1 h2 h3 h4 h5
  exact hq _ H' m' q1 q2
def zkv (B:AV):zi:=(owns B).map fun g=>(g,none)
set_option maxHeartbeats 1000000 in
theorem zm.put {gk m vars high:Nat} {fns:List Fnc} {ws:List Str} {out:List Ins} {A B:AV} {H:Heap} {op a b:Int} {kt:Kt} (h:MkM gk fns vars high ws A out B H m) (hl:out.length≤4294967296)
    (hq:∀ rd D,MkM gk fns vars high ws A (out ++ [Ins.mk op a b]) (.slc m 0 (out.length+1)) (H.apply D) (m+1)→MExt gk A B H m A (.slc m 0 (out.length+1)) (H.apply D) (m+1)→kt (.int .i64 out.length) rd [m] D) :
    zm Tryd.prog (.clo 38 []) [.ptr gk 0,.int .i64 op,.int .i64 a,.int .i64 b] H m kt:=by
  obtain ⟨p1,p2⟩:=h.putAt
  have hgn:=h.gn
  have hgkB:gk∉owns B:=by
    intro hy
    have:=h.ir
    cases this with
    | nil=>simp [owns] at hy
    | row h1 h2 h3=>simp [owns] at hy; omega
  have app:∀ Hx:Heap,(Hx.apply (zkv B ++ [(gk,some (.row 5 [.ro (fns.map Fnc.avs),A,.int .i64 vars,.int .i64 high,.slc m 0 (out.length+1)])),(m,some (.row 3 ((out ++ [Ins.mk op a b]).map Ins.avs).flatten))])) gk=some (.row 5 [.ro (fns.map Fnc.avs),A,.int .i64 vars,.int .i64 high,.slc m 0 (out.length+1)])
      ∧ (Hx.apply (zkv B ++ [(gk,some (.row 5 [.ro (fns.map Fnc.avs),A,.int .i64 vars,.int .i64 high,.slc m 0 (out.length+1)])),(m,some (.row 3 ((out ++ [Ins.mk op a b]).map Ins.avs).flatten))])) m=some (.row 3 ((out ++ [Ins.mk op a b]).map Ins.avs).flatten)
      ∧ (∀ y,y < m→y ≠ gk→y∉owns B→(Hx.apply (zkv B ++ [(gk,some (.row 5 [.ro (fns.map Fnc.avs),A,.int .i64 vars,.int .i64 high,.slc m 0 (out.length+1)])),(m,some (.row 3 ((out ++ [Ins.mk op a b]).map Ins.avs).flatten))])) y=Hx y)
      ∧ (∀ y∈owns B,(Hx.apply (zkv B ++ [(gk,some (.row 5 [.ro (fns.map Fnc.avs),A,.int .i64 vars,.int .i64 high,.slc m 0 (out.length+1)])),(m,some (.row 3 ((out ++ [Ins.mk op a b]).map Ins.avs).flatten))])) y=none):=fun Hx=>by
    rw [zzo]
    simp only [zas,zbe]
    refine ⟨by rw [Heap.put_ne _ _ (by omega),Heap.put_at],Heap.put_at _ _ _,fun y h1 h2 h3 => ?_,fun y hy => ?_⟩
    · rw [Heap.put_ne _ _ (by omega),Heap.put_ne _ _ h2]
      cases B <;> simp [owns] at h3 <;> simp [zkv,owns,h3]
    · have:=p2 y hy
      rw [Heap.put_ne _ _ (by omega),Heap.put_ne _ _ (fun e=>hgkB (by rw [← e]; exact hy))]
      cases B <;> simp [owns] at hy
      subst hy
      simp [zkv,owns]
  generalize hD:zkv B ++ [(gk,some (.row 5 [.ro (fns.map Fnc.avs),A,.int .i64 vars,.int .i64 high,.slc m 0 (out.length+1)])),(m,some (.row 3 ((out ++ [Ins.mk op a b]).map Ins.avs).flatten))]=D at app
  have dD:∀ x,x∈domD D↔x∈owns B∨x=gk∨x=m:=fun x=>by subst hD; simp [domD,zkv]
  obtain ⟨a1,a2,a3,_⟩:=app H
  obtain ⟨q1,q2⟩:=h.put (m':=m+1) (Nat.le_refl m) (by omega) a1 a2 a3
  refine ⟨_,gk :: owns B,[m],D,.inr (.inl rfl),LC.of_callsN (fun x hx => ?_) (fun x hx => ?_) (fun R hR hB H' n' hag => ?_),hq _ D q1 q2⟩
  · rcases List.mem_cons.1 hx with rfl | hx
    · rw [p1.row]; rfl
    · rcases p1.ir with ⟨rfl,_⟩ | ⟨gb,rfl,_,g1⟩
      · simp [owns] at hx
      · simp [owns] at hx; subst hx; rw [g1]; rfl
  · rcases (dD x).1 hx with h | h | h
    · exact .inl (by simp [h])
    · exact .inl (by simp [h])
    · exact .inr h
  · obtain ⟨b1,b2⟩:=hag gk (by simp)
    have p1':zxt gk (.ro (fns.map Fnc.avs)) A (.int .i64 vars) (.int .i64 high) out B H':=⟨by rw [b1]; exact p1.row,by
      rcases p1.ir with h | ⟨gb,rfl,g1,g2⟩
      · exact .inl h
      · exact .inr ⟨gb,rfl,g1,by rw [(hag gb (by simp [owns])).1]; exact g2⟩⟩
    refine zsf p1' b2 (fun g hg=>(hag g (by simp [hg])).2) hl fun H'' n'' gn h1 h2 h3 h4 h5 => ?_
    obtain ⟨c1,c2,c3,c4⟩:=app H'
    have hb:=hB gk (by simp) _ p1.row
    refine ⟨gn,h1,h2,.same _ (.int _ _),fun x hx hd => ?_,fun x o hx hxm ho => ?_,⟨_,_,c2,h4,rfl,rfl,fun j v u hv hu => ?_⟩⟩
    · have:=(not_congr (dD x)).1 hd
      simp only [not_or] at this
      exact h5 x hx this.2.1 this.1
    · rcases (dD x).1 hx with h | h | h
      · rw [c4 x h] at ho; cases ho
      · subst h
        rw [c1] at ho
        cases ho
        refine ⟨_,h3,rfl,rfl,fun j v u hv hu => ?_⟩
        match j with
        | 0=>simp at hv hu; subst hv; subst hu; exact .same _ (hb 0 _ rfl)
        | 1=>simp at hv hu; subst hv; subst hu; exact .same _ (hb 1 _ rfl)
        | 2=>simp at hv hu; subst hv; subst hu; exact .same _ (.int _ _)
        | 3=>simp at hv hu; subst hv; subst hu; exact .same _ (.int _ _)
        | 4=>simp at hv hu; subst hv; subst hu; exact .slc _ _
        | j+5=>simp at hv
      · exact absurd h hxm
    · rw [hv] at hu; cases hu
      have hm:=List.mem_of_getElem? hv
      obtain ⟨x,hx,hm⟩:=List.mem_flatten.1 hm
      obtain ⟨i,_,rfl⟩:=List.mem_map.1 hx
      refine .same _ ?_
      simp only [Ins.avs,List.mem_cons,List.not_mem_nil,or_false] at hm
      rcases hm with rfl | rfl | rfl <;> exact .int _ _
end Go.Proofs.YtpllgpgdcbgalaaDoor
set_option maxRecDepth 8000
namespace Go.Proofs.YtpllgpgdcbgalaaDoor
open Go Go.RowKit
@[simp] theorem zagu (xs:List AV) (o:Nat):(AV.rop xs o).sure=true:=rfl
@[simp] theorem zagn (xs:List AV) (o:Nat):(AV.rop xs o).cells=[AV.rop xs o]:=rfl
theorem zact {pe:Nat} {k z:Int} {t:Str} {ar:AV} {f:Fnc} {H:Heap} {n:Nat} {Q:QT} (hpe:H pe=some (.row 1 [.rop [.int .i64 k,.int .i64 z,.str t,ar] 0])) (hpn:pe < n) (hq:Q (.bool (decide (f.name=t))) H n):za Tryd.prog 84 [.agg f.avs,.ptr pe 0] H n Q:=by
  refine za.pure_call (r:=.bool (decide (f.name=t))) ?_ hq
  refine zkn _ _ _ _ _ ?_
  have ne_0:pe ≠ n∧n ≠ pe:=⟨by omega,by omega⟩
  simp [zgh,Fnc.avs,hpe,ne_0]
theorem zado {pe:Nat} {k z:Int} {t:Str} {ar:AV} {fns:List Fnc} {H:Heap} {n:Nat} (hpe:H pe=some (.row 1 [.rop [.int .i64 k,.int .i64 z,.str t,ar] 0])) (hpn:pe < n) (hl:fns.length≤4294967296) :
    za Tryd.prog 83 [.ro (fns.map Fnc.avs),.clo 84 [.ptr pe 0]] H n fun v H' n'=>v=.int .i64 (VM.idx (fns.map (·.name)) t)∧H'=H∧n'=n:=by
  refine zjd _ _ _ _ _ ?_
  simp [zfa]
  refine LP.mk (fun j xs H' n'=>∃ i:Nat,i+j=fns.length∧xs=[.ro (fns.map Fnc.avs),.clo 84 [.ptr pe 0],.int .i64 fns.length,.int .i64 i]∧H'=H∧n'=n∧t∉(fns.map (·.name)).take i) fns.length ⟨0,by omega,rfl,rfl,rfl,by simp⟩ ?_
  rintro j xs H' n' ⟨i,hi,rfl,rfl,rfl,hno⟩
  cases j with
  | zero =>
    obtain rfl:i=fns.length:=by omega
    have hno':t∉fns.map (·.name):=by rwa [List.take_of_length_le (by simp)] at hno
    have hq:VM.idx (fns.map (·.name)) t = -1:=by unfold VM.idx; rw [if_neg hno']
    simp [zcm,hq]
  | succ j =>
    have hlt:i < fns.length:=by omega
    have hlt':i < (fns.map (·.name)).length:=by simpa using hlt
    have hxl:=zjn fns[i]
    have hw:IntKind.i64.wrap ((i:Int)+1)=(i:Int)+1:=i64w (by omega)
    have hxt:fns[i].avs.take 3=fns[i].avs:=List.take_of_length_le (by omega)
    simp [zcm,hlt,hxl,hxt,CALL]
    refine zact hpe hpn ?_
    by_cases e:fns[i].name=t
    · have hq:VM.idx (fns.map (·.name)) t=i:=by
        have e':t=(fns.map (·.name))[i]:=by rw [List.getElem_map]; exact e.symm
        unfold VM.idx
        rw [if_pos (e' ▸ List.getElem_mem hlt'),znb hlt' hno e']
      simp [zcn,e,hq]
    · simp [zcn,e,hw]
      refine ⟨j,by omega,i+1,by omega,rfl,?_⟩
      intro hm
      have hts:(fns.map (·.name)).take (i+1)=(fns.map (·.name)).take i ++ [(fns.map (·.name))[i]]:=List.take_succ_eq_append_getElem _
      rw [hts,List.mem_append,List.mem_singleton,List.getElem_map] at hm
      exact hm.elim hno fun h=>e h.symm
theorem MkM.lt {gk m vars high:Nat} {fns:List Fnc} {ws:List Str} {out:List Ins} {A B:AV} {H:Heap} (h:MkM gk fns vars high ws A out B H m):(∀ g∈owns A,gk < g∧g < m)∧(∀ g∈owns B,gk < g∧g < m):=by
  have h1:=h.wr
  have h2:=h.ir
  constructor
  · cases h1 with
    | nil=>intro g hg; simp [owns] at hg
    | row a b c=>intro g hg; simp [owns] at hg; omega
  · cases h2 with
    | nil=>intro g hg; simp [owns] at hg
    | row a b c=>intro g hg; simp [owns] at hg; omega
theorem MkM.set {gk m vars high:Nat} {fns:List Fnc} {ws:List Str} {out:List Ins} {A B:AV} {H:Heap} (vars' high':Nat) (h:MkM gk fns vars high ws A out B H m):MkM gk fns vars' high' ws A out B (H.put gk (some (.row 5 [.ro (fns.map Fnc.avs),A,.int .i64 vars',.int .i64 high',B]))) m∧MExt gk A B H m A B (H.put gk (some (.row 5 [.ro (fns.map Fnc.avs),A,.int .i64 vars',.int .i64 high',B]))) m :=
  ⟨⟨Heap.put_at _ _ _,h.wr.keep (Nat.le_refl _) fun y hy _=>Heap.put_ne _ _ (by omega),h.ir.keep (Nat.le_refl _) fun y hy _=>Heap.put_ne _ _ (by omega),h.far,h.gn⟩,Nat.le_refl _,fun y _ h2 _ _=>Heap.put_ne _ _ h2,fun _ h=>.inl h,fun _ h=>.inl h⟩
theorem MkM.new {gk m vars high:Nat} {fns:List Fnc} {ws:List Str} {out:List Ins} {A B:AV} {H:Heap} (o:AObj) (h:MkM gk fns vars high ws A out B H m):MkM gk fns vars high ws A out B (H.put m (some o)) (m+1)∧MExt gk A B H m A B (H.put m (some o)) (m+1)∧Off gk A B (m+1) m:=by
  have hgn:=h.gn
  obtain ⟨l1,l2⟩:=h.lt
  exact ⟨⟨by rw [Heap.put_ne _ _ (by omega)]; exact h.row,h.wr.keep (by omega) fun y _ hy=>Heap.put_ne _ _ (by omega),h.ir.keep (by omega) fun y _ hy=>Heap.put_ne _ _ (by omega),h.far,by omega⟩,
    ⟨by omega,fun y hy _ _ _=>Heap.put_ne _ _ (by omega),fun _ h=>.inl h,fun _ h=>.inl h⟩,by omega,by omega,fun hy=>by have:=l1 _ hy; omega,fun hy=>by have:=l2 _ hy; omega⟩
def MExC (gk:Nat) (fns:List Fnc) (env:VM.Env) (x:Ex):Prop:=∀ (vars high at_:Nat) (ws:List Str) (out:List Ins) (A B a:AV) (H:Heap) (m:Nat) (Q:QT),MkM gk fns vars high ws A out B H m→Chn (Off gk A B m) H env a→ws.length+VM.exW x≤4294967296→out.length+VM.exW x≤4294967296→at_+VM.exW x≤4294967296 →
  (∀ A' B' H' m',MkM gk fns vars (max high (at_+VM.dpE x)) (VM.exI (fns.map (·.name)) env x ws).1 A' (out ++ (VM.exI (fns.map (·.name)) env x ws).2) B' H' m'→MExt gk A B H m A' B' H' m'→Q (.tup []) H' m')→za Tryd.prog 72 [.ptr gk 0,.rop x.avs 0,a,.int .i64 at_] H m Q
set_option maxHeartbeats 2000000 in
theorem zyq {gk:Nat} {fns:List Fnc} (hfl:fns.length≤4294967296) {env:VM.Env} {k z:Int} {t:Str} {ar:List Ex} (hE:∀ x∈ar,MExC gk fns env x):MExC gk fns env (.mk k z t ar):=by
  intro vars high at_ ws out A B a H m Q h hn hw ho ha hq
  unfold VM.exW at hw ho ha
  unfold VM.exI VM.dpE at hq
  refine zmh _ _ _ _ _ _ _ ?_
  have hal:=VM.len_exWL ar
  rw [zho]
  simp [zib]
  obtain ⟨h1,e1,f1⟩:=h.new (.row 1 [.rop [.int .i64 k,.int .i64 z,.str t,.ro (ar.map Ex.avs)] 0])
  have hpe:(H.put m (some (.row 1 [.rop [.int .i64 k,.int .i64 z,.str t,.ro (ar.map Ex.avs)] 0]))) m=some (.row 1 [.rop [.int .i64 k,.int .i64 z,.str t,.ro (ar.map Ex.avs)] 0]):=Heap.put_at _ _ _
  generalize H.put m (some (.row 1 [.rop [.int .i64 k,.int .i64 z,.str t,.ro (ar.map Ex.avs)] 0]))=H1 at *
  have hn1:=hn.ext e1
  generalize hnm:fns.map (·.name)=names at *
  refine LP.mk (fun j xs H' m'=>∃ (i hi':Nat) (ws':List Str) (out' l':List Ins) (A' B':AV),i+j=ar.length∧xs=[.ptr gk 0,a,.int .i64 at_,.ptr m 0,.int .i64 ar.length,.int .i64 i]∧MkM gk fns vars hi' ws' A' out' B' H' m'∧MExt gk A B H1 (m+1) A' B' H' m'∧ws'.length+VM.exWL (ar.drop i)+1≤4294967296∧out'.length+VM.exWL (ar.drop i)+1≤4294967296
    ∧ i+VM.exWL (ar.drop i)≤VM.exWL ar∧out'=out ++ l'∧(VM.exIL names env ar ws).1=(VM.exIL names env (ar.drop i) ws').1∧(VM.exIL names env ar ws).2=l' ++ (VM.exIL names env (ar.drop i) ws').2∧max hi' (at_+VM.dpA (ar.drop i) i)=max high (at_+VM.dpA ar 0)) ar.length ⟨0,high,ws,out,[],A,B,by omega,rfl,h1,MExt.refl _ _ _ _ _,by simp; omega,by simp; omega,by simp,by simp,by simp,by simp,by simp⟩ ?_
  rintro j xs H' m' ⟨i,hi',ws',out',l',A',B',hij,rfl,h',he,hw',ho',hiw,rfl,g1,g2,g3⟩
  have hpe':H' m=some (.row 1 [.rop [.int .i64 k,.int .i64 z,.str t,.ro (ar.map Ex.avs)] 0]):=by rw [(he.off f1).2]; exact hpe
  have off':=(he.off f1).1
  have hn':=hn1.ext he
  generalize hJ:(fun (xs:List AV) (H':Heap) (m':Nat)=>∃ j',j' < j∧∃ (i hi':Nat) (ws':List Str) (out' l':List Ins) (A' B':AV),i+j'=ar.length∧xs=[.ptr gk 0,a,.int .i64 at_,.ptr m 0,.int .i64 ar.length,.int .i64 i]∧MkM gk fns vars hi' ws' A' out' B' H' m'∧MExt gk A B H1 (m+1) A' B' H' m'∧ws'.length+VM.exWL (ar.drop i)+1≤4294967296∧out'.length+VM.exWL (ar.drop i)+1≤4294967296
    ∧ i+VM.exWL (ar.drop i)≤VM.exWL ar∧out'=out ++ l'∧(VM.exIL names env ar ws).1=(VM.exIL names env (ar.drop i) ws').1∧(VM.exIL names env ar ws).2=l' ++ (VM.exIL names env (ar.drop i) ws').2∧max hi' (at_+VM.dpA (ar.drop i) i)=max high (at_+VM.dpA ar 0))=J
  cases j with
  | zero =>
    obtain rfl:i=ar.length:=by omega
    rw [List.drop_length] at g1 g2 g3 hw' ho'
    simp only [VM.exIL,VM.dpA,List.append_nil] at g1 g2 g3 hw' ho'
    rw [g1,g2] at hq
    have hwa:IntKind.i64.wrap ((at_:Int)+1)=(at_:Int)+1:=i64w (by omega)
    have hmx:max (hi':Int) ((at_:Int)+1)=((max hi' (at_+1):Nat):Int):=by omega
    have hhi:max hi' (at_+1)=max high (at_+max 1 (VM.dpA ar 0)):=by omega
    obtain ⟨h2,e2⟩:=h'.set vars (max hi' (at_+1))
    have hpe2:=hpe'
    rw [← (e2.off off').2] at hpe2
    have ext2:=(e1.trans he).trans e2
    have hn2:=hn'.ext e2
    have row:=h'.row
    have hmg:m ≠ gk:=off'.2.1
    generalize hH2:H'.put gk (some (.row 5 [.ro (fns.map Fnc.avs),A',.int .i64 vars,.int .i64 ((max hi' (at_+1):Nat):Int),B']))=H2 at *
    rw [hhi] at h2
    have hlen:(out ++ l').length+1≤4294967296:=by simp only [VM.exWL] at ho'; omega
    have hwl:ws'.length+1≤4294967296:=by simp only [VM.exWL] at hw'; omega
    have fin:∀ op x y:Int,VM.hdI names env k z t ar.length ws'=(ws',[Ins.mk op x y])→za Tryd.prog 38 [.ptr gk 0,.int .i64 op,.int .i64 x,.int .i64 y] H2 m' (zu Q):=by
      intro op x y e
      rw [e] at hq
      refine zdy h2 (by omega) fun B3 H3 m3 h3 e3 => ?_
      simp [zu]
      exact hq A' B3 H3 m3 (by simpa [List.append_assoc] using h3) (ext2.trans e3)
    by_cases k1:k=1
    · subst k1
      simp [zp,row,hwa,hmx,hH2,hmg,hpe',hpe2]
      exact fin _ _ _ rfl
    by_cases k2:k=2
    · subst k2
      simp [zp,row,hwa,hmx,hH2,hmg,hpe',hpe2]
      refine zabw h2 (by omega) fun A3 H3 m3 h3 e3 => ?_
      simp [zif]
      refine zdy h3 (by omega) fun B4 H4 m4 h4 e4 => ?_
      simp [zu]
      exact hq A3 B4 H4 m4 (by simpa [List.append_assoc,VM.hdI] using h4) ((ext2.trans e3).trans e4)
    by_cases k3:k=3
    · subst k3
      simp [zp,row,hwa,hmx,hH2,hmg,hpe',hpe2]
      refine zvx hn2 ?_
      simp [zie]
      exact fin _ _ _ rfl
    by_cases k4:k=4
    · subst k4
      simp [zp,row,hwa,hmx,hH2,hmg,hpe',hpe2]
      exact fin _ _ _ rfl
    by_cases k5:k=5
    · subst k5
      simp [zp,row,hwa,hmx,hH2,hmg,hpe',hpe2]
      exact fin _ _ _ rfl
    by_cases k6:k=6
    · subst k6
      simp [zp,row,hwa,hmx,hH2,hmg,hpe',hpe2]
      exact fin _ _ _ rfl
    by_cases k7:k=7
    · subst k7
      simp [zp,row,hwa,hmx,hH2,hmg,hpe',hpe2]
      exact fin _ _ _ rfl
    by_cases k8:k=8
    · subst k8
      simp [zp,row,hwa,hmx,hH2,hmg,hpe',hpe2]
      exact fin _ _ _ rfl
    by_cases k9:k=9
    · subst k9
      simp [zp,row,hwa,hmx,hH2,hmg,hpe',hpe2]
      exact fin _ _ _ rfl
    by_cases k10:k=10
    · subst k10
      simp [zp,row,hwa,hmx,hH2,hmg,hpe',hpe2]
      exact fin _ _ _ rfl
    by_cases k11:k=11
    · subst k11
      have row2:=h2.row
      simp [zp,row,hwa,hmx,hH2,hmg,hpe',hpe2,row2]
      refine zm.of_qcr (r:=.int .i64 (VM.idx (fns.map (·.name)) t)) [m] (by simp [hpe2]) (fun Hx nx hag => ?_) (.int _ _) ?_
      · obtain ⟨g1,g2⟩:=hag m (by simp)
        exact zado (by rw [g1]; exact hpe2) g2 hfl
      · rw [hnm]
        simp [zic,hpe2]
        refine zm.put h2 (by omega) fun rd D h3 e3 => ?_
        simp [zid]
        exact hq A' _ _ _ (by simpa [List.append_assoc,VM.hdI] using h3) (ext2.trans e3)
    have e:VM.hdI names env k z t ar.length ws'=(ws',[]):=by
      unfold VM.hdI
      rw [if_neg k1,if_neg k2,if_neg k3,if_neg k4,if_neg k11,if_neg (by omega)]
    rw [e] at hq
    simp [zp,row,hwa,hmx,hH2,hmg,hpe',hpe2,k1,k2,k3,k4,k5,k6,k7,k8,k9,k10,k11]
    exact hq A' B' H2 m' (by simpa using h2) ext2
  | succ j =>
    have hlt:i < ar.length:=by omega
    have hdr:ar.drop i=ar[i] :: ar.drop (i+1):=List.drop_eq_getElem_cons hlt
    have hxl:=zbs ar[i]
    have hwi:IntKind.i64.wrap ((i:Int)+1)=(i:Int)+1:=i64w (by omega)
    have hwa:IntKind.i64.wrap ((at_:Int)+i)=((at_+i:Nat):Int):=by rw [i64w (by omega)]; omega
    rw [hdr] at g1 g2 g3 hw' ho' hiw
    simp only [VM.exIL,VM.dpA,VM.exWL] at g1 g2 g3 hw' ho' hiw
    have hpos:=VM.exW_pos ar[i]
    obtain ⟨w1,w2⟩:=VM.exI_le names env ar[i] ws'
    simp [zp,hpe',hlt,hxl,hwa]
    refine hE ar[i] (List.getElem_mem hlt) vars hi' (at_+i) ws' _ A' B' a H' m' _ h' hn' (by omega) (by omega) (by omega) fun A2 B2 H2 m2 h2 e2 => ?_
    rw [hnm] at h2
    simp [zig,hwi]
    rw [← hJ]
    refine ⟨j,by omega,i+1,_,_,_,l' ++ (VM.exI names env ar[i] ws').2,_,_,by omega,by simp,h2,he.trans e2,by omega,?_,by omega,by simp,g1,?_,?_⟩
    · simp only [List.length_append] at ho' ⊢; omega
    · rw [g2,List.append_assoc]
    · omega
mutual
theorem zts {gk:Nat} {fns:List Fnc} (hfl:fns.length≤4294967296) {env:VM.Env}:∀ x:Ex,MExC gk fns env x
  | .mk _ _ _ ar=>zyq hfl (zsg hfl ar)
theorem zsg {gk:Nat} {fns:List Fnc} (hfl:fns.length≤4294967296) {env:VM.Env}:∀ l:List Ex,∀ x∈l,MExC gk fns env x
  | [],x,h=>absurd h (by simp)
  | y :: r,x,h=>(List.mem_cons.1 h).elim (fun e=>e ▸ zts hfl y) fun h=>zsg hfl r x h
end
end Go.Proofs.YtpllgpgdcbgalaaDoor
set_option maxRecDepth 8000
namespace Go.Proofs.YtpllgpgdcbgalaaDoor
open Go Go.RowKit
namespace VM
def rsI (names:List Str) (env:Env) (b la:Nat) (k:Int) (nm:Str) (t e:List Sm) (s:MkS):MkS×Env×List Ins :=
  let p:=b+la+1
  let t':=stIL names env p t s
  let q:=p+t'.2.length+1
  let e':=stIL names env q e t'.1
  if k=1 then ((s.1,s.2+1),(nm,s.2) :: env,[⟨4,(s.2:Int),0⟩])
  else if k=2 then (s,env,[⟨4,(look env nm:Int),0⟩])
  else if k=3 then (e'.1,env,⟨16,(q:Int),0⟩ :: (t'.2 ++ (⟨15,((q+e'.2.length:Nat):Int),0⟩ :: e'.2)))
  else if k=4 then (t'.1,env,⟨16,(q:Int),0⟩ :: (t'.2 ++ [⟨15,(b:Int),0⟩]))
  else (s,env,opS k)
theorem stI_eq (names:List Str) (env:Env) (b:Nat) (k:Int) (nm:Str) (ar:List Ex) (t e:List Sm) (s:MkS) :
    stI names env b (.mk k nm ar t e) s=((rsI names env b (exIL names env ar s.1).2.length k nm t e ((exIL names env ar s.1).1,s.2)).1,(rsI names env b (exIL names env ar s.1).2.length k nm t e ((exIL names env ar s.1).1,s.2)).2.1,(exIL names env ar s.1).2 ++ (rsI names env b (exIL names env ar s.1).2.length k nm t e ((exIL names env ar s.1).1,s.2)).2.2):=by
  unfold stI rsI
  simp only
  (repeat' split) <;> rfl
def hiR (k:Int) (t e:List Sm):Nat:=if k=3 then max (hiL t) (hiL e) else if k=4 then hiL t else 0
end VM
theorem zqi (o:List Ins):(o.map Ins.avs).flatten.length=o.length*3:=zap (f:=Ins.avs) (sz:=3) (fun _=>rfl) o
theorem zqs (o1 o2:List Ins) (i:Ins) (v:Int):zao ((o1 ++ i :: o2).map Ins.avs).flatten (o1.length*3+1) [.int .i64 v]=((o1 ++ { i with a:=v } :: o2).map Ins.avs).flatten:=by
  have h1:=zqi o1
  unfold zao
  simp only [List.map_append,List.map_cons,List.flatten_append,List.flatten_cons]
  generalize (o1.map Ins.avs).flatten=f1 at *
  generalize (o2.map Ins.avs).flatten=f2 at *
  have e1:(f1 ++ (i.avs ++ f2)).take (o1.length*3+1)=f1 ++ [.int .i64 i.op]:=by
    rw [List.take_append,h1,List.take_of_length_le (by omega)]
    simp [Ins.avs]
  have e2:(f1 ++ (i.avs ++ f2)).drop (o1.length*3+1+1)=.int .i64 i.b :: f2:=by
    rw [List.drop_append,h1,List.drop_of_length_le (by omega)]
    simp [Ins.avs]
    rw [show o1.length*3+1+1 - o1.length*3=2 from by omega]
    rfl
  simp only [List.length_cons,List.length_nil,Nat.zero_add]
  rw [e1,e2]
  simp [Ins.avs]
theorem MkM.lnl {gk m vars high:Nat} {fns:List Fnc} {ws:List Str} {out:List Ins} {A B:AV} {H:Heap} (h:MkM gk fns vars high ws A out B H m) (q:AV→Prop):LNL B q=q (.int .i64 out.length):=by
  have:=h.ir
  cases this with
  | nil=>simp
  | row _ _ _=>simp
theorem MkM.patch {gk m vars high:Nat} {fns:List Fnc} {ws:List Str} {o1 o2:List Ins} {i:Ins} {A B:AV} {H:Heap} (v:Int) (h:MkM gk fns vars high ws A (o1 ++ i :: o2) B H m):∃ gb,B=.slc gb 0 (o1.length+(o2.length+1))∧H gb=some (.row 3 ((o1 ++ i :: o2).map Ins.avs).flatten)∧gb ≠ gk ∧
    MkM gk fns vars high ws A (o1 ++ { i with a:=v } :: o2) B (H.put gb (some (.row 3 ((o1 ++ { i with a:=v } :: o2).map Ins.avs).flatten))) m∧MExt gk A B H m A B (H.put gb (some (.row 3 ((o1 ++ { i with a:=v } :: o2).map Ins.avs).flatten))) m:=by
  have hir:=h.ir
  have hwr:=h.wr
  have hfar:=h.far
  generalize ho:o1 ++ i :: o2=o at *
  have hol:o.length=o1.length+(o2.length+1):=by subst ho; simp
  cases hir with
  | nil=>simp at ho
  | @row l gb b1 b2 b3 =>
    rw [hol] at *
    refine ⟨gb,rfl,b3,by omega,⟨by rw [Heap.put_ne _ _ (by omega)]; exact h.row,?_,?_,hfar,h.gn⟩,Nat.le_refl _,fun y _ _ _ hy=>Heap.put_ne _ _ (by simpa [owns] using hy),fun _ h=>.inl h,fun _ h=>.inl h⟩
    · cases hwr with
      | nil=>exact .nil
      | @row l ga a1 a2 a3=>exact .row a1 a2 (by rw [Heap.put_ne _ _ fun e=>hfar ga (by simp [owns]) (by simp [owns,e])]; exact a3)
    · have:=RowS.row (f:=Ins.avs) (sz:=3) (H:=H.put gb (some (.row 3 ((o1 ++ { i with a:=v } :: o2).map Ins.avs).flatten))) (lo:=gk+1) (hi:=m) (l:=o1 ++ { i with a:=v } :: o2) (ga:=gb) b1 b2 (Heap.put_at _ _ _)
      rw [List.length_append,List.length_cons] at this
      exact this
theorem zui {R:Nat→Prop} {H:Heap} {env:VM.Env} {a:AV} (h:Chn R H env a):a.cells=[a]∧a.sure=true∧a.one=true:=by cases h <;> exact ⟨rfl,rfl,rfl⟩
def MBlC (gk:Nat) (fns:List Fnc) (l:List Sm):Prop:=∀ (env:VM.Env) (vars high:Nat) (ws:List Str) (out:List Ins) (A B a:AV) (H:Heap) (m:Nat) (Q:QT),MkM gk fns vars high ws A out B H m→Chn (Off gk A B m) H env a→ws.length+VM.smWL l≤4294967296→vars+VM.smWL l≤4294967296→out.length+VM.inWL l≤4294967296 →
  (∀ A' B' H' m',MkM gk fns (VM.stIL (fns.map (·.name)) env out.length l (ws,vars)).1.2 (max high (VM.hiL l)) (VM.stIL (fns.map (·.name)) env out.length l (ws,vars)).1.1 A' (out ++ (VM.stIL (fns.map (·.name)) env out.length l (ws,vars)).2) B' H' m'→MExt gk A B H m A' B' H' m'→Q (.tup []) H' m')→za Tryd.prog 37 [.ptr gk 0,.ro (l.map Sm.avs),a] H m Q
theorem zacg {gk m vars high:Nat} {fns:List Fnc} {ws:List Str} {o1 o2:List Ins} {i:Ins} {A B x a y z w v:AV} {H:Heap} {Q:QT} (h:MkM gk fns vars high ws A (o1 ++ i :: o2) B H m)
    (hq:∀ H',MkM gk fns vars high ws A (o1 ++ { i with a:=((o1.length+(o2.length+1):Nat):Int) } :: o2) B H' m→MExt gk A B H m A B H' m→Q a H' m):zck [.ptr gk 0,x,a,y,z,w] (.int .i64 o1.length) Q v H m:=by
  have row:=h.row
  obtain ⟨gb,hB,hgb,hgk,h4,e4⟩:=h.patch ((o1.length+(o2.length+1):Nat):Int)
  have hfl:=zqi (o1 ++ i :: o2)
  have hsp:=zqs o1 o2 i ((o1.length+(o2.length+1):Nat):Int)
  rw [List.length_append,List.length_cons] at hfl
  generalize ((o1 ++ i :: o2).map Ins.avs).flatten=rr at *
  generalize ((o1 ++ { i with a:=((o1.length+(o2.length+1):Nat):Int) } :: o2).map Ins.avs).flatten=rr' at *
  have hsp':rr.take (o1.length*3+1) ++ AV.int .i64 ((o1.length:Int)+((o2.length:Int)+1)) :: rr.drop (o1.length*3+1+1)=rr':=by
    rw [← hsp]; unfold zao; simp
  subst hB
  simp [zck,row,hgb,hfl,hsp']
  refine ⟨by omega,by omega,?_⟩
  exact hq _ h4 e4
set_option maxHeartbeats 2000000 in
theorem zaal {gk:Nat} {fns:List Fnc} {env:VM.Env} {k:Int} {nm:Str} {arv:AV} {t e:List Sm} (hT:MBlC gk fns t) (hE:MBlC gk fns e) {vars high b:Nat} {ws:List Str} {out:List Ins} {A B a:AV} {H:Heap} {m n:Nat} {Q:QT} {K:J3} (h:MkM gk fns vars high ws A out B H m) (hn:Chn (Off gk A B m) H env a)
    (hb:b≤out.length) (hw:ws.length+VM.smWL t+VM.smWL e≤4294967296) (hv:vars+VM.smWL t+VM.smWL e+1≤4294967296) (ho:out.length+VM.inWL t+VM.inWL e+2≤4294967296)
    (hq:∀ r,r=VM.rsI (fns.map (·.name)) env b (out.length - b) k nm t e (ws,vars)→∀ a' A' B' H' m',MkM gk fns r.1.2 (max high (VM.hiR k t e)) r.1.1 A' (out ++ r.2.2) B' H' m'→MExt gk A B H m A' B' H' m'→Chn (Off gk A' B' m') H' r.2.1 a'→Q a' H' m') :
    zt Q K [.ptr gk 0,.rop [.int .i64 k,.str nm,arv,.ro (t.map Sm.avs),.ro (e.map Sm.avs)] 0,a,.int .i64 b,.int .i64 n,.int .i64 n] H m:=by
  have row:=h.row
  have hp:b+(out.length - b)+1=out.length+1:=by omega
  have opc:∀ op:Int,VM.rsI (fns.map (·.name)) env b (out.length - b) k nm t e (ws,vars)=((ws,vars),env,[Ins.mk op 0 0])→VM.hiR k t e=0→za Tryd.prog 38 [.ptr gk 0,.int .i64 op,.int .i64 0,.int .i64 0] H m (zaf Q [.ptr gk 0,.rop [.int .i64 k,.str nm,arv,.ro (t.map Sm.avs),.ro (e.map Sm.avs)] 0,a,.int .i64 b,.int .i64 n,.int .i64 n]):=by
    intro op e1 e2
    have hq':=hq _ e1.symm
    rw [e2] at hq'
    refine zdy h (by omega) fun B' H' m' h' e' => ?_
    simp [zaf]
    exact hq' a A B' H' m' (by simpa using h') e' (hn.ext e')
  by_cases k1:k=1
  · subst k1
    have hq':=hq _ rfl
    simp only [VM.rsI,VM.hiR] at hq'
    obtain ⟨n1,n2,n3⟩:=h.new (.row 3 [.str nm,.int .i64 vars,a])
    obtain ⟨s1,s2⟩:=n1.set (vars+1) high
    have c1:Chn (Off gk A B (m+1)) (H.put m (some (.row 3 [.str nm,.int .i64 vars,a]))) ((nm,vars) :: env) (.ptr m 0):=.node n3 (Heap.put_at _ _ _) (hn.ext n2)
    have hwv:IntKind.i64.wrap ((vars:Int)+1)=((vars+1:Nat):Int):=by rw [i64w (by omega)]; omega
    have hgn:=h.gn
    obtain ⟨ha1,ha2,ha3⟩:=zui hn
    have ne_0:gk ≠ m∧m ≠ gk:=⟨by omega,by omega⟩
    simp [zt,row,hwv,ha1,ha2,ha3,ne_0]
    refine zdy s1 (by omega) fun B' H' m' h' e' => ?_
    simp [zhz]
    exact hq' _ A B' H' m' (by simpa using h') ((n2.trans s2).trans e') ((c1.ext s2).ext e')
  by_cases k2:k=2
  · subst k2
    have hq':=hq _ rfl
    simp only [VM.rsI,VM.hiR] at hq'
    simp [zt]
    refine zvx hn ?_
    simp [zhy]
    refine zdy h (by omega) fun B' H' m' h' e' => ?_
    simp [zaf]
    exact hq' a A B' H' m' (by simpa using h') e' (hn.ext e')
  by_cases k3:k=3
  · subst k3
    have hq':=hq _ rfl
    simp only [VM.rsI,VM.hiR,hp,Int.reduceEq,if_true,if_false] at hq'
    obtain ⟨w1,w2,w3⟩:=VM.stIL_le (fns.map (·.name)) t env (out.length+1) (ws,vars)
    simp only at w1 w2
    simp [zt]
    refine zdy h (by omega) fun B1 H1 m1 h1 e1 => ?_
    simp [zhv]
    refine hT env _ _ _ _ A B1 a H1 m1 _ h1 (hn.ext e1) (by omega) (by omega) (by simp; omega) fun A2 B2 H2 m2 h2 e2 => ?_
    simp only [List.length_append,List.length_singleton] at h2
    simp [zhw]
    generalize VM.stIL (fns.map (·.name)) env (out.length+1) t (ws,vars)=t' at *
    refine zdy h2 (by simp; omega) fun B3 H3 m3 h3 e3 => ?_
    have row3:=h3.row
    have hv3:((out.length+(t'.2.length+1+1):Nat):Int)=((out.length+1+t'.2.length+1:Nat):Int):=by omega
    obtain ⟨gb,hB3,hgb,hgk,h4,e4⟩:=MkM.patch (o1:=out) (i:=Ins.mk 16 0 0) (o2:=t'.2 ++ [Ins.mk 15 0 0]) ((out.length+(t'.2.length+1+1):Nat):Int) (by simpa using h3)
    have hfl:=zqi (out ++ Ins.mk 16 0 0 :: (t'.2 ++ [Ins.mk 15 0 0]))
    have hsp:=zqs out (t'.2 ++ [Ins.mk 15 0 0]) (Ins.mk 16 0 0) ((out.length+(t'.2.length+1+1):Nat):Int)
    have hl4:(out ++ Ins.mk 16 ((out.length+(t'.2.length+1+1):Nat):Int) 0 :: (t'.2 ++ [Ins.mk 15 0 0])).length=out.length+1+t'.2.length+1:=by simp; omega
    simp only [List.length_append,List.length_cons,List.length_nil,Nat.zero_add] at hfl hB3
    generalize ((out ++ Ins.mk 16 0 0 :: (t'.2 ++ [Ins.mk 15 0 0])).map Ins.avs).flatten=rr at *
    have hsp':rr.take (out.length*3+1) ++ AV.int .i64 ((out.length:Int)+((t'.2.length:Int)+1+1)) :: rr.drop (out.length*3+1+1)=((out ++ Ins.mk 16 ((out.length+(t'.2.length+1+1):Nat):Int) 0 :: (t'.2 ++ [Ins.mk 15 0 0])).map Ins.avs).flatten:=by
      rw [← hsp]; unfold zao; simp
    generalize hrr':((out ++ Ins.mk 16 ((out.length+(t'.2.length+1+1):Nat):Int) 0 :: (t'.2 ++ [Ins.mk 15 0 0])).map Ins.avs).flatten=rr' at *
    subst hB3
    simp [zhx,row3,hgb,hfl,hsp']
    refine ⟨by omega,by omega,?_⟩
    have c4:=((((hn.ext e1).ext e2).ext e3).ext e4)
    refine hE env _ _ _ _ A2 _ a _ m3 _ h4 c4 (by omega) (by omega) (by rw [hl4]; omega) fun A5 B5 H5 m5 h5 e5 => ?_
    rw [hl4] at h5
    generalize VM.stIL (fns.map (·.name)) env (out.length+1+t'.2.length+1) e t'.1=e' at *
    have x5:MkM gk fns e'.1.2 (max (max high (VM.hiL t)) (VM.hiL e)) e'.1.1 A5 ((out ++ Ins.mk 16 ((out.length+(t'.2.length+1+1):Nat):Int) 0 :: t'.2) ++ Ins.mk 15 0 0 :: e'.2) B5 H5 m5:=by simpa using h5
    have hix:((out ++ Ins.mk 16 ((out.length+(t'.2.length+1+1):Nat):Int) 0 :: t'.2).length:Int)=(out.length:Int)+((t'.2.length:Int)+1):=by simp
    rw [← hix]
    refine zacg x5 fun H6 h6 e6 => ?_
    refine hq' a A5 B5 H6 m5 ?_ (((((e1.trans e2).trans e3).trans e4).trans e5).trans e6) ((c4.ext e5).ext e6)
    rw [hv3] at h6
    simp only [List.length_append,List.length_cons,List.append_assoc,List.cons_append] at h6
    rw [show max high (max (VM.hiL t) (VM.hiL e))=max (max high (VM.hiL t)) (VM.hiL e) from by omega,show out.length+1+t'.2.length+1+e'.2.length=out.length+(t'.2.length+1)+(e'.2.length+1) from by omega]
    exact h6
  by_cases k4:k=4
  · subst k4
    have hq':=hq _ rfl
    simp only [VM.rsI,VM.hiR,hp,Int.reduceEq,if_true,if_false] at hq'
    obtain ⟨w1,w2,w3⟩:=VM.stIL_le (fns.map (·.name)) t env (out.length+1) (ws,vars)
    simp only at w1 w2
    simp [zt]
    refine zdy h (by omega) fun B1 H1 m1 h1 e1 => ?_
    simp [zgu]
    refine hT env _ _ _ _ A B1 a H1 m1 _ h1 (hn.ext e1) (by omega) (by omega) (by simp; omega) fun A2 B2 H2 m2 h2 e2 => ?_
    simp only [List.length_append,List.length_singleton] at h2
    simp [zhu]
    generalize VM.stIL (fns.map (·.name)) env (out.length+1) t (ws,vars)=t' at *
    refine zdy h2 (by simp; omega) fun B3 H3 m3 h3 e3 => ?_
    have x3:MkM gk fns t'.1.2 (max high (VM.hiL t)) t'.1.1 A2 (out ++ Ins.mk 16 0 0 :: (t'.2 ++ [Ins.mk 15 (b:Int) 0])) B3 H3 m3:=by simpa using h3
    refine zacg x3 fun H6 h6 e6 => ?_
    refine hq' a A2 B3 H6 m3 ?_ (((e1.trans e2).trans e3).trans e6) (((((hn.ext e1).ext e2).ext e3)).ext e6)
    simp only [List.length_append,List.length_cons,List.length_nil] at h6
    rw [show out.length+1+t'.2.length+1=out.length+(t'.2.length+(0+1)+1) from by omega]
    exact h6
  have h0:VM.hiR k t e=0:=by unfold VM.hiR; rw [if_neg k3,if_neg k4]
  have hr:VM.rsI (fns.map (·.name)) env b (out.length - b) k nm t e (ws,vars)=((ws,vars),env,VM.opS k):=by unfold VM.rsI; simp only; rw [if_neg k1,if_neg k2,if_neg k3,if_neg k4]
  by_cases k5:k=5
  · subst k5
    simp [zt]
    exact opc 14 hr h0
  by_cases k6:k=6
  · subst k6
    simp [zt]
    exact opc 18 hr h0
  by_cases k7:k=7
  · subst k7
    simp [zt]
    exact opc 9 hr h0
  by_cases k8:k=8
  · subst k8
    simp [zt]
    exact opc 10 hr h0
  by_cases k9:k=9
  · subst k9
    simp [zt]
    exact opc 19 hr h0
  have ho0:VM.opS k=[]:=by unfold VM.opS; rw [if_neg k5,if_neg k6,if_neg k7,if_neg k8,if_neg k9]
  have hq':=hq _ hr.symm
  rw [h0,ho0] at hq'
  simp [zt,k1,k2,k3,k4,k5,k6,k7,k8,k9]
  exact hq' a A B H m (by simpa using h) (MExt.refl _ _ _ _ _) hn
end Go.Proofs.YtpllgpgdcbgalaaDoor
set_option maxRecDepth 8000
namespace Go.Proofs.YtpllgpgdcbgalaaDoor
open Go Go.RowKit
def MSmC (gk:Nat) (fns:List Fnc) (x:Sm):Prop:=∀ (env:VM.Env) (vars high:Nat) (ws:List Str) (out:List Ins) (A B a:AV) (H:Heap) (m:Nat) (Q:QT),MkM gk fns vars high ws A out B H m→Chn (Off gk A B m) H env a→ws.length+VM.smW x≤4294967296→vars+VM.smW x≤4294967296→out.length+VM.inW x≤4294967296 →
  (∀ a' A' B' H' m',MkM gk fns (VM.stI (fns.map (·.name)) env out.length x (ws,vars)).1.2 (max high (VM.hiS x)) (VM.stI (fns.map (·.name)) env out.length x (ws,vars)).1.1 A' (out ++ (VM.stI (fns.map (·.name)) env out.length x (ws,vars)).2.2) B' H' m'→MExt gk A B H m A' B' H' m'→Chn (Off gk A' B' m') H' (VM.stI (fns.map (·.name)) env out.length x (ws,vars)).2.1 a'→Q a' H' m') →
  za Tryd.prog 56 [.ptr gk 0,.rop x.avs 0,a] H m Q
set_option maxHeartbeats 2000000 in
theorem zyp {gk:Nat} {fns:List Fnc} (hfl:fns.length≤4294967296) {k:Int} {nm:Str} {ar:List Ex} {t e:List Sm} (hT:MBlC gk fns t) (hE:MBlC gk fns e):MSmC gk fns (.mk k nm ar t e):=by
  intro env vars high ws out A B a H m Q h hn hw hv ho hq
  unfold VM.smW at hw hv
  unfold VM.inW at ho
  rw [VM.stI_eq] at hq
  have hhi:VM.hiS (.mk k nm ar t e)=max (VM.dpA ar 0) (VM.hiR k t e):=by unfold VM.hiS VM.hiR; rfl
  rw [hhi] at hq
  refine zmg _ _ _ _ _ _ ?_
  have hal:=VM.len_exWL ar
  have row:=h.row
  rw [zay]
  simp [zht,row]
  rw [h.lnl]
  generalize hnm:fns.map (·.name)=names at *
  refine LP.mk (fun j xs H' m'=>∃ (i hi':Nat) (ws':List Str) (out' l':List Ins) (A' B':AV),i+j=ar.length∧xs=[.ptr gk 0,.rop [.int .i64 k,.str nm,.ro (ar.map Ex.avs),.ro (t.map Sm.avs),.ro (e.map Sm.avs)] 0,a,.int .i64 out.length,.int .i64 ar.length,.int .i64 i]∧MkM gk fns vars hi' ws' A' out' B' H' m'∧MExt gk A B H m A' B' H' m'∧ws'.length+VM.exWL (ar.drop i)≤ws.length+VM.exWL ar∧out'.length+VM.exWL (ar.drop i)≤out.length+VM.exWL ar
    ∧ i+VM.exWL (ar.drop i)≤VM.exWL ar∧out'=out ++ l'∧(VM.exIL names env ar ws).1=(VM.exIL names env (ar.drop i) ws').1∧(VM.exIL names env ar ws).2=l' ++ (VM.exIL names env (ar.drop i) ws').2∧max hi' (VM.dpA (ar.drop i) i)=max high (VM.dpA ar 0)) ar.length ⟨0,high,ws,out,[],A,B,by omega,rfl,h,MExt.refl _ _ _ _ _,by simp,by simp,by simp,by simp,by simp,by simp,by simp⟩ ?_
  rintro j xs H' m' ⟨i,hi',ws',out',l',A',B',hij,rfl,h',he,hw',ho',hiw,rfl,g1,g2,g3⟩
  have hn':=hn.ext he
  generalize hJ:(fun (xs:List AV) (H':Heap) (m':Nat)=>∃ j',j' < j∧∃ (i hi':Nat) (ws':List Str) (out' l':List Ins) (A' B':AV),i+j'=ar.length∧xs=[.ptr gk 0,.rop [.int .i64 k,.str nm,.ro (ar.map Ex.avs),.ro (t.map Sm.avs),.ro (e.map Sm.avs)] 0,a,.int .i64 out.length,.int .i64 ar.length,.int .i64 i]∧MkM gk fns vars hi' ws' A' out' B' H' m'∧MExt gk A B H m A' B' H' m'∧ws'.length+VM.exWL (ar.drop i)≤ws.length+VM.exWL ar∧out'.length+VM.exWL (ar.drop i)≤out.length+VM.exWL ar
    ∧ i+VM.exWL (ar.drop i)≤VM.exWL ar∧out'=out ++ l'∧(VM.exIL names env ar ws).1=(VM.exIL names env (ar.drop i) ws').1∧(VM.exIL names env ar ws).2=l' ++ (VM.exIL names env (ar.drop i) ws').2∧max hi' (VM.dpA (ar.drop i) i)=max high (VM.dpA ar 0))=J
  cases j with
  | zero =>
    obtain rfl:i=ar.length:=by omega
    rw [List.drop_length] at g1 g2 g3 hw' ho'
    simp only [VM.exIL,VM.dpA,VM.exWL,List.append_nil,Nat.add_zero,Nat.max_zero] at g1 g2 g3 hw' ho'
    rw [g1,g2] at hq
    have hlo:(out ++ l').length - out.length=l'.length:=by simp
    subst hnm
    refine zaal hT hE h' hn' (by simp) (by omega) (by omega) (by omega) fun r hr a2 A2 B2 H2 m2 h2 e2 c2 => ?_
    rw [hlo] at hr
    rw [← hr] at hq
    exact hq a2 A2 B2 H2 m2 (by rw [List.append_assoc] at h2; rw [show max high (max (VM.dpA ar 0) (VM.hiR k t e))=max hi' (VM.hiR k t e) from by omega]; exact h2) (he.trans e2) c2
  | succ j =>
    have hlt:i < ar.length:=by omega
    have hdr:ar.drop i=ar[i] :: ar.drop (i+1):=List.drop_eq_getElem_cons hlt
    have hxl:=zbs ar[i]
    have hwi:IntKind.i64.wrap ((i:Int)+1)=(i:Int)+1:=i64w (by omega)
    rw [hdr] at g1 g2 g3 hw' ho' hiw
    simp only [VM.exIL,VM.dpA,VM.exWL] at g1 g2 g3 hw' ho' hiw
    have hpos:=VM.exW_pos ar[i]
    obtain ⟨w1,w2⟩:=VM.exI_le names env ar[i] ws'
    simp [zt,hlt,hxl]
    refine zts hfl ar[i] vars hi' i ws' _ A' B' a H' m' _ h' hn' (by omega) (by omega) (by omega) fun A2 B2 H2 m2 h2 e2 => ?_
    rw [hnm] at h2
    simp [zia,hwi]
    rw [← hJ]
    refine ⟨j,by omega,i+1,_,_,_,l' ++ (VM.exI names env ar[i] ws').2,_,_,by omega,by simp,h2,he.trans e2,by omega,?_,by omega,by simp,g1,?_,?_⟩
    · simp only [List.length_append] at ho' ⊢; omega
    · rw [g2,List.append_assoc]
    · omega
set_option maxHeartbeats 1000000 in
theorem zmy {gk:Nat} {fns:List Fnc} {l:List Sm} (hS:∀ x∈l,MSmC gk fns x):MBlC gk fns l:=by
  intro env vars high ws out A B a H m Q h hn hw hv ho hq
  refine zlj _ _ _ _ _ _ ?_
  have hlen:=len_smWL l
  simp [zgv]
  generalize hnm:fns.map (·.name)=names at *
  refine LP.mk (fun j xs H' m'=>∃ (i hi':Nat) (s':VM.MkS) (env':VM.Env) (l':List Ins) (A' B' a':AV),i+j=l.length∧xs=[.ptr gk 0,.ro (l.map Sm.avs),a',.int .i64 l.length,.int .i64 i]∧MkM gk fns s'.2 hi' s'.1 A' (out ++ l') B' H' m'∧MExt gk A B H m A' B' H' m'∧Chn (Off gk A' B' m') H' env' a'∧s'.1.length+VM.smWL (l.drop i)≤4294967296∧s'.2+VM.smWL (l.drop i)≤4294967296∧(out ++ l').length+VM.inWL (l.drop i)≤4294967296
    ∧ (VM.stIL names env out.length l (ws,vars)).1=(VM.stIL names env' (out ++ l').length (l.drop i) s').1∧(VM.stIL names env out.length l (ws,vars)).2=l' ++ (VM.stIL names env' (out ++ l').length (l.drop i) s').2∧max hi' (VM.hiL (l.drop i))=max high (VM.hiL l)) l.length ⟨0,high,(ws,vars),env,[],A,B,a,by omega,rfl,by simpa using h,MExt.refl _ _ _ _ _,hn,by simpa using hw,by simpa using hv,by simpa using ho,by simp,by simp,by simp⟩ ?_
  rintro j xs H' m' ⟨i,hi',s',env',l',A',B',a',hij,rfl,h',he,hn',hw',hv',ho',g1,g2,g3⟩
  generalize hJ:(fun (xs:List AV) (H':Heap) (m':Nat)=>∃ j',j' < j∧∃ (i hi':Nat) (s':VM.MkS) (env':VM.Env) (l':List Ins) (A' B' a':AV),i+j'=l.length∧xs=[.ptr gk 0,.ro (l.map Sm.avs),a',.int .i64 l.length,.int .i64 i]∧MkM gk fns s'.2 hi' s'.1 A' (out ++ l') B' H' m'∧MExt gk A B H m A' B' H' m'∧Chn (Off gk A' B' m') H' env' a'∧s'.1.length+VM.smWL (l.drop i)≤4294967296∧s'.2+VM.smWL (l.drop i)≤4294967296∧(out ++ l').length+VM.inWL (l.drop i)≤4294967296
    ∧ (VM.stIL names env out.length l (ws,vars)).1=(VM.stIL names env' (out ++ l').length (l.drop i) s').1∧(VM.stIL names env out.length l (ws,vars)).2=l' ++ (VM.stIL names env' (out ++ l').length (l.drop i) s').2∧max hi' (VM.hiL (l.drop i))=max high (VM.hiL l))=J
  cases j with
  | zero =>
    obtain rfl:i=l.length:=by omega
    rw [List.drop_length] at g1 g2 g3
    simp only [VM.stIL,VM.hiL,List.append_nil,Nat.max_zero] at g1 g2 g3
    rw [g1,g2,← g3] at hq
    simp [zdq]
    exact hq A' B' H' m' h' he
  | succ j =>
    have hlt:i < l.length:=by omega
    have hdr:l.drop i=l[i] :: l.drop (i+1):=List.drop_eq_getElem_cons hlt
    have hxl:=zly l[i]
    have hwi:IntKind.i64.wrap ((i:Int)+1)=(i:Int)+1:=i64w (by omega)
    rw [hdr] at g1 g2 g3 hw' hv' ho'
    simp only [VM.stIL,VM.hiL,VM.smWL,VM.inWL] at g1 g2 g3 hw' hv' ho'
    obtain ⟨w1,w2,w3⟩:=VM.stI_le names l[i] env' (out ++ l').length s'
    simp [zdq,hlt,hxl]
    refine hS l[i] (List.getElem_mem hlt) env' s'.2 hi' s'.1 _ A' B' a' H' m' _ h' hn' (by omega) (by omega) (by omega) fun a2 A2 B2 H2 m2 h2 e2 c2 => ?_
    rw [hnm] at h2 c2
    simp [zgw,hwi]
    rw [← hJ]
    have hl2:(out ++ (l' ++ (VM.stI names env' (out ++ l').length l[i] s').2.2)).length=(out ++ l').length+(VM.stI names env' (out ++ l').length l[i] s').2.2.length:=by simp; omega
    refine ⟨j,by omega,i+1,_,(VM.stI names env' (out ++ l').length l[i] s').1,_,l' ++ (VM.stI names env' (out ++ l').length l[i] s').2.2,_,_,a2,by omega,by simp,by rw [← List.append_assoc]; exact h2,he.trans e2,c2,by omega,by omega,by rw [hl2]; omega,by rw [hl2]; exact g1,by rw [hl2,g2,List.append_assoc],by omega⟩
mutual
theorem zaak {gk:Nat} {fns:List Fnc} (hfl:fns.length≤4294967296):∀ x:Sm,MSmC gk fns x
  | .mk _ _ _ t e=>zyp hfl (zmy (zkt hfl t)) (zmy (zkt hfl e))
theorem zkt {gk:Nat} {fns:List Fnc} (hfl:fns.length≤4294967296):∀ l:List Sm,∀ x∈l,MSmC gk fns x
  | [],x,h=>absurd h (by simp)
  | y :: r,x,h=>(List.mem_cons.1 h).elim (fun e=>e ▸ zaak hfl y) fun h=>zkt hfl r x h
end
end Go.Proofs.YtpllgpgdcbgalaaDoor
set_option maxRecDepth 8000
namespace Go.Proofs.YtpllgpgdcbgalaaDoor
open Go Go.RowKit
theorem MkM.same {gk m m' vars high:Nat} {fns:List Fnc} {ws:List Str} {out:List Ins} {A B:AV} {H H':Heap} (h:MkM gk fns vars high ws A out B H m) (hm:m≤m') (hk:∀ y,y=gk∨y∈owns A∨y∈owns B→H' y=H y):MkM gk fns vars high ws A out B H' m':=by
  have h1:=h.wr
  have h2:=h.ir
  have hgn:=h.gn
  refine ⟨by rw [hk gk (.inl rfl)]; exact h.row,?_,?_,h.far,by omega⟩
  · cases h1 with
    | nil=>exact .nil
    | @row l ga a b c=>exact .row a (by omega) (by rw [hk ga (.inr (.inl (by simp [owns])))]; exact c)
  · cases h2 with
    | nil=>exact .nil
    | @row l ga a b c=>exact .row a (by omega) (by rw [hk ga (.inr (.inr (by simp [owns])))]; exact c)
theorem MkM.reset {gk m vars high:Nat} {fns:List Fnc} {ws:List Str} {out:List Ins} {A B:AV} {H H':Heap} (vars':Nat) (h:MkM gk fns vars high ws A out B H m) (hr:H' gk=some (.row 5 [.ro (fns.map Fnc.avs),A,.int .i64 vars',.int .i64 (0:Nat),.nils])) (hk:∀ y,y ≠ gk→H' y=H y):MkM gk fns vars' 0 ws A [] .nils H' m :=
  ⟨hr,h.wr.keep (Nat.le_refl _) fun y hy _=>hk y (by omega),.nil,fun y _ hy=>by simp [owns] at hy,h.gn⟩
def rawC (p:Cod×AV):List AV:=[.int .i64 p.1.params,.int .i64 p.1.vars,p.2]
theorem ztq (p:Cod×AV):(rawC p).length=3:=rfl
structure CdS (R:Nat→Prop) (H:Heap) (cs:List (Cod×AV)) (C:AV):Prop where
  row:(C=.nils∧cs=[])∨∃ gc,C=.slc gc 0 cs.length∧R gc∧H gc=some (.row 3 (cs.map rawC).flatten)
  ent:∀ p∈cs,∃ gi,p.2=.slc gi 0 p.1.ins.length∧R gi∧H gi=some (.row 3 (p.1.ins.map Ins.avs).flatten)∧gi∉owns C
theorem CdS.mono {R R':Nat→Prop} {H H':Heap} {cs:List (Cod×AV)} {C:AV} (h:CdS R H cs C) (hr:∀ g,R g→R' g∧H' g=H g):CdS R' H' cs C:=by
  refine ⟨?_,fun p hp => ?_⟩
  · rcases h.row with h1 | ⟨gc,h1,h2,h3⟩
    · exact .inl h1
    · exact .inr ⟨gc,h1,(hr _ h2).1,by rw [(hr _ h2).2]; exact h3⟩
  · obtain ⟨gi,h1,h2,h3,h4⟩:=h.ent p hp
    exact ⟨gi,h1,(hr _ h2).1,by rw [(hr _ h2).2]; exact h3,h4⟩
theorem zadu (R:Nat→Prop) (l:List Ins):∀ c∈(l.map Ins.avs).flatten,Bel R c:=by
  intro c hc
  obtain ⟨x,hx,hc⟩:=List.mem_flatten.1 hc
  obtain ⟨i,_,rfl⟩:=List.mem_map.1 hx
  simp only [Ins.avs,List.mem_cons,List.not_mem_nil,or_false] at hc
  rcases hc with rfl | rfl | rfl <;> exact .int _ _
theorem CdS.frz {R:Nat→Prop} {H:Heap} {cs:List (Cod×AV)} {C:AV} {n:Nat} (h:CdS R H cs C) (hR:∀ g,R g→n≤g):Frz H n C (.ro (cs.map fun p=>p.1.avs)):=by
  have key:∀ l:List (Cod×AV),(∀ p∈l,∃ gi,p.2=.slc gi 0 p.1.ins.length∧R gi∧H gi=some (.row 3 (p.1.ins.map Ins.avs).flatten)∧gi∉owns C)→FL H n (l.map rawC).flatten (l.map fun p=>p.1.avs).flatten:=by
    intro l
    induction l with
    | nil=>intro _; exact .nil
    | cons p r ih =>
      intro hl
      rw [List.map_cons,List.flatten_cons,List.map_cons,List.flatten_cons]
      refine FL.append ?_ (ih fun q hq=>hl q (by simp [hq]))
      obtain ⟨gi,e1,e2,e3,_⟩:=hl p (by simp)
      refine .cons (.same _ (.int _ _)) (.cons (.same _ (.int _ _)) (.cons ?_ .nil))
      rw [e1]
      exact Frz.rowW (hR _ e2) e3 (by simp) (fun x hx=>by obtain ⟨i,_,rfl⟩:=List.mem_map.1 hx; rfl) (FL.same (zadu _ _))
  rcases h.row with ⟨rfl,rfl⟩ | ⟨gc,rfl,h2,h3⟩
  · exact .nils
  · exact Frz.rowW (hR _ h2) h3 (by simp) (fun x hx=>by obtain ⟨p,_,rfl⟩:=List.mem_map.1 hx; rfl) (key cs h.ent)
def Ours (n:Nat) (A:AV) (m g:Nat):Prop:=n+2 < g∧Off (n+1) A .nils m g
structure MaL (H0:Heap) (n:Nat) (fns:List Fnc) (ws:List Str) (A C:AV) (cs:List (Cod×AV)) (H:Heap) (m:Nat):Prop where
  mx:∃ vars high out B,MkM (n+1) fns vars high ws A out B H m
  r0:H n=some (.row 2 [.nils,.nils])
  rp:H (n+2)=some (.row 2 [C,.nils])
  op:n+2∉owns A
  cd:CdS (Ours n A m) H cs C
  keep:∀ y,y < n→H y=H0 y
  bm:n+2 < m
theorem zrs:∀ (ps:List Str) (i:Nat) (env:VM.Env) (x:Str),VM.penv (ps ++ [x]) i env=(x,i+ps.length) :: VM.penv ps i env
  | [],i,env,x=>rfl
  | p :: r,i,env,x=>by
    show VM.penv (r ++ [x]) (i+1) _=_
    rw [zrs r (i+1)]
    simp only [List.length_cons]
    rw [show i+1+r.length=i+(r.length+1) from by omega]
    rfl
end Go.Proofs.YtpllgpgdcbgalaaDoor
