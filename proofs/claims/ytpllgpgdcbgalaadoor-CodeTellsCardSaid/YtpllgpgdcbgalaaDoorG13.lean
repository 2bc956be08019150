/- code: Make, function by function. code: Make tells the plain function's program. The document's Make, function by function. The document's Make tells the plain function's program. CodeTells. The library's laid variables, where a row lists five of them: three tables, two errors. The wrap of a law's row that lists variables, the world's shape kept. -/
import Derived.Test.YtpllgpgdcbgalaaDoorG12
import Derived.Test.YtpllgpgdcbgalaaDoorG1
import Derived.Stop.LaidErr
import Derived.Handed
import Derived.HandedShaped
import Derived.Shelf.Vars
set_option linter.unusedSimpArgs false
set_option linter.unusedVariables false
set_option maxRecDepth 8000
namespace Go.Proofs.YtpllgpgdcbgalaaDoor
open Go Go.RowKit
set_option maxHeartbeats 2000000 in
theorem zys {H0 H:Heap} {n m i:Nat} {fns:List Fnc} {ws:List Str} {A C:AV} {cs:List (Cod×AV)} {Q:QT} {K:J3} (h:MaL H0 n fns ws A C cs H m) (hi:i < fns.length)
    (hq:∀ H1,MkM (n+1) fns fns[i].params.length 0 ws A [] .nils H1 (m+1)→Off (n+1) A .nils (m+1) m→H1 m=some (.row 3 fns[i].avs)→H1 n=some (.row 2 [.nils,.nils])→H1 (n+2)=some (.row 2 [C,.nils])→CdS (Ours n A m) H1 cs C→(∀ y,y < n→H1 y=H0 y) →
      LP (zeb Q K) [.ptr n 0,.ptr (n+1) 0,.ptr (n+2) 0,.ptr m 0,.nilp,.ro (fns.map Fnc.avs),.int .i64 fns.length,.int .i64 i,.ro (fns[i].params.map strC),.int .i64 fns[i].params.length,.int .i64 0] H1 (m+1)) :
    zgi Q K [.ptr n 0,.ptr (n+1) 0,.ptr (n+2) 0,.ro (fns.map Fnc.avs),.int .i64 fns.length,.int .i64 i] H m:=by
  obtain ⟨vars,high,out,B,mk⟩:=h.mx
  have row:=mk.row
  have hbm:=h.bm
  have hxl:=zjn fns[i]
  have hxt:fns[i].avs.take 3=fns[i].avs:=List.take_of_length_le (by omega)
  have e0:fns[i].avs=[.str fns[i].name,.ro (fns[i].params.map strC),.ro (fns[i].body.map Sm.avs)]:=rfl
  have hsl:=fun H=>zqr (H:=H) (zmu (l:=fns[i].params))
  have ne_0:n ≠ n+1∧n+1 ≠ n∧n ≠ n+2∧n+2 ≠ n∧n+1 ≠ n+2∧n+2 ≠ n+1∧n ≠ m∧m ≠ n∧n+1 ≠ m∧m ≠ n+1∧n+2 ≠ m∧m ≠ n+2:=⟨by omega,by omega,by omega,by omega,by omega,by omega,by omega,by omega,by omega,by omega,by omega,by omega⟩
  simp [zgi,hi,hxl,hxt,row,e0,ne_0]
  obtain ⟨n1,n2,n3⟩:=mk.new (.row 3 [.str fns[i].name,.ro (fns[i].params.map strC),.ro (fns[i].body.map Sm.avs)])
  have cd:=h.cd
  have op:=h.op
  refine hq _ (n1.reset _ (Heap.put_at _ _ _) fun y hy=>Heap.put_ne _ _ hy) ⟨by omega,by omega,n3.2.2.1,by simp [owns]⟩ (by rw [Heap.put_ne _ _ (by omega),Heap.put_at]; rfl) ?_ ?_ (cd.mono fun g hg=>⟨hg,?_⟩) fun y hy => ?_
  · rw [Heap.put_ne _ _ (by omega),Heap.put_ne _ _ (by omega)]; exact h.r0
  · rw [Heap.put_ne _ _ (by omega),Heap.put_ne _ _ (by omega)]; exact h.rp
  · obtain ⟨g1,g2,g3,_⟩:=hg
    rw [Heap.put_ne _ _ (by omega),Heap.put_ne _ _ (by omega)]
  · rw [Heap.put_ne _ _ (by omega),Heap.put_ne _ _ (by omega)]; exact h.keep y hy
set_option maxHeartbeats 2000000 in
theorem zyt {H1:Heap} {n m i:Nat} {fns:List Fnc} (hfl:fns.length≤4294967296) {ws:List Str} {A:AV} {Q:QT} {K:J3} (hi:i < fns.length) (hnm:n+2 < m)
    (hw:ws.length+VM.smWL fns[i].body≤2147483000) (hv:fns[i].params.length+VM.smWL fns[i].body≤2147483000)
    (h1:MkM (n+1) fns fns[i].params.length 0 ws A [] .nils H1 (m+1)) (hf:Off (n+1) A .nils (m+1) m) (hr:H1 m=some (.row 3 fns[i].avs)) (hop:n+2∉owns A)
    (hq:∀ a v e A' B' H' m',e=VM.stIL (fns.map (·.name)) (VM.penv fns[i].params 0 []) 0 fns[i].body (ws,fns[i].params.length)→MkM (n+1) fns e.1.2 (VM.hiL fns[i].body) e.1.1 A' (e.2 ++ [⟨1,0,0⟩,⟨18,0,0⟩]) B' H' m'→MExt (n+1) A .nils H1 (m+1) A' B' H' m' →
      zce [.ptr n 0,.ptr (n+1) 0,.ptr (n+2) 0,.ptr m 0,a,.ro (fns.map Fnc.avs),.int .i64 fns.length,.int .i64 i,.ro (fns[i].params.map strC),.int .i64 fns[i].params.length,.int .i64 fns[i].params.length] Q K v H' m') :
    LP (zeb Q K) [.ptr n 0,.ptr (n+1) 0,.ptr (n+2) 0,.ptr m 0,.nilp,.ro (fns.map Fnc.avs),.int .i64 fns.length,.int .i64 i,.ro (fns[i].params.map strC),.int .i64 fns[i].params.length,.int .i64 0] H1 (m+1):=by
  generalize hps:fns[i].params=ps at *
  refine LP.mk (fun j xs H' m'=>∃ (p:Nat) (a:AV),p+j=ps.length∧xs=[.ptr n 0,.ptr (n+1) 0,.ptr (n+2) 0,.ptr m 0,a,.ro (fns.map Fnc.avs),.int .i64 fns.length,.int .i64 i,.ro (ps.map strC),.int .i64 ps.length,.int .i64 p]∧MkM (n+1) fns ps.length 0 ws A [] .nils H' m'∧MExt (n+1) A .nils H1 (m+1) A .nils H' m'∧Chn (Off (n+1) A .nils m') H' (VM.penv (ps.take p) 0 []) a) ps.length ⟨0,.nilp,by omega,rfl,h1,MExt.refl _ _ _ _ _,.nil⟩ ?_
  rintro j xs H' m' ⟨p,a,hpj,rfl,mk,he,ch⟩
  have hr':H' m=some (.row 3 fns[i].avs):=by rw [(he.off hf).2]; exact hr
  have e0:fns[i].avs=[.str fns[i].name,.ro (fns[i].params.map strC),.ro (fns[i].body.map Sm.avs)]:=rfl
  generalize hJ:(fun (xs:List AV) (H':Heap) (m':Nat)=>∃ j',j' < j∧∃ (p:Nat) (a:AV),p+j'=ps.length∧xs=[.ptr n 0,.ptr (n+1) 0,.ptr (n+2) 0,.ptr m 0,a,.ro (fns.map Fnc.avs),.int .i64 fns.length,.int .i64 i,.ro (ps.map strC),.int .i64 ps.length,.int .i64 p]∧MkM (n+1) fns ps.length 0 ws A [] .nils H' m'∧MExt (n+1) A .nils H1 (m+1) A .nils H' m'∧Chn (Off (n+1) A .nils m') H' (VM.penv (ps.take p) 0 []) a)=J
  cases j with
  | zero =>
    obtain rfl:p=ps.length:=by omega
    rw [List.take_length] at ch
    have hin:=VM.inWL_le fns[i].body
    obtain ⟨w1,w2,w3⟩:=VM.stIL_le (fns.map (·.name)) fns[i].body (VM.penv ps 0 []) 0 (ws,ps.length)
    simp [zeb,hr',e0]
    refine zmy (zkt hfl _) _ _ _ _ _ A .nils a H' m' _ mk ch (by omega) (by omega) (by simp; omega) fun A2 B2 H2 m2 h2 e2 => ?_
    simp [zon]
    simp only [List.length_nil,List.nil_append,Nat.zero_max] at h2
    refine zdy h2 (by omega) fun B3 H3 m3 h3 e3 => ?_
    simp [zoo]
    refine zdy h3 (by simp; omega) fun B4 H4 m4 h4 e4 => ?_
    exact hq a _ _ A2 B4 H4 m4 rfl (by simpa using h4) (((he.trans e2).trans e3).trans e4)
  | succ j =>
    have hlt:p < ps.length:=by omega
    have hx:ps[p]? = some ps[p]:=List.getElem?_eq_getElem hlt
    have hwi:IntKind.i64.wrap ((p:Int)+1)=(p:Int)+1:=i64w (by omega)
    obtain ⟨n1,n2,n3⟩:=mk.new (.row 3 [.str ps[p],.int .i64 p,a])
    have c1:Chn (Off (n+1) A .nils (m'+1)) (H'.put m' (some (.row 3 [.str ps[p],.int .i64 p,a]))) (VM.penv (ps.take (p+1)) 0 []) (.ptr m' 0):=by
      have e:ps.take (p+1)=ps.take p ++ [ps[p]]:=List.take_succ_eq_append_getElem hlt
      rw [e,zrs,List.length_take,Nat.min_eq_left (by omega),Nat.zero_add]
      exact .node n3 (Heap.put_at _ _ _) (ch.ext n2)
    obtain ⟨ha1,ha2,ha3⟩:=zui ch
    simp [zeb,hlt,strC,hwi,ha1,ha2,ha3]
    rw [← hJ]
    exact ⟨j,by omega,p+1,.ptr m' 0,by omega,by simp,n1,he.trans n2,c1⟩
theorem ztt {H0 H H':Heap} {n m gb:Nat} {fns:List Fnc} {ws':List Str} {vars high:Nat} {out:List Ins} {A C:AV} {cs:List (Cod×AV)} {c:Cod} (hc:c.ins=out)
    (h1:MkM (n+1) fns vars high ws' A out (.slc gb 0 out.length) H m) (q1:n+2 < gb) (q2:gb < m) (q3:H gb=some (.row 3 (out.map Ins.avs).flatten)) (on:Off (n+1) A (.slc gb 0 out.length) m n) (op:Off (n+1) A (.slc gb 0 out.length) m (n+2))
    (cd:CdS (fun y=>n+2 < y∧Off (n+1) A (.slc gb 0 out.length) m y) H cs C) (k0:∀ y,y < n→H y=H0 y) (r0:H n=some (.row 2 [.nils,.nils]))
    (old:∀ y,y < m→y ≠ n+2→y∉owns C→H' y=H y) (rp:H' (n+2)=some (.row 2 [.slc (m+1) 0 (cs.length+1),.nils])) (nw:H' (m+1)=some (.row 3 ((cs ++ [(c,AV.slc gb 0 out.length)]).map rawC).flatten)) :
    MaL H0 n fns ws' A (.slc (m+1) 0 (cs.length+1)) (cs ++ [(c,.slc gb 0 out.length)]) H' (m+1+1):=by
  obtain ⟨lA,lB⟩:=h1.lt
  have hgn:=h1.gn
  have hC:∀ y∈owns C,n+2 < y∧Off (n+1) A (.slc gb 0 out.length) m y:=by
    intro y hy
    rcases cd.row with ⟨rfl,_⟩ | ⟨gc,rfl,h2,_⟩
    · simp [owns] at hy
    · simp [owns] at hy; subst hy; exact h2
  have hgC:gb∉owns C:=fun hy=>(hC gb hy).2.2.2.2 (by simp [owns])
  refine ⟨⟨vars,high,out,_,h1.same (by omega) fun y hy => ?_⟩,?_,rp,op.2.2.1,⟨?_,fun p hp => ?_⟩,fun y hy => ?_,by omega⟩
  · rcases hy with rfl | hy | hy
    · exact old _ hgn (by omega) fun hy=>absurd (hC _ hy).1 (by omega)
    · exact old y (lA y hy).2 (fun e=>op.2.2.1 (e ▸ hy)) fun hy2=>(hC y hy2).2.2.2.1 hy
    · exact old y (lB y hy).2 (fun e=>op.2.2.2 (e ▸ hy)) fun hy2=>(hC y hy2).2.2.2.2 hy
  · rw [old n on.1 (by omega) fun hy=>absurd (hC _ hy).1 (by omega)]; exact r0
  · exact .inr ⟨m+1,by simp,⟨by omega,by omega,by omega,fun hy=>absurd (lA _ hy).2 (by omega),by simp [owns]⟩,nw⟩
  · rcases List.mem_append.1 hp with hp | hp
    · obtain ⟨gi,e1,⟨e2,e3⟩,e4,e5⟩:=cd.ent p hp
      have:=e3.1
      exact ⟨gi,e1,⟨e2,by omega,e3.2.1,e3.2.2.1,by simp [owns]⟩,by rw [old gi e3.1 (by omega) e5]; exact e4,by simp [owns]; omega⟩
    · rw [List.mem_singleton.1 hp]
      refine ⟨gb,by rw [hc],⟨q1,by omega,by omega,fun hy=>h1.far gb hy (by simp [owns]),by simp [owns]⟩,by rw [old gb q2 (by omega) hgC,hc]; exact q3,by simp [owns]; omega⟩
  · rw [old y (by omega) (by omega) fun hy2=>absurd (hC _ hy2).1 (by omega)]; exact k0 y hy
set_option maxHeartbeats 2000000 in
theorem zyr {H0 H1 H:Heap} {n m m1 i:Nat} {fns:List Fnc} (hfl:fns.length≤4294967296) {ws':List Str} {vars high:Nat} {out:List Ins} {A B C A1 a v x:AV} {cs:List (Cod×AV)} {Q:QT} {K:J3} (hi:i < fns.length) (hcl:cs.length≤4294967296) (hol:out.length≤4294967296) (hon:out ≠ [])
    (h1:MkM (n+1) fns vars high ws' A out B H m) (he:MExt (n+1) A1 .nils H1 m1 A B H m) (hnm:n+2 < m1) (hf:∃ g,g < m1∧Off (n+1) A1 .nils m1 g∧n+2 < g∧H1 g=some (.row 3 fns[i].avs)∧x=AV.ptr g 0) (hop:n+2∉owns A1) (hon2:n∉owns A1)
    (hr0:H1 n=some (.row 2 [.nils,.nils])) (hrp:H1 (n+2)=some (.row 2 [C,.nils])) (cd:CdS (Ours n A1 m1) H1 cs C) (hk0:∀ y,y < n→H1 y=H0 y) (hAn:∀ y,y < n→y∉owns A1)
    (hbad:200 < out.length∨16 < high→∀ H' m',(∀ y,y < n→H' y=H0 y)→Q (.tup [.agg [.nils,.nils],.int .i64 4]) H' m')
    (hok:¬ (200 < out.length∨16 < high)→∀ C' B' H' m',MaL H0 n fns ws' A C' (cs ++ [(⟨(fns[i].params.length:Int),(vars:Int),out⟩,B')]) H' m'→K [.ptr n 0,.ptr (n+1) 0,.ptr (n+2) 0,.ro (fns.map Fnc.avs),.int .i64 fns.length,.int .i64 ((i:Int)+1)] H' m') :
    zce [.ptr n 0,.ptr (n+1) 0,.ptr (n+2) 0,x,a,.ro (fns.map Fnc.avs),.int .i64 fns.length,.int .i64 i,.ro (fns[i].params.map strC),.int .i64 fns[i].params.length,.int .i64 fns[i].params.length] Q K v H m:=by
  have row:=h1.row
  have hle:=he.le
  have on:Off (n+1) A1 .nils m1 n:=⟨by omega,by omega,hon2,by simp [owns]⟩
  have op:Off (n+1) A1 .nils m1 (n+2):=⟨by omega,by omega,hop,by simp [owns]⟩
  have k0:∀ y,y < n→H y=H0 y:=fun y hy=>by rw [(he.off ⟨by omega,by omega,hAn y hy,by simp [owns]⟩).2]; exact hk0 y hy
  obtain ⟨on',en⟩:=he.off on
  obtain ⟨op',ep⟩:=he.off op
  rw [hr0] at en
  rw [hrp] at ep
  obtain ⟨g,g1,g2,g3,g4,rfl⟩:=hf
  obtain ⟨og',eg⟩:=he.off g2
  rw [g4] at eg
  have cd':CdS (fun y=>n+2 < y∧Off (n+1) A B m y) H cs C:=cd.mono fun y hy=>⟨⟨hy.1,(he.off hy.2).1⟩,(he.off hy.2).2⟩
  have hwi:IntKind.i64.wrap ((i:Int)+1)=(i:Int)+1:=i64w (by omega)
  have lnl:=h1.lnl
  have e0:fns[i].avs=[.str fns[i].name,.ro (fns[i].params.map strC),.ro (fns[i].body.map Sm.avs)]:=rfl
  rw [e0] at eg
  by_cases b1:200 < out.length
  · have b1':(200:Int) < out.length:=by omega
    simp [zce,row,lnl,b1',en]
    exact hbad (.inl b1) _ _ fun y hy=>by rw [Heap.put_ne _ _ (by omega)]; exact k0 y hy
  by_cases b2:16 < high
  · have b1':¬ (200:Int) < out.length:=by omega
    have b2':(16:Int) < high:=by omega
    simp [zce,row,lnl,b1',b2',en]
    exact hbad (.inr b2) _ _ fun y hy=>by rw [Heap.put_ne _ _ (by omega)]; exact k0 y hy
  have b1':¬ (200:Int) < out.length:=by omega
  have b2':¬ (16:Int) < high:=by omega
  have hB:∃ gb,B=.slc gb 0 out.length∧n+2 < gb∧gb < m∧H gb=some (.row 3 (out.map Ins.avs).flatten):=by
    have hir:=h1.ir
    cases hir with
    | nil=>exact absurd rfl hon
    | @row l gb a b c =>
      refine ⟨gb,rfl,?_,b,c⟩
      have:=op'.2.2.2
      simp [owns] at this
      omega
  obtain ⟨gb,rfl,q1,q2,q3⟩:=hB
  rcases cd'.row with ⟨rfl,rfl⟩ | ⟨gc,rfl,⟨c1,c2⟩,c3⟩
  · have _u:=b1
    have ne_1:n ≠ n+1∧n+1 ≠ n∧n ≠ n+2∧n+2 ≠ n∧n+1 ≠ n+2∧n+2 ≠ n+1∧n ≠ m∧m ≠ n∧n ≠ m+1∧m+1 ≠ n∧n+1 ≠ m∧m ≠ n+1∧n+1 ≠ m+1∧m+1 ≠ n+1∧n+2 ≠ m∧m ≠ n+2∧n+2 ≠ m+1∧m+1 ≠ n+2:=⟨by omega,by omega,by omega,by omega,by omega,by omega,by omega,by omega,by omega,by omega,by omega,by omega,by omega,by omega,by omega,by omega,by omega,by omega⟩
    simp [zce,row,b1',b2',eg,ep,hwi,ne_1]
    refine hok (by omega) _ _ _ _ (ztt rfl h1 q1 q2 q3 on' op' cd' k0 en (fun y y1 y2 _ => ?_) (Heap.put_at _ _ _) ?_)
    · rw [Heap.put_ne _ _ y2,Heap.put_ne _ _ (by omega),Heap.put_ne _ _ (by omega)]
    · rw [Heap.put_ne _ _ (by omega),Heap.put_at]; rfl
  · have hgb:gc ≠ gb:=fun e=>c2.2.2.2 (by simp [owns,e])
    have hcm:=c2.1
    have rl:=zap (f:=rawC) (sz:=3) ztq cs
    have h1b:(cs.length+1)*40≤140737488355328:=by omega
    have hsn:=zbu (f:=rawC) cs (⟨(fns[i].params.length:Int),(vars:Int),out⟩,.slc gb 0 out.length)
    generalize (cs.map rawC).flatten=rr at *
    have h3:rr.take (cs.length*3)=rr:=List.take_of_length_le (by omega)
    have ne_2:n ≠ n+1∧n+1 ≠ n∧n ≠ n+2∧n+2 ≠ n∧n ≠ gc∧gc ≠ n∧n+1 ≠ n+2∧n+2 ≠ n+1∧n+1 ≠ gc∧gc ≠ n+1∧n+2 ≠ gc∧gc ≠ n+2∧n ≠ m∧m ≠ n∧n ≠ m+1∧m+1 ≠ n∧n+1 ≠ m∧m ≠ n+1∧n+1 ≠ m+1∧m+1 ≠ n+1∧n+2 ≠ m∧m ≠ n+2∧n+2 ≠ m+1∧m+1 ≠ n+2∧gc ≠ m∧m ≠ gc∧gc ≠ m+1∧m+1 ≠ gc:=⟨by omega,by omega,by omega,by omega,by omega,by omega,by omega,by omega,by omega,by omega,by omega,by omega,by omega,by omega,by omega,by omega,by omega,by omega,by omega,by omega,by omega,by omega,by omega,by omega,by omega,by omega,by omega,by omega⟩
    simp [zce,row,b1',b2',eg,ep,hwi,c3,rl,h1b,h3,ne_2]
    refine hok (by omega) _ _ _ _ (ztt rfl h1 q1 q2 q3 on' op' cd' k0 en (fun y y1 y2 y3 => ?_) (Heap.put_at _ _ _) ?_)
    · simp [owns] at y3
      rw [Heap.put_ne _ _ y2,Heap.put_ne _ _ (by omega),Heap.put_ne _ _ y3,Heap.put_ne _ _ (by omega)]
    · rw [Heap.put_ne _ _ (by omega),Heap.put_at,hsn]; rfl
end Go.Proofs.YtpllgpgdcbgalaaDoor
set_option maxRecDepth 8000
namespace Go.Proofs.YtpllgpgdcbgalaaDoor
open Go Go.RowKit
theorem VM.mkL_cons (names:List Str) (f:Fnc) (r:List Fnc) (ws:List Str):VM.mkL names (f :: r) ws=if 200 < (VM.fnI names f ws).2.ins.length∨16 < VM.hiL f.body then none else (VM.mkL names r (VM.fnI names f ws).1).map fun p=>((VM.fnI names f ws).2 :: p.1,p.2):=rfl
theorem MaL.frzA {H0 H H':Heap} {n m:Nat} {fns:List Fnc} {ws:List Str} {A C:AV} {cs:List (Cod×AV)} (h:MaL H0 n fns ws A C cs H m) (hk:∀ y,y ≠ n→y ≠ n+2→H' y=H y):Frz H' n A (.ro (ws.map fun w=>[.str w])):=by
  obtain ⟨vars,high,out,B,mk⟩:=h.mx
  have hwr:=mk.wr
  have hop:=h.op
  cases hwr with
  | nil=>exact .nils
  | @row l ga a b c =>
    simp [owns] at hop
    exact Frz.rowW (by omega) (by rw [hk ga (by omega) (by omega)]; exact c) (by simp) (fun x hx=>by obtain ⟨y,_,rfl⟩:=List.mem_map.1 hx; rfl) (FL.same fun v hv=>by
      obtain ⟨x,hx,hv⟩:=List.mem_flatten.1 hv
      obtain ⟨y,_,rfl⟩:=List.mem_map.1 hx
      rw [List.mem_singleton.1 hv]
      exact .str _)
set_option maxHeartbeats 2000000 in
theorem zadb (l:List Fnc) (hl:l.length≤4294967296) (hw:zax l≤2147483000):QC Tryd.prog 16 [.ro (l.map Fnc.avs)] (.tup [.agg (VM.makeP l).1.avs,.int .i64 (VM.makeP l).2]):=by
  refine QC.of' fun H n => ?_
  suffices main:∀ Q:QT,(∀ v H' n',Frz H' n v (.tup [.agg (VM.makeP l).1.avs,.int .i64 (VM.makeP l).2])→Keep n H' H→Q v H' n')→za Tryd.prog 16 [.ro (l.map Fnc.avs)] H n Q from main _ fun v H' n' a b=>⟨a,b⟩
  intro Q hq
  refine zrh _ _ _ _ ?_
  simp [zom]
  have m0:MaL H n l [] .nils .nils [] (((H.put n (some (.row 2 [.nils,.nils]))).put (n+1) (some (.row 5 [.ro (l.map Fnc.avs),.nils,.int .i64 0,.int .i64 0,.nils]))).put (n+2) (some (.row 2 [.nils,.nils]))) (n+3):=by
    refine ⟨⟨0,0,[],.nils,⟨by rw [Heap.put_ne _ _ (by omega),Heap.put_at]; rfl,.nil,.nil,fun y hy=>by simp [owns] at hy,by omega⟩⟩,by rw [Heap.put_ne _ _ (by omega),Heap.put_ne _ _ (by omega),Heap.put_at],Heap.put_at _ _ _,by simp [owns],⟨.inl ⟨rfl,rfl⟩,fun p hp=>by simp at hp⟩,fun y hy => ?_,by omega⟩
    rw [Heap.put_ne _ _ (by omega),Heap.put_ne _ _ (by omega),Heap.put_ne _ _ (by omega)]
  generalize ((H.put n (some (.row 2 [.nils,.nils]))).put (n+1) (some (.row 5 [.ro (l.map Fnc.avs),.nils,.int .i64 0,.int .i64 0,.nils]))).put (n+2) (some (.row 2 [.nils,.nils]))=H1 at *
  generalize hnm:l.map (·.name)=names
  have hmk:VM.makeP l=match VM.mkL names l [] with
    | none=>(⟨[],[]⟩,4)
    | some p=>(⟨p.1,p.2⟩,0):=by subst hnm; rfl
  refine LP.mk (fun j xs H' m'=>∃ (i:Nat) (ws:List Str) (A C:AV) (cs:List (Cod×AV)),i+j=l.length∧xs=[.ptr n 0,.ptr (n+1) 0,.ptr (n+2) 0,.ro (l.map Fnc.avs),.int .i64 l.length,.int .i64 i]∧MaL H n l ws A C cs H' m'∧ws.length+zax (l.drop i)≤2147483000∧cs.length≤i∧VM.mkL names l []=(VM.mkL names (l.drop i) ws).map fun p=>(cs.map (·.1) ++ p.1,p.2)) l.length ⟨0,[],.nils,.nils,[],by omega,rfl,m0,by simpa using hw,by simp,by rw [List.drop_zero]; cases VM.mkL names l [] <;> rfl⟩ ?_
  rintro j xs H' m' ⟨i,ws,A,C,cs,hij,rfl,h,hwi,hci,hgo⟩
  generalize hJ:(fun (xs:List AV) (H':Heap) (m':Nat)=>∃ j',j' < j∧∃ (i:Nat) (ws:List Str) (A C:AV) (cs:List (Cod×AV)),i+j'=l.length∧xs=[.ptr n 0,.ptr (n+1) 0,.ptr (n+2) 0,.ro (l.map Fnc.avs),.int .i64 l.length,.int .i64 i]∧MaL H n l ws A C cs H' m'∧ws.length+zax (l.drop i)≤2147483000∧cs.length≤i∧VM.mkL names l []=(VM.mkL names (l.drop i) ws).map fun p=>(cs.map (·.1) ++ p.1,p.2))=J
  cases j with
  | zero =>
    obtain rfl:i=l.length:=by omega
    rw [List.drop_length] at hgo
    simp only [VM.mkL,Option.map_some,List.append_nil] at hgo
    rw [hgo] at hmk
    rw [hmk] at hq
    simp only at hq
    obtain ⟨vars,high,out,B,mk⟩:=h.mx
    have row:=mk.row
    have rp:=h.rp
    have r0:=h.r0
    have hbm:=h.bm
    have hA:A.cells=[A]∧A.sure=true∧A.one=true:=by
      have:=mk.wr
      cases this with
      | nil=>exact ⟨rfl,rfl,rfl⟩
      | row _ _ _=>exact ⟨rfl,rfl,rfl⟩
    have hC:C.one=true:=by
      rcases h.cd.row with ⟨rfl,_⟩ | ⟨gc,rfl,_,_⟩ <;> rfl
    obtain ⟨ha1,ha2,ha3⟩:=hA
    simp [zgi,row,rp,r0,ha1,ha2,ha3,hC]
    have hk:∀ y,y ≠ n→y ≠ n+2→((H'.put (n+2) (some (.row 2 [C,A]))).put n (some (.row 2 [C,A]))) y=H' y:=fun y h1 h2=>by rw [Heap.put_ne _ _ h1,Heap.put_ne _ _ h2]
    refine hq _ _ _ (FL.tup (.cons (FL.agg (.cons ?_ (.cons (h.frzA hk) .nil))) (.cons (.same _ (.int _ _)) .nil))) fun y hy => ?_
    · have:=(h.cd.mono (R':=Ours n A m') fun g hg=>⟨hg,hk g (by have:=hg.1; omega) (by have:=hg.1; omega)⟩).frz (n:=n) fun g hg=>by have:=hg.1; omega
      simpa [List.map_map,Function.comp_def] using this
    · rw [hk y (by omega) (by omega)]; exact h.keep y hy
  | succ j =>
    have hlt:i < l.length:=by omega
    have hdr:l.drop i=l[i] :: l.drop (i+1):=List.drop_eq_getElem_cons hlt
    rw [hdr] at hgo hwi
    simp only [zax] at hwi
    rw [VM.mkL_cons] at hgo
    refine zys h hlt fun H2 h2 hf2 hr2 h02 hp2 cd2 hk2 => ?_
    have hop:=h.op
    have hbm:=h.bm
    refine zyt hl hlt hbm (by omega) (by omega) h2 hf2 hr2 hop fun a v e A' B' H3 m3 he h3 e3 => ?_
    obtain ⟨lA,_⟩:=h2.lt
    rw [hnm] at he
    have hfn:VM.fnI names l[i] ws=(e.1.1,⟨(l[i].params.length:Int),(e.1.2:Int),e.2 ++ [⟨1,0,0⟩,⟨18,0,0⟩]⟩):=by rw [he]; rfl
    rw [hfn] at hgo
    obtain ⟨w1,w2,w3⟩:=VM.stIL_le names l[i].body (VM.penv l[i].params 0 []) 0 (ws,l[i].params.length)
    rw [← he] at w1 w2 w3
    have hin:=VM.inWL_le l[i].body
    refine zyr (H0:=H) (x:=.ptr m' 0) hl hlt (by omega) (by simp; omega) (by simp) h3 e3 (by omega) ⟨m',by omega,hf2,hbm,hr2,rfl⟩ hop (fun hy=>absurd (lA _ hy).1 (by omega)) h02 hp2 (cd2.mono fun g hg=>⟨⟨hg.1,by have:=hg.2.1; omega,hg.2.2⟩,rfl⟩) hk2 (fun y hy hy2=>absurd (lA _ hy2).1 (by omega)) (fun hb H4 m4 k4 => ?_) fun hb C4 B4 H4 m4 h4 => ?_
    · rw [if_pos hb] at hgo
      rw [hgo] at hmk
      rw [hmk] at hq
      exact hq _ _ _ (FL.tup (.cons (FL.agg (.cons .nils (.cons .nils .nil))) (.cons (.same _ (.int _ _)) .nil))) k4
    · rw [if_neg hb] at hgo
      rw [← hJ]
      simp only at w1 w2
      refine ⟨j,by omega,i+1,_,A',C4,_,by omega,by simp,h4,by omega,by simp; omega,?_⟩
      rw [hgo]
      cases VM.mkL names (l.drop (i+1)) e.1.1 <;> simp
end Go.Proofs.YtpllgpgdcbgalaaDoor
set_option maxRecDepth 8000
namespace Go.Proofs.YtpllgpgdcbgalaaDoor
open Go Go.RowKit
def zack (n:Nat) (A:AV) (m g:Nat):Prop:=n+2 < g∧g < m∧g∉owns A
structure RaL (H0:Heap) (n:Nat) (fns:List Fnc) (ws:List Str) (A C:AV) (cs:List (Cod×AV)) (H:Heap) (m:Nat):Prop where
  mx:∃ vars,RMk (n+1) fns ws vars A H m
  r0:H n=some (.row 2 [.nils,.nils])
  rp:H (n+2)=some (.row 2 [C,.nils])
  op:n+2∉owns A
  cd:CdS (zack n A m) H cs C
  keep:∀ y,y < n→H y=H0 y
  bm:n+2 < m
theorem RaL.frzA {H0 H H':Heap} {n m:Nat} {fns:List Fnc} {ws:List Str} {A C:AV} {cs:List (Cod×AV)} (h:RaL H0 n fns ws A C cs H m) (hk:∀ y,y ≠ n→y ≠ n+2→H' y=H y):Frz H' n A (.ro (ws.map fun w=>[.str w])):=by
  obtain ⟨vars,mk⟩:=h.mx
  have hwr:=mk.wr
  have hop:=h.op
  cases hwr with
  | nil=>exact .nils
  | @row l ga a b c =>
    simp [owns] at hop
    exact Frz.rowW (by omega) (by rw [hk ga (by omega) (by omega)]; exact c) (by simp) (fun x hx=>by obtain ⟨y,_,rfl⟩:=List.mem_map.1 hx; rfl) (FL.same fun v hv=>by
      obtain ⟨x,hx,hv⟩:=List.mem_flatten.1 hv
      obtain ⟨y,_,rfl⟩:=List.mem_map.1 hx
      rw [List.mem_singleton.1 hv]
      exact .str _)
theorem zsd {H0 H H':Heap} {n m gb:Nat} {fns:List Fnc} {ws':List Str} {vars:Nat} {A C:AV} {cs:List (Cod×AV)} {c:Cod}
    (h1:RMk (n+1) fns ws' vars A H m) (q1:n+2 < gb) (q2:gb < m) (q3:H gb=some (.row 3 (c.ins.map Ins.avs).flatten)) (qA:gb∉owns A) (op:n+2∉owns A)
    (cd:CdS (fun y=>n+2 < y∧y < m∧y∉owns A∧y ≠ gb) H cs C) (k0:∀ y,y < n→H y=H0 y) (r0:H n=some (.row 2 [.nils,.nils]))
    (old:∀ y,y < m→y ≠ n+2→y∉owns C→H' y=H y) (rp:H' (n+2)=some (.row 2 [.slc (m+1) 0 (cs.length+1),.nils])) (nw:H' (m+1)=some (.row 3 ((cs ++ [(c,AV.slc gb 0 c.ins.length)]).map rawC).flatten)) :
    RaL H0 n fns ws' A (.slc (m+1) 0 (cs.length+1)) (cs ++ [(c,.slc gb 0 c.ins.length)]) H' (m+1+1):=by
  have lA:=h1.own
  have hgn:=h1.gn
  have hC:∀ y∈owns C,n+2 < y∧y < m∧y∉owns A∧y ≠ gb:=by
    intro y hy
    rcases cd.row with ⟨rfl,_⟩ | ⟨gc,rfl,h2,_⟩
    · simp [owns] at hy
    · simp [owns] at hy; subst hy; exact h2
  have hgC:gb∉owns C:=fun hy=>(hC gb hy).2.2.2 rfl
  refine ⟨⟨vars,h1.more (by omega) fun y hy => ?_⟩,?_,rp,op,⟨?_,fun p hp => ?_⟩,fun y hy => ?_,by omega⟩
  · rcases hy with rfl | hy
    · exact old _ hgn (by omega) fun hy=>absurd (hC _ hy).1 (by omega)
    · exact old y (lA y hy).2 (fun e=>op (e ▸ hy)) fun hy2=>(hC y hy2).2.2.1 hy
  · rw [old n (by omega) (by omega) fun hy=>absurd (hC _ hy).1 (by omega)]; exact r0
  · exact .inr ⟨m+1,by simp,⟨by omega,by omega,fun hy=>absurd (lA _ hy).2 (by omega)⟩,nw⟩
  · rcases List.mem_append.1 hp with hp | hp
    · obtain ⟨gi,e1,⟨e2,e3,e6,e7⟩,e4,e5⟩:=cd.ent p hp
      exact ⟨gi,e1,⟨e2,by omega,e6⟩,by rw [old gi e3 (by omega) e5]; exact e4,by simp [owns]; omega⟩
    · rw [List.mem_singleton.1 hp]
      refine ⟨gb,rfl,⟨q1,by omega,qA⟩,by rw [old gb q2 (by omega) hgC]; exact q3,by simp [owns]; omega⟩
  · rw [old y (by omega) (by omega) fun hy2=>absurd (hC _ hy2).1 (by omega)]; exact k0 y hy
theorem zaad {H1:Heap} {n m i:Nat} {fns:List Fnc} {ps:List Str} {Q:QT} {K7:J3} (hp:ps.length≤4294967296) (h1:H1 (m+1)=some (.mp []))
    (hq:∀ H' l,(∀ y,y ≠ m+1→H' y=H1 y)→MapE H' (m+1) l (VM.penv ps 0 [])→zbh Q K7 (fun _ _ _=>True) [.ptr n 0,.ptr (n+1) 0,.ptr (n+2) 0,.ptr m 0,.amap (m+1),.ro (fns.map Fnc.avs),.int .i64 fns.length,.int .i64 i,.ro (ps.map strC),.int .i64 ps.length,.int .i64 ps.length] H' (m+2)) :
    LP (zbh Q K7) [.ptr n 0,.ptr (n+1) 0,.ptr (n+2) 0,.ptr m 0,.amap (m+1),.ro (fns.map Fnc.avs),.int .i64 fns.length,.int .i64 i,.ro (ps.map strC),.int .i64 ps.length,.int .i64 0] H1 (m+2):=by
  refine LP.mk (fun j xs H' m'=>∃ (p:Nat) (l:List (Str×Nat)),p+j=ps.length∧xs=[.ptr n 0,.ptr (n+1) 0,.ptr (n+2) 0,.ptr m 0,.amap (m+1),.ro (fns.map Fnc.avs),.int .i64 fns.length,.int .i64 i,.ro (ps.map strC),.int .i64 ps.length,.int .i64 p]∧m'=m+2∧(∀ y,y ≠ m+1→H' y=H1 y)∧MapE H' (m+1) l (VM.penv (ps.take p) 0 [])) ps.length ⟨0,[],by omega,rfl,rfl,fun _ _=>rfl,h1,by simp,fun t=>by unfold VM.look; simp [VM.penv]⟩ ?_
  rintro j xs H' m' ⟨p,l,hpj,rfl,rfl,hk,me⟩
  cases j with
  | zero =>
    obtain rfl:p=ps.length:=by omega
    rw [List.take_length] at me
    have:=hq H' l hk me
    have nl:¬ (ps.length:Int) < ps.length:=by omega
    unfold zbh at this ⊢
    simp only [zacb,zym,zuj,nl,decide_false,zzi] at this ⊢
    exact this
  | succ j =>
    have hlt:p < ps.length:=by omega
    have hwi:IntKind.i64.wrap ((p:Int)+1)=(p:Int)+1:=i64w (by omega)
    obtain ⟨r,f1,l',h2,h3,h4,_⟩:=zqk ps[p] p l me.nd
    have hx:ps[p]? = some ps[p]:=List.getElem?_eq_getElem hlt
    have e:ps.take (p+1)=ps.take p ++ [ps[p]]:=List.take_succ_eq_append_getElem hlt
    have me':∀ H2:Heap,H2 (m+1)=some (.mp (zal l'))→MapE H2 (m+1) l' (VM.penv (ps.take (p+1)) 0 []):=fun H2 h=>⟨h,h3,fun t=>by
      rw [h4 t,e,zrs,List.length_take,Nat.min_eq_left (by omega),Nat.zero_add]
      unfold VM.look
      rw [List.lookup_cons]
      by_cases e:t=ps[p]
      · simp [e]
      · have hb:(t == ps[p])=false:=by simpa using e
        rw [hb,if_neg e]
        exact me.look t⟩
    cases r with
    | none =>
      simp only at h2
      simp [zbh,hlt,strC,hwi,me.at_,f1,h2]
      exact ⟨j,by omega,p+1,by omega,by simp,fun y hy=>by rw [if_neg hy]; exact hk y hy,l',me' _ (Heap.put_at _ _ _)⟩
    | some v =>
      simp only at h2
      simp [zbh,hlt,strC,hwi,me.at_,f1,h2]
      exact ⟨j,by omega,p+1,by omega,by simp,fun y hy=>by rw [if_neg hy]; exact hk y hy,l',me' _ (Heap.put_at _ _ _)⟩
set_option maxHeartbeats 4000000 in
theorem zaae {H0 H:Heap} {n m i:Nat} {fns:List Fnc} {ws:List Str} {A C:AV} {cs:List (Cod×AV)} {Q:QT} {K:J3} (hfl:fns.length≤4294967296) (hnd:(fns.map (·.name)).Nodup) (h:RaL H0 n fns ws A C cs H m) (hi:i < fns.length) (hok:VM.okSmL fns[i].body) (hc:VM.callsSL (fns.map (·.name)) fns[i].body) (hcl:cs.length≤4294967296)
    (hw:ws.length+VM.smWL fns[i].body≤2147483000) (hv:fns[i].params.length+VM.smWL fns[i].body≤2147483000)
    (hbad:∀ e,e=VM.fnI (fns.map fun f:Fnc=>f.name) fns[i] ws→200 < e.2.ins.length∨16 < VM.hiL fns[i].body→∀ H' m',(∀ y,y < n→H' y=H0 y)→Q (.tup [.agg [.nils,.nils],.int .i64 4]) H' m')
    (hgo:∀ e,e=VM.fnI (fns.map fun f:Fnc=>f.name) fns[i] ws→¬ (200 < e.2.ins.length∨16 < VM.hiL fns[i].body)→∀ A' C' B' H' m',RaL H0 n fns e.1 A' C' (cs ++ [(e.2,B')]) H' m'→K [.ptr n 0,.ptr (n+1) 0,.ptr (n+2) 0,.ro (fns.map Fnc.avs),.int .i64 fns.length,.int .i64 ((i:Int)+1)] H' m') :
    zee Q K [.ptr n 0,.ptr (n+1) 0,.ptr (n+2) 0,.ro (fns.map Fnc.avs),.int .i64 fns.length,.int .i64 i] H m:=by
  obtain ⟨vars,mk⟩:=h.mx
  have row:=mk.row
  have hbm:=h.bm
  have hAo:=mk.own
  have hxl:=zjn fns[i]
  have hxt:fns[i].avs.take 3=fns[i].avs:=List.take_of_length_le (by omega)
  have e0:fns[i].avs=[.str fns[i].name,.ro (fns[i].params.map strC),.ro (fns[i].body.map Sm.avs)]:=rfl
  have hwi:IntKind.i64.wrap ((i:Int)+1)=(i:Int)+1:=i64w (by omega)
  have n1:¬ m=m+1:=by omega
  simp [zee,hi,hxl,hxt,e0,n1]
  refine zaad (by omega) (Heap.put_at _ _ _) fun H1 l k1 me => ?_
  have f1:∀ y,y < m→H1 y=H y:=fun y hy=>by rw [k1 y (by omega),Heap.put_ne _ _ (by omega),Heap.put_ne _ _ (by omega)]
  have fm:H1 m=some (.row 3 [.str fns[i].name,.ro (fns[i].params.map strC),.ro (fns[i].body.map Sm.avs)]):=by rw [k1 m (by omega),Heap.put_ne _ _ (by omega),Heap.put_at]
  have row1:H1 (n+1)=some (.row 3 [.ro (fns.map Fnc.avs),A,.int .i64 vars]):=by rw [f1 _ (by omega)]; exact row
  have n2:¬ m=n+1:=by omega
  have nl:¬ (fns[i].params.length:Int) < fns[i].params.length:=by omega
  simp [zbh,fm,row1,n2]
  generalize hH2:H1.put (n+1) (some (.row 3 [.ro (fns.map Fnc.avs),A,.int .i64 fns[i].params.length]))=H2
  have k2:∀ y,y ≠ n+1→H2 y=H1 y:=fun y hy=>by rw [← hH2,Heap.put_ne _ _ hy]
  have g2:∀ y,y < m→y ≠ n+1→H2 y=H y:=fun y h1 h2=>(k2 y h2).trans (f1 y h1)
  have rm2:RMk (n+1) fns ws fns[i].params.length A H2 (m+2):=⟨by rw [← hH2,Heap.put_at],mk.wr.keepO (by omega) fun y hy=>g2 y (hAo y hy).2 (by have:=hAo y hy; omega),by omega⟩
  have ed:Ed (n+1) (m+1) fns (VM.penv fns[i].params 0 []) ws fns[i].params.length A H2 (m+2):=⟨rm2,⟨l,by rw [k2 _ (by omega)]; exact me.at_,me.nd,me.look⟩,by omega,by omega,fun hy=>by have:=hAo _ hy; omega⟩
  refine (rblk hfl hnd hok hc ed (by omega) (by omega)).mono fun B H3 m3 ⟨A3,p⟩ => ?_
  have hin:=VM.inWL_le fns[i].body
  obtain ⟨w1,w2,w3⟩:=VM.stIL_le (fns.map fun f:Fnc=>f.name) fns[i].body (VM.penv fns[i].params 0 []) 0 (ws,fns[i].params.length)
  have hfn:VM.fnI (fns.map fun f:Fnc=>f.name) fns[i] ws=((VM.stIL (fns.map fun f:Fnc=>f.name) (VM.penv fns[i].params 0 []) 0 fns[i].body (ws,fns[i].params.length)).1.1,⟨(fns[i].params.length:Int),((VM.stIL (fns.map fun f:Fnc=>f.name) (VM.penv fns[i].params 0 []) 0 fns[i].body (ws,fns[i].params.length)).1.2:Int),(VM.stIL (fns.map fun f:Fnc=>f.name) (VM.penv fns[i].params 0 []) 0 fns[i].body (ws,fns[i].params.length)).2 ++ [⟨1,0,0⟩,⟨18,0,0⟩]⟩):=rfl
  rw [hfn] at hbad hgo
  generalize VM.stIL (fns.map fun f:Fnc=>f.name) (VM.penv fns[i].params 0 []) 0 fns[i].body (ws,fns[i].params.length)=R at *
  simp only at w1 w2
  simp [zlr]
  have hm3:=p.rx.le
  have p1:=p.new (H':=H3.put m3 (some (.row 3 [.int .i64 1,.int .i64 0,.int .i64 0,.int .i64 18,.int .i64 0,.int .i64 0]))) (m':=m3+1) (by omega) fun y hy=>Heap.put_ne _ _ (by omega)
  refine p1.app (l2:=[⟨1,0,0⟩,⟨18,0,0⟩]) (rd:=[m3]) (by simp [zh]; rfl) (by simp; omega) fun B4 H4 m4 p4 hm4 k4 o4 => ?_
  have lnl:=fun k:AV→Prop=>p4.rb.lnl (k:=k)
  have hXl:(R.2 ++ [(⟨1,0,0⟩:Ins),⟨18,0,0⟩]).length=R.2.length+2:=by simp
  have hXn:R.2 ++ [(⟨1,0,0⟩:Ins),⟨18,0,0⟩] ≠ []:=by simp
  generalize R.2 ++ [(⟨1,0,0⟩:Ins),⟨18,0,0⟩]=X at *
  have r4:=p4.ed.rm
  have g4:∀ y,y < m→y ≠ n+1→y∉owns A→H4 y=H y:=fun y h1 h2 h3=>by rw [p4.rx.keep y (by omega) h2 h3]; exact g2 y h1 h2
  have hn4:H4 n=some (.row 2 [.nils,.nils]):=by rw [g4 n (by omega) (by omega) fun hy=>by have:=hAo _ hy; omega]; exact h.r0
  have hp4:H4 (n+2)=some (.row 2 [C,.nils]):=by rw [g4 _ (by omega) (by omega) h.op]; exact h.rp
  have hm4':H4 m=some (.row 3 [.str fns[i].name,.ro (fns[i].params.map strC),.ro (fns[i].body.map Sm.avs)]):=by rw [p4.rx.keep m (by omega) (by omega) fun hy=>by have:=hAo _ hy; omega,k2 m (by omega)]; exact fm
  have k0:∀ y,y < n→H4 y=H0 y:=fun y hy=>by rw [g4 y (by omega) (by omega) fun hy=>by have:=hAo _ hy; omega]; exact h.keep y hy
  have hbad':=hbad _ rfl
  have hgo':=hgo _ rfl
  simp only at hbad' hgo'
  by_cases b1:200 < X.length
  · have b1':(200:Int) < X.length:=by omega
    simp [lnl,b1',hn4]
    exact hbad' (.inl b1) _ _ fun y hy=>by rw [Heap.put_ne _ _ (by omega)]; exact k0 y hy
  have b1':¬ (200:Int) < X.length:=by omega
  simp [lnl,b1',hm4']
  refine QC.call (zadg fns[i].body (by omega) hok) ?_
  by_cases b2:16 < VM.hiL fns[i].body
  · have b2':(16:Int) < VM.hiL fns[i].body:=by omega
    simp [zef,b2',hn4]
    exact hbad' (.inr b2) _ _ fun y hy=>by rw [Heap.put_ne _ _ (by omega)]; exact k0 y hy
  have b2':¬ (16:Int) < VM.hiL fns[i].body:=by omega
  have hle4:=p4.rx.le
  have hB:∃ gb,B4=.slc gb 0 X.length∧m+2≤gb∧gb < m4∧H4 gb=some (.row 3 (X.map Ins.avs).flatten):=by
    have hir:=p4.rb
    cases hir with
    | nil=>exact absurd rfl hXn
    | @row l gb a b c=>exact ⟨gb,rfl,a,b,c⟩
  obtain ⟨gb,rfl,q1,q2,q3⟩:=hB
  have cd':CdS (fun y=>n+2 < y∧y < m4∧y∉owns A3∧y ≠ gb) H4 cs C:=h.cd.mono fun y hy=>⟨⟨hy.1,by have:=hy.2.1; omega,p4.rx.far (by have:=hy.2.1; omega) hy.2.2,by have:=hy.2.1; omega⟩,g4 y hy.2.1 (by have:=hy.1; omega) hy.2.2⟩
  have qA:gb∉owns A3:=p4.ab gb (by simp [owns])
  have op':n+2∉owns A3:=p4.rx.far (by omega) h.op
  have row4:=r4.row
  have u1:¬ m=m4:=by omega
  have u2:¬ n+1=m4:=by omega
  have u3:¬ n+2=m4:=by omega
  have u4:¬ n+2=m4+1:=by omega
  have u5:¬ m4=n+2:=by omega
  rcases cd'.row with ⟨rfl,rfl⟩ | ⟨gc,rfl,⟨c1,c2,c4,c5⟩,c3⟩
  · simp [zef,b2',hm4',row4,hp4,hwi,u3,u4]
    refine ⟨u5,hgo' (by omega) _ _ _ _ _ (zsd (c:=⟨(fns[i].params.length:Int),(R.1.2:Int),X⟩) r4 (by omega) q2 q3 qA op' cd' k0 hn4 (fun y y1 y2 _ => ?_) (Heap.put_at _ _ _) ?_)⟩
    · rw [Heap.put_ne _ _ y2,Heap.put_ne _ _ (by omega),Heap.put_ne _ _ (by omega)]
    · rw [Heap.put_ne _ _ (by omega),Heap.put_at]; rfl
  · have rl:=zap (f:=rawC) (sz:=3) ztq cs
    have h1b:(cs.length+1)*40≤140737488355328:=by omega
    have hsn:=zbu (f:=rawC) cs (⟨(fns[i].params.length:Int),(R.1.2:Int),X⟩,.slc gb 0 X.length)
    generalize (cs.map rawC).flatten=rr at *
    have h3:rr.take (cs.length*3)=rr:=List.take_of_length_le (by omega)
    have u6:¬ gc=m4:=by omega
    have u7:¬ n+2=gc:=by omega
    simp [zef,b2',hm4',row4,hp4,hwi,c3,rl,h1b,h3,u3,u4,u6,u7]
    refine ⟨u5,hgo' (by omega) _ _ _ _ _ (zsd (c:=⟨(fns[i].params.length:Int),(R.1.2:Int),X⟩) r4 (by omega) q2 q3 qA op' cd' k0 hn4 (fun y y1 y2 y3 => ?_) (Heap.put_at _ _ _) ?_)⟩
    · simp [owns] at y3
      rw [Heap.put_ne _ _ y2,Heap.put_ne _ _ (by omega),Heap.put_ne _ _ y3,Heap.put_ne _ _ (by omega)]
    · rw [Heap.put_ne _ _ (by omega),Heap.put_at,hsn]; rfl
end Go.Proofs.YtpllgpgdcbgalaaDoor
set_option maxRecDepth 8000
namespace Go.Proofs.YtpllgpgdcbgalaaDoor
open Go Go.RowKit
set_option maxHeartbeats 2000000 in
theorem zaac (l:List Fnc) (hl:l.length≤4294967296) (hnd:(l.map (·.name)).Nodup) (hok:∀ f∈l,VM.okSmL f.body) (hc:∀ f∈l,VM.callsSL (l.map (·.name)) f.body) (hw:zax l≤2147483000):QC Tryd.prog 17 [.ro (l.map Fnc.avs)] (.tup [.agg (VM.makeP l).1.avs,.int .i64 (VM.makeP l).2]):=by
  refine QC.of' fun H n => ?_
  suffices main:∀ Q:QT,(∀ v H' n',Frz H' n v (.tup [.agg (VM.makeP l).1.avs,.int .i64 (VM.makeP l).2])→Keep n H' H→Q v H' n')→za Tryd.prog 17 [.ro (l.map Fnc.avs)] H n Q from main _ fun v H' n' a b=>⟨a,b⟩
  intro Q hq
  refine zpo _ _ _ _ ?_
  simp [zlq]
  have m0:RaL H n l [] .nils .nils [] (((H.put n (some (.row 2 [.nils,.nils]))).put (n+1) (some (.row 3 [.ro (l.map Fnc.avs),.nils,.int .i64 0]))).put (n+2) (some (.row 2 [.nils,.nils]))) (n+3):=by
    refine ⟨⟨0,⟨by rw [Heap.put_ne _ _ (by omega),Heap.put_at]; rfl,.nil,by omega⟩⟩,by rw [Heap.put_ne _ _ (by omega),Heap.put_ne _ _ (by omega),Heap.put_at],Heap.put_at _ _ _,by simp [owns],⟨.inl ⟨rfl,rfl⟩,fun p hp=>by simp at hp⟩,fun y hy => ?_,by omega⟩
    rw [Heap.put_ne _ _ (by omega),Heap.put_ne _ _ (by omega),Heap.put_ne _ _ (by omega)]
  generalize ((H.put n (some (.row 2 [.nils,.nils]))).put (n+1) (some (.row 3 [.ro (l.map Fnc.avs),.nils,.int .i64 0]))).put (n+2) (some (.row 2 [.nils,.nils]))=H1 at *
  generalize hnm:l.map (·.name)=names at *
  have hmk:VM.makeP l=match VM.mkL names l [] with
    | none=>(⟨[],[]⟩,4)
    | some p=>(⟨p.1,p.2⟩,0):=by subst hnm; rfl
  refine LP.mk (fun j xs H' m'=>∃ (i:Nat) (ws:List Str) (A C:AV) (cs:List (Cod×AV)),i+j=l.length∧xs=[.ptr n 0,.ptr (n+1) 0,.ptr (n+2) 0,.ro (l.map Fnc.avs),.int .i64 l.length,.int .i64 i]∧RaL H n l ws A C cs H' m'∧ws.length+zax (l.drop i)≤2147483000∧cs.length≤i∧VM.mkL names l []=(VM.mkL names (l.drop i) ws).map fun p=>(cs.map (·.1) ++ p.1,p.2)) l.length ⟨0,[],.nils,.nils,[],by omega,rfl,m0,by simpa using hw,by simp,by rw [List.drop_zero]; cases VM.mkL names l [] <;> rfl⟩ ?_
  rintro j xs H' m' ⟨i,ws,A,C,cs,hij,rfl,h,hwi,hci,hgo⟩
  generalize hJ:(fun (xs:List AV) (H':Heap) (m':Nat)=>∃ j',j' < j∧∃ (i:Nat) (ws:List Str) (A C:AV) (cs:List (Cod×AV)),i+j'=l.length∧xs=[.ptr n 0,.ptr (n+1) 0,.ptr (n+2) 0,.ro (l.map Fnc.avs),.int .i64 l.length,.int .i64 i]∧RaL H n l ws A C cs H' m'∧ws.length+zax (l.drop i)≤2147483000∧cs.length≤i∧VM.mkL names l []=(VM.mkL names (l.drop i) ws).map fun p=>(cs.map (·.1) ++ p.1,p.2))=J
  cases j with
  | zero =>
    obtain rfl:i=l.length:=by omega
    rw [List.drop_length] at hgo
    simp only [VM.mkL,Option.map_some,List.append_nil] at hgo
    rw [hgo] at hmk
    rw [hmk] at hq
    simp only at hq
    obtain ⟨vars,mk⟩:=h.mx
    have row:=mk.row
    have rp:=h.rp
    have r0:=h.r0
    have hbm:=h.bm
    have hA:A.cells=[A]∧A.sure=true∧A.one=true:=by
      have:=mk.wr
      cases this with
      | nil=>exact ⟨rfl,rfl,rfl⟩
      | row _ _ _=>exact ⟨rfl,rfl,rfl⟩
    have hC:C.one=true:=by
      rcases h.cd.row with ⟨rfl,_⟩ | ⟨gc,rfl,_,_⟩ <;> rfl
    obtain ⟨ha1,ha2,ha3⟩:=hA
    simp [zee,row,rp,r0,ha1,ha2,ha3,hC]
    have hk:∀ y,y ≠ n→y ≠ n+2→((H'.put (n+2) (some (.row 2 [C,A]))).put n (some (.row 2 [C,A]))) y=H' y:=fun y h1 h2=>by rw [Heap.put_ne _ _ h1,Heap.put_ne _ _ h2]
    refine hq _ _ _ (FL.tup (.cons (FL.agg (.cons ?_ (.cons (h.frzA hk) .nil))) (.cons (.same _ (.int _ _)) .nil))) fun y hy => ?_
    · have:=(h.cd.mono (R':=zack n A m') fun g hg=>⟨hg,hk g (by have:=hg.1; omega) (by have:=hg.1; omega)⟩).frz (n:=n) fun g hg=>by have:=hg.1; omega
      simpa [List.map_map,Function.comp_def] using this
    · rw [hk y (by omega) (by omega)]; exact h.keep y hy
  | succ j =>
    have hlt:i < l.length:=by omega
    have hdr:l.drop i=l[i] :: l.drop (i+1):=List.drop_eq_getElem_cons hlt
    rw [hdr] at hgo hwi
    simp only [zax] at hwi
    rw [VM.mkL_cons] at hgo
    have hm:l[i]∈l:=List.getElem_mem hlt
    have hle:=VM.stIL_le (l.map fun f:Fnc=>f.name) l[i].body (VM.penv l[i].params 0 []) 0 (ws,l[i].params.length)
    have hfn:(VM.fnI (l.map fun f:Fnc=>f.name) l[i] ws).1.length≤ws.length+VM.smWL l[i].body:=hle.1
    refine zaae (H0:=H) hl (by rw [hnm]; exact hnd) h hlt (hok _ hm) (by rw [hnm]; exact hc _ hm) (by omega) (by omega) (by omega) (fun e he hb H4 m4 k4 => ?_) fun e he hb A4 C4 B4 H4 m4 h4 => ?_
    · rw [hnm] at he
      rw [← he,if_pos hb] at hgo
      rw [hgo] at hmk
      rw [hmk] at hq
      exact hq _ _ _ (FL.tup (.cons (FL.agg (.cons .nils (.cons .nils .nil))) (.cons (.same _ (.int _ _)) .nil))) k4
    · rw [hnm] at he hfn
      rw [← he] at hfn
      rw [← he,if_neg hb] at hgo
      rw [← hJ]
      refine ⟨j,by omega,i+1,e.1,A4,C4,_,by omega,by simp,h4,by omega,by simp; omega,?_⟩
      rw [hgo]
      cases VM.mkL names (l.drop (i+1)) e.1 <;> simp
end Go.Proofs.YtpllgpgdcbgalaaDoor
set_option maxRecDepth 8000
namespace Go.Proofs.YtpllgpgdcbgalaaDoor
open Go Go.RowKit
theorem zadq:eqsT 45=true:=by kernel_rfl
set_option maxRecDepth 20000 in
set_option maxHeartbeats 1000000 in
theorem zzv (p:Prg) (h1:p.codes.length≤4611686018427387904) (h2:p.words.length≤4611686018427387904) (h3:∀ c∈p.codes,c.ins.length≤4611686018427387904):QC Tryd.prog 18 [.agg p.avs,.agg p.avs] (.bool true):=by
  refine QC.of' fun H nx => ?_
  suffices main:∀ Q:AV→Heap→Nat→Prop,(∀ H' n',Keep nx H' H→Q (.bool true) H' n')→za Tryd.prog 18 [.agg p.avs,.agg p.avs] H nx Q from main _ fun H' n' h=>⟨zaav,h⟩
  intro Q hQ
  refine zjp _ _ H nx _ ?_
  have m:nx ≠ nx+1:=by omega
  simp [zfw,Prg.avs,m]
  generalize hX:Heap.put _ (nx+1) _=X
  have x0:X nx=some (.row 2 [.ro (p.codes.map Cod.avs),.ro (p.words.map fun w=>[.str w])]):=by rw [← hX,Heap.put_ne _ _ m,Heap.put_at]
  have x1:X (nx+1)=some (.row 2 [.ro (p.codes.map Cod.avs),.ro (p.words.map fun w=>[.str w])]):=by rw [← hX,Heap.put_at]
  have xk:Keep nx X H:=fun g hg=>by rw [← hX,Heap.put_ne _ _ (by omega),Heap.put_ne _ _ (by omega)]
  refine LP.mk (fun k xs H' n'=>∃ i:Nat,xs=[.ptr nx 0,.ptr (nx+1) 0,.int .i64 p.words.length,.int .i64 i]∧i≤p.words.length∧k=p.words.length - i∧X=H'∧nx+2≤n') p.words.length ⟨0,rfl,by omega,by omega,rfl,by omega⟩ ?_
  rintro k xs H' n' ⟨i,rfl,hi,rfl,rfl,hn⟩
  by_cases hlt:i < p.words.length
  · have hadd:IntKind.i64.wrap ((i:Int)+1)=((i+1:Nat):Int):=by rw [i64w (by omega)]; rfl
    simp [zcs,hlt,x0,x1,hadd]
    exact ⟨p.words.length - (i+1),by omega,i+1,rfl,by omega,rfl,hn⟩
  have hge:¬ (i:Int) < p.words.length:=by omega
  simp [zcs,hge,x0]
  clear hlt hge hi i
  refine LP.mk (fun k xs H' n'=>∃ i:Nat,xs=[.ptr (nx+1) 0,.ro (p.codes.map Cod.avs),.int .i64 p.codes.length,.int .i64 i]∧i≤p.codes.length∧k=p.codes.length - i∧(∀ g,g < nx+2→H' g=X g)∧nx+2≤n') p.codes.length ⟨0,rfl,by omega,by omega,fun _ _=>rfl,hn⟩ ?_
  rintro k xs H' n' ⟨i,rfl,hi,rfl,hk,hn⟩
  by_cases hlt:i < p.codes.length
  · have hadd:IntKind.i64.wrap ((i:Int)+1)=((i+1:Nat):Int):=by rw [i64w (by omega)]; rfl
    have y1:H' (nx+1)=some (.row 2 [.ro (p.codes.map Cod.avs),.ro (p.words.map fun w=>[.str w])]):=by rw [hk _ (by omega)]; exact x1
    have ha:p.codes[i]? = some p.codes[i]:=List.getElem?_eq_getElem hlt
    have hci:=h3 p.codes[i] (List.getElem_mem hlt)
    obtain ⟨_,ha'⟩:=List.getElem?_eq_some_iff.1 ha
    generalize hcc:p.codes[i]=c at *
    clear ha
    have ne_0:nx ≠ nx+1∧nx+1 ≠ nx∧nx ≠ n'∧n' ≠ nx∧nx ≠ n'+1∧n'+1 ≠ nx∧nx+1 ≠ n'∧n' ≠ nx+1∧nx+1 ≠ n'+1∧n'+1 ≠ nx+1:=⟨by omega,by omega,by omega,by omega,by omega,by omega,by omega,by omega,by omega,by omega⟩
    simp [zct,hlt,y1,hcc,Cod.avs,ne_0]
    generalize hY:Heap.put _ (n'+1) _=Y
    have z0:Y n'=some (.row 3 [.int .i64 c.params,.int .i64 c.vars,.ro (c.ins.map Ins.avs)]):=by rw [← hY,Heap.put_ne _ _ (by omega),Heap.put_at]
    have z1:Y (n'+1)=some (.row 3 [.int .i64 c.params,.int .i64 c.vars,.ro (c.ins.map Ins.avs)]):=by rw [← hY,Heap.put_at]
    have zk:∀ g,g < nx+2→Y g=X g:=fun g hg=>by rw [← hY,Heap.put_ne _ _ (by omega),Heap.put_ne _ _ (by omega)]; exact hk g hg
    suffices key:∀ K:J3,(∀ H2 n2,(∀ g,g < nx+2→H2 g=X g)→nx+2≤n2→K [.ptr (nx+1) 0,.ro (p.codes.map Cod.avs),.int .i64 p.codes.length,.int .i64 ((i+1:Nat):Int)] H2 n2) →
        LP (zbm Q K) [.ptr (nx+1) 0,.ptr n' 0,.ptr (n'+1) 0,.ro (p.codes.map Cod.avs),.int .i64 p.codes.length,.int .i64 i,.int .i64 c.ins.length,.int .i64 0] Y (n'+2) by
      refine key _ fun H2 n2 h h'=>⟨p.codes.length - (i+1),by omega,i+1,rfl,by omega,rfl,h,h'⟩
    intro K hK
    refine LP.mk (fun k xs H' n2=>∃ j:Nat,xs=[.ptr (nx+1) 0,.ptr n' 0,.ptr (n'+1) 0,.ro (p.codes.map Cod.avs),.int .i64 p.codes.length,.int .i64 i,.int .i64 c.ins.length,.int .i64 j]∧j≤c.ins.length∧k=c.ins.length - j∧Y=H'∧n'+2≤n2) c.ins.length ⟨0,rfl,by omega,by omega,rfl,by omega⟩ ?_
    rintro k xs H2 n2 ⟨j,rfl,hj,rfl,rfl,hn2⟩
    by_cases hjl:j < c.ins.length
    · have hadj:IntKind.i64.wrap ((j:Int)+1)=((j+1:Nat):Int):=by rw [i64w (by omega)]; rfl
      generalize hii:c.ins[j]=ii
      simp [zbm,hjl,z0,z1,hii,Ins.avs,hadj,zadq]
      exact ⟨c.ins.length - (j+1),by omega,j+1,rfl,by omega,rfl,hn2⟩
    · have hjg:¬ (j:Int) < c.ins.length:=by omega
      simp [zbm,hjg,hadd]
      exact hK _ _ zk (by omega)
  · have hge:¬ (i:Int) < p.codes.length:=by omega
    simp [zct,hge]
    exact hQ _ _ fun g hg=>(hk g (by omega)).trans (xk g hg)
theorem zyi (s:Str) (h:(VM.parseF s).2=0):(VM.parseF s).1.length≤1500:=by
  have key : ∀ (k:Nat) (st:VM.St),(VM.fnsF k st).2.2=0→(VM.fnsF k st).1.length+(VM.fnsF k st).2.1.length≤st.1.length:=by
    intro k
    induction k with
    | zero=>intro st _; simp [VM.fnsF]
    | succ k ih =>
      intro st h
      unfold VM.fnsF at h ⊢
      split
      · rename_i hc
        rw [if_pos hc] at h
        have h1:=ih _ h
        have hz:∀ (k:Nat) (st:VM.St),(VM.fnsF k st).2.2=0→st.2=0:=fun k st h=>by
          cases k with
          | zero=>exact h
          | succ k =>
            unfold VM.fnsF at h
            split at h
            · rename_i hc; exact hc.1
            · exact h
        have h2:=VM.nice_fn.eats (VM.trim st.1,0) rfl (hz k _ h)
        have h3:=VM.trim_le st.1
        simp only [List.length_cons] at *
        omega
      · have h3:=VM.trim_le st.1
        simp only [List.length_nil]
        split <;> (try simp only) <;> omega
  unfold VM.parseF at *
  split at h
  · cases h
  · rename_i h1
    rw [if_neg h1] at *
    split at h
    · rename_i h2; exact absurd h h2
    · rename_i h2
      rw [if_neg h2]
      have:=key (s.length+2) (s,0) (by simpa using h2)
      simp only at *
      omega
theorem zvu (names:List Str):∀ (l:List Fnc) (ws:List Str) (p:List Cod×List Str),VM.mkL names l ws=some p→p.1.length≤l.length∧p.2.length≤ws.length+zax l∧∀ c∈p.1,c.ins.length≤200
  | [],ws,p,h=>by
    simp only [VM.mkL,Option.some.injEq] at h
    subst h
    simp
  | f :: r,ws,p,h=>by
    rw [VM.mkL_cons] at h
    split at h
    · cases h
    · rename_i hn
      obtain ⟨q,hq,rfl⟩:=Option.map_eq_some_iff.1 h
      obtain ⟨h1,h2,h3⟩:=zvu names r _ q hq
      have hf:(VM.fnI names f ws).1.length≤ws.length+VM.smWL f.body:=(VM.stIL_le names f.body (VM.penv f.params 0 []) 0 (ws,f.params.length)).1
      unfold zax
      refine ⟨by simp; omega,by simp only; omega,fun c hc => ?_⟩
      rcases List.mem_cons.1 hc with rfl | hc
      · omega
      · exact h3 c hc
set_option maxHeartbeats 1000000 in
theorem zug (s:Str):QC Tryd.prog 5 [.str s] (.bool true):=by
  refine QC.of' fun H n => ?_
  suffices main:∀ Q:QT,(∀ H' n',Keep n H' H→Q (.bool true) H' n')→za Tryd.prog 5 [.str s] H n Q from main _ fun H' n' b=>⟨by simp,b⟩
  intro Q hq
  refine zle _ _ _ _ ?_
  unfold zgq
  refine (zaai s).call ?_
  by_cases h1:(VM.parseF s).2=0
  · have hl:=zyi s h1
    have hw:=VM.parse_fits s h1
    have ho:=VM.parse_ok s h1
    simp [zdo,h1]
    generalize (VM.parseF s).1=l at *
    refine (zyb l (by omega)).call ?_
    by_cases h2:VM.checkC l=0
    · obtain ⟨hnd,hc,_⟩:=VM.check_calls h2
      simp [zdp,h2]
      refine (zadb l (by omega) (by omega)).call ?_
      simp [zgr,Prg.avs]
      refine (zaac l (by omega) hnd ho hc (by omega)).call ?_
      have n1:¬ n=n+1:=by omega
      simp [zgs,Prg.avs,n1]
      have hfit:(VM.makeP l).1.codes.length≤4611686018427387904∧(VM.makeP l).1.words.length≤4611686018427387904∧∀ c∈(VM.makeP l).1.codes,c.ins.length≤4611686018427387904:=by
        unfold VM.makeP
        cases hm:VM.mkL (l.map (·.name)) l [] with
        | none=>simp
        | some p =>
          obtain ⟨p1,p2,p3⟩:=zvu _ _ _ _ hm
          simp only [List.length_nil] at p2
          exact ⟨by simp only; omega,by simp only; omega,fun c hc=>by have:=p3 c hc; omega⟩
      refine (zzv (VM.makeP l).1 hfit.1 hfit.2.1 hfit.2.2).call ?_
      simp [zgt]
      exact hq _ _ fun y hy=>by rw [Heap.put_ne _ _ (by omega),Heap.put_ne _ _ (by omega)]
    · simp [zdp,h2]
      exact hq _ _ (by simp)
  · simp [zdo,h1]
    exact hq _ _ (by simp)
end Go.Proofs.YtpllgpgdcbgalaaDoor
set_option maxRecDepth 8000
namespace Go.Proofs.YtpllgpgdcbgalaaDoor
open Go Go.RowKit
theorem LayE.of_var {n:String} {w:World} {t:TypeId} {p:Value} (h:w.var? Tryd.prog n=some #[.iface t p]):LayE n (fun b=>w.heap[b]?):=fun g hg=>by
  unfold World.var? at h
  rw [hg,Option.bind_some] at h
  split at h
  · rename_i cs e m hc
    cases h
    exact ⟨_,_,e,m,hc⟩
  · cases h
theorem ztx : "*" ++ "errors.errorString" = "*errors.errorString" := by decide
theorem zvz (u:TypeId) (h:Tryd.prog.typeName? 3 u=some "*errors.errorString"):u=160 :=
  typeName_ptr_named (nm:="errors.errorString") (by rw [ztx]; kernel_rfl) (by kernel_rfl) (by decide) u (by rw [ztx]; exact h)
theorem zww {r:List (String×DataW Unit)} {text:List UInt8} {W:World} (h:laidMet Tryd.prog (("strconv.ErrRange", .iface "*errors.errorString" (.ptr (.agg [.lit (.string text)]))) :: r) W):LayE "strconv.ErrRange" (fun b=>W.heap[b]?):=by
  obtain ⟨a,s,h1,_⟩:=laid_sentinel (g:=2) (ti:=120) (tp:=160) (te:=162) (ts:=9) h (by kernel_rfl) (by kernel_rfl) Tryd.underlying120 zvz Tryd.underlying160 Tryd.underlying162 rfl rfl Tryd.underlying9 (by kernel_rfl) (by kernel_rfl)
  exact .of_var h1
theorem zvd {r:List (String×DataW Unit)} {text:List UInt8} {W:World} (h:laidMet Tryd.prog (("strconv.ErrSyntax", .iface "*errors.errorString" (.ptr (.agg [.lit (.string text)]))) :: r) W):LayE "strconv.ErrSyntax" (fun b=>W.heap[b]?):=by
  obtain ⟨a,s,h1,_⟩:=laid_sentinel (g:=1) (ti:=120) (tp:=160) (te:=162) (ts:=9) h (by kernel_rfl) (by kernel_rfl) Tryd.underlying120 zvz Tryd.underlying160 Tryd.underlying162 rfl rfl Tryd.underlying9 (by kernel_rfl) (by kernel_rfl)
  exact .of_var h1
end Go.Proofs.YtpllgpgdcbgalaaDoor
set_option maxRecDepth 8000
namespace Go.Proofs.YtpllgpgdcbgalaaDoor
open Go Go.RowKit Go.ChangeShapes
theorem zsy {H:Type} {enc:TypeId×Value→H} {a:Assume} {C:Checked} {os:Os} {f:FuncId} {fn:Func} {s:ChangeSpec} {zfm:List PathCond} {apart fresh handsOn again:Bool} {X:World→Array Value→Prop}
    (hX:∀ (w w':World) (args:Array Value),w.heap=w'.heap→X w args→X w' args)
    (own:ownKnob C.prog.godebug=none) (started:os.Started) (noInit:C.prog.inits.idxOf? f=none) (hfn:C.prog.funcs[f]? = some fn)
    (witness:∃ (w:World) (tape:Tape) (i:Input),w.os=os∧(w.forCall tape i).Shaped C.prog∧i.vars=[]∧Input.okWide C.prog (w.forCall tape i) .any w.heap.size f i ∧
      ((s.pre enc C.prog fn zfm apart (w.forCall tape i).memory i.args∧X (w.forCall tape i).memory i.args)∧sizedMet enc C.prog fn (OpenSpec.ofChange s) apart (w.forCall tape i).memory i.args)∧a.holds C.prog (lone (Frame.enter C.prog f i.args .normal) [] (w.forCall tape i)))
    (contract:∀ (W:World) (base:Nat) (args:Array Value) (ds gs:List (DataW H)) (before:List MemPlace),W.ShapedOpen C.prog →
      (∀ (j:Nat) t v,fn.params[j]? = some t→args[j]? = some v→Value.okWide C.prog W .any base t v) →
      DataW.Whole enc C.prog fn.params.toList s.vars apart W args.toList ds gs before →
      zfm.all (PathCond.test C.prog ⟨fn.params.toList,ds,s.plain.varTypes C.prog,gs⟩)=true →
      (DataW.weightsEach C.prog (fn.params.toList ++ s.plain.varTypes C.prog) (ds ++ gs)).all (· ≤ reachBytes)=true→X W args →
      a.holds C.prog (lone (Frame.enter C.prog f args .normal) [] W) →
      Calls C.prog f args W fun e W'=>∃ v,e=.returned v∧s.post enc C.prog fn apart fresh handsOn again W args v W') :
    ReturnsInHanded a C os f .any (fun w args=>(s.pre enc C.prog fn zfm apart w args∧X w args)∧sizedMet enc C.prog fn (OpenSpec.ofChange s) apart w args) (s.post enc C.prog fn apart fresh handsOn again):=by
  refine returnsInHanded_of_calls own started noInit witness ?_
  intro w tape i _ shape _ hok hpre hholds
  obtain ⟨_,_,_,fn',hfn',_,_,_,_,hval⟩:=hok
  obtain rfl:fn'=fn:=Option.some.inj (hfn'.symm.trans hfn)
  obtain ⟨⟨⟨ds,gs,before,hw,hc⟩,hx⟩,hz⟩:=hpre
  have whole:=DataW.Whole.of_heap (w':=w.forCall tape i) (by rfl) hw
  have calls:=contract (w.forCall tape i) w.heap.size i.args ds gs before shape hval whole hc (hz.weights hw) (hX _ _ _ (by rfl) hx) hholds
  refine calls.mono ?_
  rintro e W' ⟨v,rfl,hp⟩
  exact ChangeSpec.post_blind hp
theorem zvc {W:World} (h:W.ShapedOpen Tryd.prog):LayM "internal/bytealg.MaxLen" (fun b=>W.heap[b]?) :=
  .of_cell (g:=0) (by kernel_rfl) (cell_of_shapedOpen_int (t:=3) (zero := #[.int .i64 0]) h (of_decide_eq_true (by kernel_rfl)) (by kernel_rfl) rfl (by kernel_rfl) (by kernel_rfl) Tryd.underlying3)
end Go.Proofs.YtpllgpgdcbgalaaDoor
