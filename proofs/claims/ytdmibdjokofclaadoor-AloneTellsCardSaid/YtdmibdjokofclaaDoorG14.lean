/- The document's machine: where a step's instruction begins. The document's machine: instructions. What is made of two values: the document's function. The document's machine: instructions. The document's machine: instructions on cells. The document's machine: other instructions. The document's machine: `with`, where the order is drawn. The document's machine: setting out, saying, calling, coming back. The document's machine: calling. The document's machine: coming back. -/
import Derived.Test.YtdmibdjokofclaaDoorG13
import Derived.Test.YtdmibdjokofclaaDoorG10
set_option linter.unusedSimpArgs false
set_option linter.unusedVariables false
set_option maxRecDepth 8000
namespace Go.Proofs.YtdmibdjokofclaaDoor
open Go Go.RowKit
structure VSt (H0 H:Heap) (nx n ga:Nat) (b:Agt) (s:Spt) (fs:List Frm) (f:Frm) (ins:List Val) (i:Ins):Prop where
  o:Outs H0 H nx
  r0:H nx=some (.row 9 (zc b.id b.trip b.prog (.slc ga 0 (fs.length+1)) (.ro (b.heap.map Cl.avs)) b.permit))
  r1:H (nx+1)=some (.row 4 s.avs)
  r4:H (nx+4)=some (.row 4 [.int .i64 f.fn,.int .i64 f.at_,.slc (nx+11) 0 f.vars.length,.slc (nx+9) 0 f.stack.length])
  r5:H (nx+5)=some (.row 3 i.avs)
  ra:H ga=some (.row 4 ((fs.map Frm.avs).flatten ++ [.int .i64 f.fn,.int .i64 f.at_,.slc (nx+11) 0 f.vars.length,.slc (nx+9) 0 f.stack.length]))
  rv:H (nx+11)=some (.row 3 (rowV f.vars))
  rs:H (nx+9)=some (.row 3 (rowV f.stack))
  ri:H (nx+7)=some (.row 3 (rowV ins))
  ga1:nx+12≤ga∧ga < n
  hk:fs.length≤4096
  hst:f.stack.length≤4096
section
variable {H0 H:Heap} {nx n ga:Nat} {b:Agt} {s:Spt} {fs:List Frm} {f:Frm} {ins:List Val} {i:Ins}
theorem VSt.more (R:VSt H0 H nx n ga b s fs f ins i) {H':Heap} {n':Nat} (hn:n≤n') (hk:∀ g,g < n→H' g=H g):VSt H0 H' nx n' ga b s fs f ins i:=by
  have g1:=R.ga1
  exact ⟨R.o.more fun g hg _ _=>hk g (by omega),by rw [hk _ (by omega)]; exact R.r0,by rw [hk _ (by omega)]; exact R.r1,by rw [hk _ (by omega)]; exact R.r4,by rw [hk _ (by omega)]; exact R.r5,by rw [hk _ (by omega)]; exact R.ra,by rw [hk _ (by omega)]; exact R.rv,by rw [hk _ (by omega)]; exact R.rs,by rw [hk _ (by omega)]; exact R.ri,⟨by omega,by omega⟩,R.hk,R.hst⟩
theorem zajw {H:Heap} {g:Nat} {o:Option AObj} (h:H g=o):H.put g o=H:=by
  funext x
  by_cases e:x=g
  · subst e; rw [Heap.put_at,h]
  · rw [Heap.put_ne _ _ e]
theorem VSt.self (R:VSt H0 H nx n ga b s fs f ins i):H.put nx (some (.row 9 [.int .i64 b.id,.int .i64 b.trip,.ro (b.prog.codes.map Cod.avs),.ro (b.prog.words.map fun w=>[.str w]),.slc ga 0 (fs.length+1),.ro (b.heap.map Cl.avs),.int .i64 b.permit.fuel,.int .i64 b.permit.room,.int .i64 b.permit.hops]))=H:=zajw R.r0
theorem VSt.push (R:VSt H0 H nx n ga b s fs f ins i) (v:Val) {Q:AV→Heap→Nat→Prop} (hq:∀ v' H' n',Good H' nx v' ⟨b.id,b.trip,b.prog,fs ++ [{ f with stack:=f.stack ++ [v] }],b.heap,b.permit⟩→Outs H0 H' nx→Q (.tup [v',.agg VM.ev0.avs]) H' n') :
    za Tryd.prog 43 [.agg v.avs,.ptr (nx+4) 0,.ptr nx 0] H n Q:=by
  have g1:=R.ga1
  refine zadr (f:=f) v (by omega) R.hk R.hst R.r0 R.r4 R.rs ⟨by omega,by omega⟩ ⟨by omega,by omega⟩ R.ra (by omega) ⟨rfl,rfl,rfl,rfl⟩ (fun H' hk => ?_) (fun H' hk=>.ro (zao _)) fun v' H' n' g hk=>hq v' H' n' g (R.o.more fun g hg _ _=>hk g hg)
  exact Part.row (by rw [hk _ (by omega) (by omega) (by omega)]; exact R.rv) (by omega) (by omega)
theorem VSt.good (R:VSt H0 H nx n ga b s fs f ins i) {H':Heap} (hk:∀ g,nx+4≤g→g < n→H' g=H g):Good H' nx (.agg (zc b.id b.trip b.prog (.slc ga 0 (fs.length+1)) (.ro (b.heap.map Cl.avs)) b.permit)) ⟨b.id,b.trip,b.prog,fs ++ [f],b.heap,b.permit⟩:=by
  have g1:=R.ga1
  exact zmi (n:=n) (by omega) (by rw [hk _ (by omega) (by omega)]; exact R.ra) (Part.row (by rw [hk _ (by omega) (by omega)]; exact R.rv) (by omega) (by omega)) (Part.row (by rw [hk _ (by omega) (by omega)]; exact R.rs) (by omega) (by omega)) (.ro (zao _))
theorem VSt.no (R:VSt H0 H nx n ga b s fs f ins i) (er:Int) {Q:AV→Heap→Nat→Prop} (hq:∀ v' H' n',Good H' nx v' ⟨b.id,b.trip,b.prog,fs ++ [f],b.heap,b.permit⟩→Outs H0 H' nx→Q (.tup [v',.agg (VM.dead er).avs]) H' n') :
    za Tryd.prog 41 [.int .i64 er,.ptr nx 0] H n Q:=by
  have g1:=R.ga1
  refine zaia er R.r0 rfl (fun x hx => ?_) (by omega) fun H' hk=>hq _ H' _ (R.good fun g _ hg=>hk g hg) (R.o.more fun g hg _ _=>hk g (by omega))
  simp [zc] at hx
  rcases hx with rfl | rfl | rfl | rfl | rfl | rfl | rfl | rfl | rfl <;> rfl
theorem VSt.with (R:VSt H0 H nx n ga b s fs f ins i) {f':Frm} {h:List Cl} {m:Pmt} {va sa ha:AV} (hv:Part H nx n va (.ro (f'.vars.map Val.avs))) (hs:Part H nx n sa (.ro (f'.stack.map Val.avs))) (hh:Part H nx n ha (.ro (h.map Cl.avs))) {Q:AV→Heap→Nat→Prop}
    (hq:∀ H' n' g',n≤g'→g' < n'→Keep n H' H→H' g'=some (.row 4 ((fs.map Frm.avs).flatten ++ [.int .i64 f'.fn,.int .i64 f'.at_,va,sa]))→Good H' nx (.agg (zc b.id b.trip b.prog (.slc g' 0 (fs.length+1)) ha m)) ⟨b.id,b.trip,b.prog,fs ++ [f'],h,m⟩→Outs H0 H' nx→Q (.agg (zc b.id b.trip b.prog (.slc g' 0 (fs.length+1)) ha m)) H' n') :
    za Tryd.prog 42 [.agg (zc b.id b.trip b.prog (.slc ga 0 (fs.length+1)) ha m),.agg [.int .i64 f'.fn,.int .i64 f'.at_,va,sa]] H n Q:=by
  have g1:=R.ga1
  exact zdl (by omega) R.hk g1.2 R.ra ⟨rfl,rfl,rfl,rfl⟩ hv hs hh fun H' n' g' h1 h2 kp hr gd=>hq H' n' g' h1 h2 kp hr gd (R.o.more fun g hg _ _=>kp g (by omega))
def Then (H0 H:Heap) (nx n ga:Nat) (b:Agt) (fs:List Frm) (ins:List Val) (r:Agt×Evt):Prop :=
  zi nx (zji H0 nx r) (.slc (nx+7) 0 ins.length) (.agg (zc b.id b.trip b.prog (.slc ga 0 (fs.length+1)) (.ro (b.heap.map Cl.avs)) b.permit)) H n
end
end Go.Proofs.YtdmibdjokofclaaDoor
set_option maxRecDepth 8000
namespace Go.Proofs.YtdmibdjokofclaaDoor
open Go Go.RowKit
section
variable {H0 H:Heap} {nx n ga:Nat} {b:Agt} {s:Spt} {fs:List Frm} {f:Frm} {ins:List Val} {ia ib:Int}
set_option maxRecDepth 20000 in
set_option maxHeartbeats 1000000 in
theorem zaqe (R:VSt H0 H nx n ga b s fs f ins ⟨1,ia,ib⟩):Then H0 H nx n ga b fs ins (VM.push b fs f f.stack ⟨0,ia,[]⟩):=by
  unfold Then
  have r0:=R.r0
  have r5:=R.r5
  have self:=R.self
  simp [zi,r0,zc,r5,self,Ins.avs]
  exact R.push ⟨0,ia,[]⟩ fun v' H' n' g o=>retE (r:=VM.push b fs f f.stack ⟨0,ia,[]⟩) g o
set_option maxRecDepth 20000 in
set_option maxHeartbeats 1000000 in
theorem zaqd (R:VSt H0 H nx n ga b s fs f ins ⟨2,ia,ib⟩) (h0:0≤ia) {w:Str} (hw:b.prog.words[ia.toNat]? = some w) (hl:w.length≤maxLen):Then H0 H nx n ga b fs ins (VM.push b fs f f.stack (VM.cText w)):=by
  unfold Then
  have r0:=R.r0
  have r5:=R.r5
  have self:=R.self
  obtain ⟨hlt,hwe⟩:=List.getElem?_eq_some_iff.1 hw
  have hlt':ia < b.prog.words.length:=by omega
  simp [zi,r0,zc,r5,self,Ins.avs,h0,hlt,hlt',hwe]
  refine QC.call (zyf w hl) ?_
  simp only [zqb]
  exact R.push (VM.cText w) fun v' H' n' g o=>retE (r:=VM.push b fs f f.stack (VM.cText w)) g o
set_option maxRecDepth 20000 in
set_option maxHeartbeats 1000000 in
theorem zaot (R:VSt H0 H nx n ga b s fs f ins ⟨12,ia,ib⟩) (hl:s.name.length≤maxLen):Then H0 H nx n ga b fs ins (VM.push b fs f f.stack (VM.cText s.name)):=by
  unfold Then
  have r0:=R.r0
  have r1:=R.r1
  have r5:=R.r5
  have self:=R.self
  simp [zi,r0,r1,zc,r5,self,Ins.avs,Spt.avs]
  refine QC.call (zyf s.name hl) ?_
  simp only [zqa]
  exact R.push (VM.cText s.name) fun v' H' n' g o=>retE (r:=VM.push b fs f f.stack (VM.cText s.name)) g o
set_option maxRecDepth 20000 in
set_option maxHeartbeats 1000000 in
theorem zaqc (R:VSt H0 H nx n ga b s fs f ins ⟨3,ia,ib⟩) (h0:0≤ia) {v:Val} (hv:f.vars[ia.toNat]? = some v):Then H0 H nx n ga b fs ins (VM.push b fs f f.stack v):=by
  unfold Then
  have r0:=R.r0
  have r4:=R.r4
  have r5:=R.r5
  have rv:=R.rv
  have self:=R.self
  obtain ⟨hlt,hve⟩:=List.getElem?_eq_some_iff.1 hv
  have hlt':ia < f.vars.length:=by omega
  have row:=zvw hv
  have hle:ia.toNat*3+3≤f.vars.length*3:=by omega
  simp [zi,r0,zc,r4,r5,rv,self,Ins.avs,h0,hlt',row,hle]
  exact R.push v fun v' H' n' g o=>retE (r:=VM.push b fs f f.stack v) g o
set_option maxRecDepth 20000 in
set_option maxHeartbeats 1000000 in
theorem zaqb (R:VSt H0 H nx n ga b s fs f ins ⟨4,ia,ib⟩) (h0:0≤ia) {v:Val} (hlt:ia.toNat < f.vars.length) (hi:ins=[v]):Then H0 H nx n ga b fs ins (VM.toF b fs { f with vars:=f.vars.set ia.toNat v },VM.ev0):=by
  unfold Then
  have r0:=R.r0
  have r4:=R.r4
  have r5:=R.r5
  have rv:=R.rv
  have ri:=R.ri
  have self:=R.self
  subst hi
  have hlt':ia < f.vars.length:=by omega
  have hle:ia.toNat*3+3≤f.vars.length*3:=by omega
  have one:rowV [v]=v.avs:=by simp [rowV]
  have lv:v.avs.length=3:=rfl
  have tv:v.avs.take 3=v.avs:=rfl
  rw [one] at ri
  simp [zi,r0,zc,r4,r5,rv,ri,self,Ins.avs,h0,hlt',hle,lv,tv]
  refine ⟨fun x hx=>zae (zat v x hx),?_⟩
  have g1:=R.ga1
  generalize hX:Heap.put H (nx+11) _=HX
  have xk:∀ g,g ≠ nx+11→HX g=H g:=fun g hg=>by rw [← hX,Heap.put_ne _ _ hg]
  have x1:HX (nx+11)=some (.row 3 (rowV (f.vars.set ia.toNat v))):=by rw [← hX,Heap.put_at,← zyg hlt,List.append_assoc]
  have hv:Part HX nx n (.slc (nx+11) 0 f.vars.length) (.ro ((f.vars.set ia.toNat v).map Val.avs)):=by
    have:=Part.row (nx:=nx) (n:=n) x1 (by omega) (by omega)
    simpa using this
  refine zdl (f:={ f with vars:=f.vars.set ia.toNat v }) (by omega) R.hk g1.2 (by rw [xk ga (by omega)]; exact R.ra) ⟨rfl,rfl,rfl,rfl⟩ hv (.row (by rw [xk _ (by omega)]; exact R.rs) (by omega) (by omega)) (.ro (zao _)) fun H' n' g' h1 h2 kp hr gd => ?_
  exact ret (r:=(VM.toF b fs { f with vars:=f.vars.set ia.toNat v },VM.ev0)) gd (R.o.more fun g hg _ _=>by rw [kp g (by omega)]; exact xk g (by omega))
end
end Go.Proofs.YtdmibdjokofclaaDoor
set_option maxRecDepth 8000
namespace Go.Proofs.YtdmibdjokofclaaDoor
open Go Go.RowKit
set_option maxHeartbeats 4000000 in
theorem zaoi (op:Int) (a b:Val) (N M:Int) (ha:VM.wrong a N=0) (hb:VM.wrong b M=0):QC Tryd.prog 45 [.int .i64 op,.agg a.avs,.agg b.avs] (.tup [.agg (VM.two op a b).1.avs,.int .i64 (VM.two op a b).2]):=by
  have wa:=VM.wrong_ok ha
  have wb:=VM.wrong_ok hb
  obtain ⟨ka,na,sa⟩:=a
  obtain ⟨kb,nb,sb⟩:=b
  obtain ⟨a1,a2,a3,_,_,a6⟩:=wa
  obtain ⟨b1,b2,b3,_,_,b6⟩:=wb
  simp only at a1 a2 a3 a6 b1 b2 b3 b6
  refine QC.of' fun H nx=>zxy _ _ _ H nx _ ?_
  by_cases h0:op < 1∨5 < op
  · have e:VM.two op ⟨ka,na,sa⟩ ⟨kb,nb,sb⟩=(VM.vzero,1):=if_pos h0
    rw [e]
    by_cases h1:op < 1
    · simp [zhb,Val.avs]
      refine JN.same ?_
      simp [zhd,h1,zhc,VM.vzero]
    · have h2:5 < op:=by omega
      simp [zhb,Val.avs]
      refine JN.same ?_
      simp [zhd,h1,h2,zhc,VM.vzero]
  have h1:¬ op < 1:=by omega
  have h2:¬ 5 < op:=by omega
  simp [zhb,Val.avs]
  refine JN.same ?_
  simp [zhd,h1,h2,zhc,CALL]
  refine ⟨fun h5 => ?_,fun h5 => ?_⟩
  · have e:VM.two op ⟨ka,na,sa⟩ ⟨kb,nb,sb⟩=(VM.bit (decide (ka=kb∧na=nb∧sa=sb)),0):=by
      unfold VM.two; rw [if_neg h0,if_pos h5]; simp
    rw [e]
    refine ⟨fun g1=>⟨fun g2 => ?_,fun g2 => ?_⟩,fun g1 => ?_⟩
    · refine QC.call (zvi _) ?_
      simp [zsk,Val.avs,g1,g2]
    · refine QC.call (zvi _) ?_
      simp [zsj,Val.avs,g1,g2]
    · refine QC.call (zvi _) ?_
      simp [zsi,Val.avs,g1]
  refine JN.same ?_
  have rest : ¬ (ka=1∧kb=1∧(op=1∨op=4))→∀ H2:Heap,H2 nx=some (.row 3 [.int .i64 ka,.int .i64 na,.str sa])→H2 (nx+1)=some (.row 3 [.int .i64 kb,.int .i64 nb,.str sb])→H2 (nx+2)=some (.row 3 [.int .i64 0,.int .i64 0,.str []])→Keep nx H2 H →
      zev (fun v H' _=>Frz H' nx v (.tup [.agg (VM.two op ⟨ka,na,sa⟩ ⟨kb,nb,sb⟩).1.avs,.int .i64 (VM.two op ⟨ka,na,sa⟩ ⟨kb,nb,sb⟩).2])∧Keep nx H' H)
        [.int .i64 op,.ptr nx 0,.ptr (nx+1) 0,.ptr (nx+2) 0,.clo 66 []] H2 (nx+3):=by
    intro hk H2 g1 g2 g3 hK
    have e1:VM.two op ⟨ka,na,sa⟩ ⟨kb,nb,sb⟩=if ka ≠ 0∨kb ≠ 0 then (VM.vzero,11) else if op=1 then (VM.cInt (na+nb),0) else if op=2 then (VM.cInt (na - nb),0) else if op=3 then (VM.cInt (na*nb),0) else (VM.bit (decide (na < nb)),0):=by
      unfold VM.two; rw [if_neg h0,if_neg h5,if_neg (fun h=>hk ⟨h.1.1,h.1.2,.inl h.2⟩),if_neg (fun h=>hk ⟨h.1.1,h.1.2,.inr h.2⟩)]
    rw [e1]
    have w0:IntKind.i64.wrap (ka+kb)=ka+kb:=i64w (by omega)
    by_cases hka:ka=0
    · by_cases hkb:kb=0
      · obtain ⟨p1,p2⟩:=a2 hka
        obtain ⟨q1,q2⟩:=b2 hkb
        subst hka hkb
        have hmul : -1152921504606846976≤na*nb∧na*nb≤1152921504606846976:=by
          have m1:na*nb≤1073741824*1073741824:=by
            rcases Int.le_total 0 na with h | h <;> rcases Int.le_total 0 nb with h' | h'
            · exact Int.mul_le_mul p2 q2 h' (by omega)
            · have:=Int.mul_nonpos_of_nonneg_of_nonpos h h'; omega
            · have:=Int.mul_nonpos_of_nonpos_of_nonneg h h'; omega
            · have:(-na)*(-nb)≤1073741824*1073741824:=Int.mul_le_mul (by omega) (by omega) (by omega) (by omega)
              rwa [Int.neg_mul_neg] at this
          have m2 : -(na*nb)≤1073741824*1073741824:=by
            rcases Int.le_total 0 na with h | h <;> rcases Int.le_total 0 nb with h' | h'
            · have:=Int.mul_nonneg h h'; omega
            · have:na*(-nb)≤1073741824*1073741824:=Int.mul_le_mul (by omega) (by omega) (by omega) (by omega)
              rwa [Int.mul_neg] at this
            · have:(-na)*nb≤1073741824*1073741824:=Int.mul_le_mul (by omega) (by omega) (by omega) (by omega)
              rwa [Int.neg_mul] at this
            · have:=Int.mul_nonneg_of_nonpos_of_nonpos h h'; omega
          omega
        have w1:IntKind.i64.wrap (na+nb)=na+nb:=i64w (by omega)
        have w2:IntKind.i64.wrap (na - nb)=na - nb:=i64w (by omega)
        have w3:IntKind.i64.wrap (na*nb)=na*nb:=i64w (by omega)
        have w4:IntKind.i64.wrap 0=0:=i64w (by omega)
        simp [zev,g1,g2,w1,w2,w3,w4,CALL]
        refine ⟨fun h => ?_,fun h=>⟨fun h' => ?_,fun h'=>⟨fun h'' => ?_,fun h'' => ?_⟩⟩⟩
        · refine QC.call (zabl _ (by simp only [I64]; omega)) ?_
          simp [zsh,g3,Val.avs,h,hK,Keep.put]
        · refine QC.call (zabl _ (by simp only [I64]; omega)) ?_
          simp [zsg,g3,Val.avs,h',hK,Keep.put]
        · refine QC.call (zabl _ (by simp only [I64]; omega)) ?_
          simp [zsf,g3,Val.avs,h'',hK,Keep.put]
        · refine QC.call (zvi _) ?_
          simp [zse,g3,Val.avs,h,h',h'',hK,Keep.put]
      · have:¬ ka+kb=0:=by omega
        have n0:¬ kb=0:=hkb
        subst hka
        simp only [Int.zero_add] at w0
        simp [zev,g1,g2,g3,w0,hkb,VM.vzero,hK,Keep.put,Val.avs]
    · have:¬ ka+kb=0:=by omega
      simp [zev,g1,g2,g3,w0,this,hka,VM.vzero,hK,Keep.put,Val.avs]
  by_cases hk:ka=1∧kb=1
  · obtain ⟨rfl,rfl⟩:=hk
    simp [zhe,CALL]
    refine ⟨fun h => ?_,fun h=>⟨fun h4 => ?_,fun h4 => ?_⟩⟩
    · subst h
      refine ⟨by omega,?_⟩
      refine QC.call (zyf _ (by simp only [maxLen,List.length_append]; omega)) ?_
      have e:VM.two 1 ⟨1,na,sa⟩ ⟨1,nb,sb⟩=(VM.cText (sa ++ sb),0):=rfl
      rw [e]
      simp [zsd,Val.avs]
    · subst h4
      refine QC.call (zvi _) ?_
      have e:VM.two 4 ⟨1,na,sa⟩ ⟨1,nb,sb⟩=(VM.bit (Op.bytesLess sa sb),0):=rfl
      rw [e]
      simp [zsc,Val.avs]
    · exact rest (by rintro ⟨_,_,h' | h'⟩ <;> contradiction) _ (by simp) (by simp) (by simp) (by simp)
  · have rest':=rest (fun h=>hk ⟨h.1,h.2.1⟩)
    by_cases hka:ka=1
    · have hkb:¬ kb=1:=fun h=>hk ⟨hka,h⟩
      simp [zhe,hka,hkb]
      rw [hka] at rest'
      exact rest' _ (by simp) (by simp) (by simp) (by simp)
    · simp [zhe,hka]
      exact rest' _ (by simp) (by simp) (by simp) (by simp)
end Go.Proofs.YtdmibdjokofclaaDoor
set_option maxRecDepth 8000
namespace Go.Proofs.YtdmibdjokofclaaDoor
open Go Go.RowKit
section
variable {H0 H:Heap} {nx n ga:Nat} {b:Agt} {s:Spt} {fs:List Frm} {f:Frm} {ins:List Val} {ia ib:Int}
theorem zans {A:Nat→Prop} {a b:AV} (h1:Bel A a) (h2:Bel A b):Bel A (.tup [a,b]):=by
  refine .tup _ fun i x hx => ?_
  match i,hx with
  | 0,hx=>cases hx; exact h1
  | 1,hx=>cases hx; exact h2
  | i+2,hx=>simp at hx
theorem Part.rowC {H:Heap} {nx n g:Nat} {l:List Cl} (h:H g=some (.row 6 (rowC l))) (hg:nx+4≤g) (hl:g < n):Part H nx n (.slc g 0 l.length) (.ro (l.map Cl.avs)) :=
  ⟨rfl,rfl,rfl,fun H2 hk=>Slot.frzH (.inr ⟨g,_,rfl,by rw [hk g hg hl]; exact h,List.take_of_length_le (by simp),by simp⟩) (by simp [own]; omega)⟩
theorem zaed (x y:Val):(rowV [x,y]).take 3=x.avs∧((rowV [x,y]).drop 3).take 3=y.avs∧(rowV [x,y]).length=6:=⟨rfl,rfl,rfl⟩
set_option maxRecDepth 20000 in
set_option maxHeartbeats 1000000 in
theorem zaqa (R:VSt H0 H nx n ga b s fs f ins ⟨5,ia,ib⟩) {x y:Val} (hi:ins=[x,y]) {N M:Int} (wx:VM.wrong x N=0) (wy:VM.wrong y M=0):Then H0 H nx n ga b fs ins (if (VM.two ia x y).2=0 then VM.push b fs f f.stack (VM.two ia x y).1 else (VM.toF b fs f,VM.dead (VM.two ia x y).2)):=by
  unfold Then
  have r0:=R.r0
  have r4:=R.r4
  have r5:=R.r5
  have ri:=R.ri
  have self:=R.self
  subst hi
  have g1:=R.ga1
  obtain ⟨w1,w2,w3⟩:=zaed x y
  have n1:n ≠ nx+5:=by omega
  have n2:n ≠ nx+7:=by omega
  simp [zi,r0,zc,r4,r5,ri,self,Ins.avs,w1,w2,w3]
  refine zo.of_qc (r:=.tup [.agg (VM.two ia x y).1.avs,.int .i64 (VM.two ia x y).2]) (zaoi ia x y N M wx wy) ?_ ?_
  · exact zans (zfo _) (.int _ _)
  have one:=zah (VM.two ia x y).1
  have R':=R.more (H':=H.put n (some (.row 3 (VM.two ia x y).1.avs))) (n':=n+1) (by omega) fun g hg=>Heap.put_ne _ _ (by omega)
  by_cases h2:(VM.two ia x y).2=0
  · simp [zih,h2,n1,n2]
    exact ⟨one,R'.push _ fun v' H' n' g o=>retE (r:=VM.push b fs f f.stack (VM.two ia x y).1) g o⟩
  · simp [zih,h2,n1,n2]
    exact ⟨one,R'.no _ fun v' H' n' g o=>retE (r:=(VM.toF b fs f,VM.dead (VM.two ia x y).2)) g o⟩
set_option maxRecDepth 20000 in
set_option maxHeartbeats 1000000 in
theorem zapz (R:VSt H0 H nx n ga b s fs f ins ⟨6,ia,ib⟩) {x y:Val} (hi:ins=[x,y]) (h0:0≤b.permit.room) (hh:b.heap.length≤4096) (hm:b.permit.room≤4096):Then H0 H nx n ga b fs ins (if b.permit.room=0 then (VM.toF b fs f,VM.dead 13) else VM.push { b with heap:=b.heap ++ [Cl.mk x y],permit:={ b.permit with room:=b.permit.room - 1 } } fs f f.stack ⟨2,b.heap.length,[]⟩):=by
  unfold Then
  have r0:=R.r0
  have r4:=R.r4
  have r5:=R.r5
  have ri:=R.ri
  have self:=R.self
  subst hi
  have g1:=R.ga1
  obtain ⟨w1,w2,w3⟩:=zaed x y
  have n1:n ≠ nx+5:=by omega
  have n2:n ≠ nx+7:=by omega
  by_cases hr:b.permit.room=0
  · have hr1:b.permit.room < 1:=by omega
    simp [zi,r0,zc,r4,r5,ri,self,Ins.avs,w1,w2,w3,hr]
    rw [hr] at self
    rw [self]
    exact R.no 13 fun v' H' n' g o=>retE (r:=(VM.toF b fs f,VM.dead 13)) g o
  · have hr1:¬ b.permit.room < 1:=by omega
    have hw:IntKind.i64.wrap (b.permit.room - 1)=b.permit.room - 1:=i64w (by omega)
    have hsrc:∀ (H:Heap),zm 6 H (.ro (b.heap.map Cl.avs))=some (b.heap.length,rowC b.heap,[]):=fun H=>by rw [zcw (zbj b.heap)]; simp [rowC]
    have tk:(rowC b.heap).take (b.heap.length*6)=rowC b.heap:=List.take_of_length_le (by simp)
    have hw2:IntKind.i64.wrap (b.heap.length:Int)=b.heap.length:=i64w (by omega)
    have one:=zah x
    have one2:=zah y
    have lx:x.avs.length=3:=rfl
    have ly:y.avs.length=3:=rfl
    have e6:List.drop 6 (x.avs ++ [AV.int .i64 0,AV.int .i64 0,AV.str []])=[]:=rfl
    have t6:List.take 6 (x.avs ++ y.avs)=x.avs ++ y.avs:=rfl
    have ne_0:nx ≠ nx+4∧nx+4 ≠ nx∧nx ≠ nx+5∧nx+5 ≠ nx∧nx ≠ nx+7∧nx+7 ≠ nx∧nx+4 ≠ nx+5∧nx+5 ≠ nx+4∧nx+4 ≠ nx+7∧nx+7 ≠ nx+4∧nx+5 ≠ nx+7∧nx+7 ≠ nx+5∧nx ≠ n∧n ≠ nx∧nx ≠ n+1∧n+1 ≠ nx∧nx ≠ n+1+1∧n+1+1 ≠ nx∧nx ≠ n+1+1+1∧n+1+1+1 ≠ nx∧nx ≠ n+2∧n+2 ≠ nx∧nx ≠ n+3∧n+3 ≠ nx∧nx+4 ≠ n∧n ≠ nx+4∧nx+4 ≠ n+1∧n+1 ≠ nx+4∧nx+4 ≠ n+1+1∧n+1+1 ≠ nx+4∧nx+4 ≠ n+1+1+1∧n+1+1+1 ≠ nx+4∧nx+4 ≠ n+2∧n+2 ≠ nx+4∧nx+4 ≠ n+3∧n+3 ≠ nx+4∧nx+5 ≠ n∧n ≠ nx+5∧nx+5 ≠ n+1∧n+1 ≠ nx+5∧nx+5 ≠ n+1+1∧n+1+1 ≠ nx+5∧nx+5 ≠ n+1+1+1∧n+1+1+1 ≠ nx+5∧nx+5 ≠ n+2∧n+2 ≠ nx+5∧nx+5 ≠ n+3∧n+3 ≠ nx+5∧nx+7 ≠ n∧n ≠ nx+7∧nx+7 ≠ n+1∧n+1 ≠ nx+7∧nx+7 ≠ n+1+1∧n+1+1 ≠ nx+7∧nx+7 ≠ n+1+1+1∧n+1+1+1 ≠ nx+7∧nx+7 ≠ n+2∧n+2 ≠ nx+7∧nx+7 ≠ n+3∧n+3 ≠ nx+7:=⟨by omega,by omega,by omega,by omega,by omega,by omega,by omega,by omega,by omega,by omega,by omega,by omega,by omega,by omega,by omega,by omega,by omega,by omega,by omega,by omega,by omega,by omega,by omega,by omega,by omega,by omega,by omega,by omega,by omega,by omega,by omega,by omega,by omega,by omega,by omega,by omega,by omega,by omega,by omega,by omega,by omega,by omega,by omega,by omega,by omega,by omega,by omega,by omega,by omega,by omega,by omega,by omega,by omega,by omega,by omega,by omega,by omega,by omega,by omega,by omega⟩
    simp [zi,r0,zc,r4,r5,ri,self,Ins.avs,w1,w2,w3,hr,hr1,hw,hsrc,tk,hw2,lx,ly,ne_0,e6,t6]
    refine ⟨fun c hc=>zae (zby _ c hc),by omega,fun c hc=>by rcases hc with h | h; exact one c h; exact one2 c h,by omega,by omega,by omega,by omega,?_⟩
    generalize hX:Heap.put _ nx _=HX
    have x0:HX nx=some (.row 9 (zc b.id b.trip b.prog (.slc ga 0 (fs.length+1)) (.slc (n+1+1+1) 0 (b.heap.length+1)) (Pmt.mk b.permit.fuel (b.permit.room - 1) b.permit.hops))):=by rw [← hX,Heap.put_at]; rfl
    have x1:HX (n+1+1+1)=some (.row 6 (rowC (b.heap ++ [Cl.mk x y]))):=by rw [← hX,Heap.put_ne _ _ (by omega),Heap.put_at,zun]; rfl
    have xk:∀ g,g < n→g ≠ nx→HX g=H g:=fun g h1 h2=>by
      rw [← hX,Heap.put_ne _ _ h2,Heap.put_ne _ _ (by omega),Heap.put_ne _ _ (by omega),Heap.put_ne _ _ (by omega),Heap.put_ne _ _ (by omega),Heap.put_ne _ _ (by omega),Heap.put_ne _ _ h2]
    refine zadr (f:=f) (h:=b.heap ++ [Cl.mk x y]) (m:=Pmt.mk b.permit.fuel (b.permit.room - 1) b.permit.hops) ⟨2,b.heap.length,[]⟩ (by omega) R.hk R.hst x0 (by rw [xk _ (by omega) (by omega)]; exact R.r4) (by rw [xk _ (by omega) (by omega)]; exact R.rs) ⟨by omega,by omega⟩ ⟨by omega,by omega⟩ (by rw [xk _ (by omega) (by omega)]; exact R.ra) (by omega) ⟨rfl,rfl,rfl,rfl⟩ (fun H' hk => ?_) (fun H' hk => ?_) fun v' H' n' g hk=>retE (r:=VM.push { b with heap:=b.heap ++ [Cl.mk x y],permit:={ b.permit with room:=b.permit.room - 1 } } fs f f.stack ⟨2,b.heap.length,[]⟩) g (R.o.more fun g hg h1 _=>by rw [hk g hg]; exact xk g (by omega) h1)
    · exact Part.row (by rw [hk _ (by omega) (by omega) (by omega),xk _ (by omega) (by omega)]; exact R.rv) (by omega) (by omega)
    · have:=Part.rowC (H:=H') (nx:=nx) (n:=n+4) (g:=n+1+1+1) (l:=b.heap ++ [Cl.mk x y]) (by rw [hk _ (by omega) (by omega) (by omega)]; exact x1) (by omega) (by omega)
      simpa using this
end
end Go.Proofs.YtdmibdjokofclaaDoor
set_option maxRecDepth 8000
namespace Go.Proofs.YtdmibdjokofclaaDoor
open Go Go.RowKit
section
variable {H0 H:Heap} {nx n ga:Nat} {b:Agt} {s:Spt} {fs:List Frm} {f:Frm} {ins:List Val} {ia ib:Int}
theorem zyh:∀ {L:List Cl} {i:Nat} {c:Cl},i < L.length→(rowC L).take (i*6) ++ c.avs ++ (rowC L).drop (i*6+6)=rowC (L.set i c)
  | [],i,c,h=>by simp at h
  | w :: L,0,c,h=>by simp [rowC,Cl.avs,List.drop_append,List.drop_of_length_le,Val.avs]
  | w :: L,i+1,c,h=>by
    have ih:=zyh (L:=L) (i:=i) (c:=c) (by simpa using h)
    have hw:w.avs.length=6:=rfl
    have e:rowC (w :: L)=w.avs ++ rowC L:=by simp [rowC]
    have e2:rowC ((w :: L).set (i+1) c)=w.avs ++ rowC (L.set i c):=by simp [rowC]
    rw [e,e2,← ih,List.take_append,List.take_of_length_le (by omega),List.drop_append,List.drop_of_length_le (by omega),hw,show (i+1)*6 - 6=i*6 by omega,show (i+1)*6+6 - 6=i*6+6 by omega,List.nil_append]
    simp only [List.append_assoc]
theorem zcb (x:Val):rowV [x]=x.avs:=by simp [rowV]
set_option maxRecDepth 20000 in
set_option maxHeartbeats 1000000 in
theorem zaol (R:VSt H0 H nx n ga b s fs f ins ⟨7,ia,ib⟩) {x:Val} (hi:ins=[x]) (hk:x.kind ≠ 2):Then H0 H nx n ga b fs ins (VM.toF b fs f,VM.dead 11):=by
  unfold Then
  have r0:=R.r0
  have r4:=R.r4
  have r5:=R.r5
  have ri:=R.ri
  have self:=R.self
  subst hi
  have g1:=R.ga1
  have ri':H (nx+7)=some (.row 3 [.int .i64 x.kind,.int .i64 x.n,.str x.text]):=by rw [ri,zcb]; rfl
  simp [zi,r0,zc,r4,r5,ri',self,Ins.avs]
  refine JN.same ?_
  simp [zz]
  simp [zy,r0,zc,r4,r5,ri',Ins.avs,hk,CALL]
  exact R.no 11 fun v' H' n' g o=>retE (r:=(VM.toF b fs f,VM.dead 11)) g o
set_option maxRecDepth 20000 in
set_option maxHeartbeats 1000000 in
theorem zapy (R:VSt H0 H nx n ga b s fs f ins ⟨7,ia,ib⟩) {x:Val} (hi:ins=[x]) (hk:x.kind=2) (h0:0≤x.n) {c:Cl} (hc:b.heap[x.n.toNat]? = some c):Then H0 H nx n ga b fs ins (VM.push b fs f f.stack c.left):=by
  unfold Then
  have r0:=R.r0
  have r4:=R.r4
  have r5:=R.r5
  have ri:=R.ri
  have self:=R.self
  subst hi
  have g1:=R.ga1
  have ri':H (nx+7)=some (.row 3 [.int .i64 x.kind,.int .i64 x.n,.str x.text]):=by rw [ri,zcb]; rfl
  have h1:=(List.getElem?_eq_some_iff.1 hc).1
  have h2:x.n < b.heap.length:=by omega
  have hce:b.heap[x.n.toNat]=c:=(List.getElem?_eq_some_iff.1 hc).2
  have c6:c.avs.take 6=c.avs:=rfl
  have c3:c.avs.take 3=c.left.avs:=rfl
  have d3:(c.avs.drop 3).take 3=c.right.avs:=rfl
  have lc:c.avs.length=6:=rfl
  have ne_0:nx ≠ nx+4∧nx+4 ≠ nx∧nx ≠ nx+5∧nx+5 ≠ nx∧nx ≠ nx+7∧nx+7 ≠ nx∧nx+4 ≠ nx+5∧nx+5 ≠ nx+4∧nx+4 ≠ nx+7∧nx+7 ≠ nx+4∧nx+5 ≠ nx+7∧nx+7 ≠ nx+5∧nx ≠ n∧n ≠ nx∧nx+4 ≠ n∧n ≠ nx+4∧nx+5 ≠ n∧n ≠ nx+5∧nx+7 ≠ n∧n ≠ nx+7:=⟨by omega,by omega,by omega,by omega,by omega,by omega,by omega,by omega,by omega,by omega,by omega,by omega,by omega,by omega,by omega,by omega,by omega,by omega,by omega,by omega⟩
  simp [zi,r0,zc,r4,r5,ri',self,Ins.avs]
  refine JN.same ?_
  simp [zz]
  simp [zy,r0,zc,r4,r5,ri',Ins.avs,hk,h0,h2,hce,c6,c3,d3,lc,CALL,ne_0]
  exact ⟨fun y hy=>zae (zby [c] y (by simpa [rowC] using hy)),(R.more (by omega) fun g hg=>Heap.put_ne _ _ (by omega)).push _ fun v' H' n' g o=>retE (r:=VM.push b fs f f.stack c.left) g o⟩
set_option maxRecDepth 20000 in
set_option maxHeartbeats 1000000 in
theorem zaok (R:VSt H0 H nx n ga b s fs f ins ⟨8,ia,ib⟩) {x:Val} (hi:ins=[x]) (hk:x.kind ≠ 2):Then H0 H nx n ga b fs ins (VM.toF b fs f,VM.dead 11):=by
  unfold Then
  have r0:=R.r0
  have r4:=R.r4
  have r5:=R.r5
  have ri:=R.ri
  have self:=R.self
  subst hi
  have g1:=R.ga1
  have ri':H (nx+7)=some (.row 3 [.int .i64 x.kind,.int .i64 x.n,.str x.text]):=by rw [ri,zcb]; rfl
  simp [zi,r0,zc,r4,r5,ri',self,Ins.avs]
  refine JN.same ?_
  simp [zz]
  simp [zy,r0,zc,r4,r5,ri',Ins.avs,hk,CALL]
  exact R.no 11 fun v' H' n' g o=>retE (r:=(VM.toF b fs f,VM.dead 11)) g o
set_option maxRecDepth 20000 in
set_option maxHeartbeats 1000000 in
theorem zapx (R:VSt H0 H nx n ga b s fs f ins ⟨8,ia,ib⟩) {x:Val} (hi:ins=[x]) (hk:x.kind=2) (h0:0≤x.n) {c:Cl} (hc:b.heap[x.n.toNat]? = some c):Then H0 H nx n ga b fs ins (VM.push b fs f f.stack c.right):=by
  unfold Then
  have r0:=R.r0
  have r4:=R.r4
  have r5:=R.r5
  have ri:=R.ri
  have self:=R.self
  subst hi
  have g1:=R.ga1
  have ri':H (nx+7)=some (.row 3 [.int .i64 x.kind,.int .i64 x.n,.str x.text]):=by rw [ri,zcb]; rfl
  have h1:=(List.getElem?_eq_some_iff.1 hc).1
  have h2:x.n < b.heap.length:=by omega
  have hce:b.heap[x.n.toNat]=c:=(List.getElem?_eq_some_iff.1 hc).2
  have c6:c.avs.take 6=c.avs:=rfl
  have c3:c.avs.take 3=c.left.avs:=rfl
  have d3:(c.avs.drop 3).take 3=c.right.avs:=rfl
  have lc:c.avs.length=6:=rfl
  have ne_1:nx ≠ nx+4∧nx+4 ≠ nx∧nx ≠ nx+5∧nx+5 ≠ nx∧nx ≠ nx+7∧nx+7 ≠ nx∧nx+4 ≠ nx+5∧nx+5 ≠ nx+4∧nx+4 ≠ nx+7∧nx+7 ≠ nx+4∧nx+5 ≠ nx+7∧nx+7 ≠ nx+5∧nx ≠ n∧n ≠ nx∧nx+4 ≠ n∧n ≠ nx+4∧nx+5 ≠ n∧n ≠ nx+5∧nx+7 ≠ n∧n ≠ nx+7:=⟨by omega,by omega,by omega,by omega,by omega,by omega,by omega,by omega,by omega,by omega,by omega,by omega,by omega,by omega,by omega,by omega,by omega,by omega,by omega,by omega⟩
  simp [zi,r0,zc,r4,r5,ri',self,Ins.avs]
  refine JN.same ?_
  simp [zz]
  simp [zy,r0,zc,r4,r5,ri',Ins.avs,hk,h0,h2,hce,c6,c3,d3,lc,CALL,ne_1]
  exact ⟨fun y hy=>zae (zby [c] y (by simpa [rowC] using hy)),(R.more (by omega) fun g hg=>Heap.put_ne _ _ (by omega)).push _ fun v' H' n' g o=>retE (r:=VM.push b fs f f.stack c.right) g o⟩
set_option maxRecDepth 20000 in
set_option maxHeartbeats 1000000 in
theorem zaoj (R:VSt H0 H nx n ga b s fs f ins ⟨9,ia,ib⟩) {x y:Val} (hi:ins=[x,y]) (hk:x.kind ≠ 2):Then H0 H nx n ga b fs ins (VM.toF b fs f,VM.dead 11):=by
  unfold Then
  have r0:=R.r0
  have r4:=R.r4
  have r5:=R.r5
  have ri:=R.ri
  have self:=R.self
  subst hi
  have g1:=R.ga1
  have ri':H (nx+7)=some (.row 3 [.int .i64 x.kind,.int .i64 x.n,.str x.text,.int .i64 y.kind,.int .i64 y.n,.str y.text]):=by rw [ri]; rfl
  simp [zi,r0,zc,r4,r5,ri',self,Ins.avs]
  refine JN.same ?_
  simp [zz]
  simp [zy,r0,zc,r4,r5,ri',Ins.avs,hk,CALL]
  exact R.no 11 fun v' H' n' g o=>retE (r:=(VM.toF b fs f,VM.dead 11)) g o
set_option maxRecDepth 20000 in
set_option maxHeartbeats 1000000 in
theorem zapw (R:VSt H0 H nx n ga b s fs f ins ⟨9,ia,ib⟩) {x y:Val} (hi:ins=[x,y]) (hk:x.kind=2) (h0:0≤x.n) (hh:b.heap.length≤4096) {c:Cl} (hc:b.heap[x.n.toNat]? = some c):Then H0 H nx n ga b fs ins (VM.toF { b with heap:=b.heap.set x.n.toNat ⟨y,c.right⟩ } fs f,VM.ev0):=by
  unfold Then
  have r0:=R.r0
  have r4:=R.r4
  have r5:=R.r5
  have ri:=R.ri
  have self:=R.self
  subst hi
  have g1:=R.ga1
  have ri':H (nx+7)=some (.row 3 ([.int .i64 x.kind,.int .i64 x.n,.str x.text] ++ y.avs)):=by rw [ri]; rfl
  have h1:=(List.getElem?_eq_some_iff.1 hc).1
  have h2:x.n < b.heap.length:=by omega
  have hce:b.heap[x.n.toNat]=c:=(List.getElem?_eq_some_iff.1 hc).2
  have c6:c.avs.take 6=c.avs:=rfl
  have c3:c.avs.take 3=c.left.avs:=rfl
  have d3:c.avs.drop 3=c.right.avs:=rfl
  have d6:c.avs.drop 6=[]:=rfl
  have nc:y.avs ++ c.right.avs=(Cl.mk y c.right).avs:=rfl
  have n6:(Cl.mk y c.right).avs.take 6=(Cl.mk y c.right).avs:=rfl
  have nl:(Cl.mk y c.right).avs.length=6:=rfl
  have lc:c.avs.length=6:=rfl
  have ly:y.avs.length=3:=rfl
  have ty:y.avs.take 3=y.avs:=rfl
  have hsrc:∀ (H:Heap),zm 6 H (.ro (b.heap.map Cl.avs))=some (b.heap.length,rowC b.heap,[]):=fun H=>by rw [zcw (zbj b.heap)]; simp [rowC]
  have ne_2:nx ≠ nx+4∧nx+4 ≠ nx∧nx ≠ nx+5∧nx+5 ≠ nx∧nx ≠ nx+7∧nx+7 ≠ nx∧nx ≠ n∧n ≠ nx∧nx+4 ≠ nx+5∧nx+5 ≠ nx+4∧nx+4 ≠ nx+7∧nx+7 ≠ nx+4∧nx+4 ≠ n∧n ≠ nx+4∧nx+5 ≠ nx+7∧nx+7 ≠ nx+5∧nx+5 ≠ n∧n ≠ nx+5∧nx+7 ≠ n∧n ≠ nx+7∧nx ≠ n+1∧n+1 ≠ nx∧nx ≠ n+2∧n+2 ≠ nx∧nx ≠ n+1+1∧n+1+1 ≠ nx∧nx+4 ≠ n+1∧n+1 ≠ nx+4∧nx+4 ≠ n+2∧n+2 ≠ nx+4∧nx+4 ≠ n+1+1∧n+1+1 ≠ nx+4∧nx+5 ≠ n+1∧n+1 ≠ nx+5∧nx+5 ≠ n+2∧n+2 ≠ nx+5∧nx+5 ≠ n+1+1∧n+1+1 ≠ nx+5∧nx+7 ≠ n+1∧n+1 ≠ nx+7∧nx+7 ≠ n+2∧n+2 ≠ nx+7∧nx+7 ≠ n+1+1∧n+1+1 ≠ nx+7∧n ≠ n+1∧n+1 ≠ n∧n ≠ n+2∧n+2 ≠ n∧n ≠ n+1+1∧n+1+1 ≠ n:=⟨by omega,by omega,by omega,by omega,by omega,by omega,by omega,by omega,by omega,by omega,by omega,by omega,by omega,by omega,by omega,by omega,by omega,by omega,by omega,by omega,by omega,by omega,by omega,by omega,by omega,by omega,by omega,by omega,by omega,by omega,by omega,by omega,by omega,by omega,by omega,by omega,by omega,by omega,by omega,by omega,by omega,by omega,by omega,by omega,by omega,by omega,by omega,by omega,by omega,by omega⟩
  simp [zi,r0,zc,r4,r5,ri',self,Ins.avs]
  refine JN.same ?_
  simp [zz]
  simp [zy,r0,zc,r4,r5,ri',Ins.avs,hk,h0,h2,hce,c6,c3,d3,d6,nc,n6,nl,lc,ly,ty,hsrc,CALL,ne_2]
  refine ⟨fun z hz=>zae (zby [c] z (by simpa [rowC] using hz)),fun z hz=>zae (zby _ z hz),by omega,zah y,by omega,fun z hz=>zae (zby [Cl.mk y c.right] z (by simpa [rowC] using hz)),?_⟩
  generalize hX:Heap.put _ (n+1+1) (some (AObj.row 6 (List.take _ _ ++ _)))=HX
  have xk:∀ g,g < n→g ≠ nx→HX g=H g:=fun g h1 h2=>by
    rw [← hX,Heap.put_ne _ _ (by omega),Heap.put_ne _ _ (by omega),Heap.put_ne _ _ h2,Heap.put_ne _ _ (by omega),Heap.put_ne _ _ (by omega),Heap.put_ne _ _ (by omega)]
  have x1:HX (n+1+1)=some (.row 6 (rowC (b.heap.set x.n.toNat (Cl.mk y c.right)))):=by rw [← hX,Heap.put_at,← zyh h1,List.append_assoc]
  have hh':Part HX nx (n+3) (.slc (n+1+1) 0 b.heap.length) (.ro ((b.heap.set x.n.toNat (Cl.mk y c.right)).map Cl.avs)):=by
    have:=Part.rowC (nx:=nx) (n:=n+3) x1 (by omega) (by omega)
    simpa using this
  refine zdl (f:=f) (by omega) R.hk (by omega) (by rw [xk ga (by omega) (by omega)]; exact R.ra) ⟨rfl,rfl,rfl,rfl⟩ (.row (by rw [xk _ (by omega) (by omega)]; exact R.rv) (by omega) (by omega)) (.row (by rw [xk _ (by omega) (by omega)]; exact R.rs) (by omega) (by omega)) hh' fun H' n' g' q1 q2 kp hr gd => ?_
  exact ret (r:=(VM.toF { b with heap:=b.heap.set x.n.toNat (Cl.mk y c.right) } fs f,VM.ev0)) gd (R.o.more fun g hg q3 _=>by rw [kp g (by omega)]; exact xk g (by omega) q3)
set_option maxRecDepth 20000 in
set_option maxHeartbeats 1000000 in
theorem zall (R:VSt H0 H nx n ga b s fs f ins ⟨10,ia,ib⟩) {x y:Val} (hi:ins=[x,y]) (hk:x.kind ≠ 2):Then H0 H nx n ga b fs ins (VM.toF b fs f,VM.dead 11):=by
  unfold Then
  have r0:=R.r0
  have r4:=R.r4
  have r5:=R.r5
  have ri:=R.ri
  have self:=R.self
  subst hi
  have g1:=R.ga1
  have ri':H (nx+7)=some (.row 3 [.int .i64 x.kind,.int .i64 x.n,.str x.text,.int .i64 y.kind,.int .i64 y.n,.str y.text]):=by rw [ri]; rfl
  simp [zi,r0,zc,r4,r5,ri',self,Ins.avs]
  refine JN.same ?_
  simp [zz]
  simp [zy,r0,zc,r4,r5,ri',Ins.avs,hk,CALL]
  exact R.no 11 fun v' H' n' g o=>retE (r:=(VM.toF b fs f,VM.dead 11)) g o
set_option maxRecDepth 20000 in
set_option maxHeartbeats 1000000 in
theorem zaov (R:VSt H0 H nx n ga b s fs f ins ⟨10,ia,ib⟩) {x y:Val} (hi:ins=[x,y]) (hk:x.kind=2) (h0:0≤x.n) (hh:b.heap.length≤4096) {c:Cl} (hc:b.heap[x.n.toNat]? = some c):Then H0 H nx n ga b fs ins (VM.toF { b with heap:=b.heap.set x.n.toNat ⟨c.left,y⟩ } fs f,VM.ev0):=by
  unfold Then
  have r0:=R.r0
  have r4:=R.r4
  have r5:=R.r5
  have ri:=R.ri
  have self:=R.self
  subst hi
  have g1:=R.ga1
  have ri':H (nx+7)=some (.row 3 ([.int .i64 x.kind,.int .i64 x.n,.str x.text] ++ y.avs)):=by rw [ri]; rfl
  have h1:=(List.getElem?_eq_some_iff.1 hc).1
  have h2:x.n < b.heap.length:=by omega
  have hce:b.heap[x.n.toNat]=c:=(List.getElem?_eq_some_iff.1 hc).2
  have c6:c.avs.take 6=c.avs:=rfl
  have c3:c.avs.take 3=c.left.avs:=rfl
  have d3:c.avs.drop 3=c.right.avs:=rfl
  have d6:c.avs.drop 6=[]:=rfl
  have nc:c.left.avs ++ y.avs=(Cl.mk c.left y).avs:=rfl
  have n6:(Cl.mk c.left y).avs.take 6=(Cl.mk c.left y).avs:=rfl
  have nl:(Cl.mk c.left y).avs.length=6:=rfl
  have lc:c.avs.length=6:=rfl
  have ly:y.avs.length=3:=rfl
  have ty:y.avs.take 3=y.avs:=rfl
  have hsrc:∀ (H:Heap),zm 6 H (.ro (b.heap.map Cl.avs))=some (b.heap.length,rowC b.heap,[]):=fun H=>by rw [zcw (zbj b.heap)]; simp [rowC]
  have ne_3:nx ≠ nx+4∧nx+4 ≠ nx∧nx ≠ nx+5∧nx+5 ≠ nx∧nx ≠ nx+7∧nx+7 ≠ nx∧nx ≠ n∧n ≠ nx∧nx+4 ≠ nx+5∧nx+5 ≠ nx+4∧nx+4 ≠ nx+7∧nx+7 ≠ nx+4∧nx+4 ≠ n∧n ≠ nx+4∧nx+5 ≠ nx+7∧nx+7 ≠ nx+5∧nx+5 ≠ n∧n ≠ nx+5∧nx+7 ≠ n∧n ≠ nx+7∧nx ≠ n+1∧n+1 ≠ nx∧nx ≠ n+2∧n+2 ≠ nx∧nx ≠ n+1+1∧n+1+1 ≠ nx∧nx+4 ≠ n+1∧n+1 ≠ nx+4∧nx+4 ≠ n+2∧n+2 ≠ nx+4∧nx+4 ≠ n+1+1∧n+1+1 ≠ nx+4∧nx+5 ≠ n+1∧n+1 ≠ nx+5∧nx+5 ≠ n+2∧n+2 ≠ nx+5∧nx+5 ≠ n+1+1∧n+1+1 ≠ nx+5∧nx+7 ≠ n+1∧n+1 ≠ nx+7∧nx+7 ≠ n+2∧n+2 ≠ nx+7∧nx+7 ≠ n+1+1∧n+1+1 ≠ nx+7∧n ≠ n+1∧n+1 ≠ n∧n ≠ n+2∧n+2 ≠ n∧n ≠ n+1+1∧n+1+1 ≠ n:=⟨by omega,by omega,by omega,by omega,by omega,by omega,by omega,by omega,by omega,by omega,by omega,by omega,by omega,by omega,by omega,by omega,by omega,by omega,by omega,by omega,by omega,by omega,by omega,by omega,by omega,by omega,by omega,by omega,by omega,by omega,by omega,by omega,by omega,by omega,by omega,by omega,by omega,by omega,by omega,by omega,by omega,by omega,by omega,by omega,by omega,by omega,by omega,by omega,by omega,by omega⟩
  simp [zi,r0,zc,r4,r5,ri',self,Ins.avs]
  refine JN.same ?_
  simp [zz]
  simp [zy,r0,zc,r4,r5,ri',Ins.avs,hk,h0,h2,hce,c6,c3,d3,d6,nc,n6,nl,lc,ly,ty,hsrc,CALL,ne_3]
  refine ⟨fun z hz=>zae (zby [c] z (by simpa [rowC] using hz)),fun z hz=>zae (zby _ z hz),by omega,zah y,by omega,fun z hz=>zae (zby [Cl.mk c.left y] z (by simpa [rowC] using hz)),?_⟩
  generalize hX:Heap.put _ (n+1+1) (some (AObj.row 6 (List.take _ _ ++ _)))=HX
  have xk:∀ g,g < n→g ≠ nx→HX g=H g:=fun g h1 h2=>by
    rw [← hX,Heap.put_ne _ _ (by omega),Heap.put_ne _ _ (by omega),Heap.put_ne _ _ h2,Heap.put_ne _ _ (by omega),Heap.put_ne _ _ (by omega),Heap.put_ne _ _ (by omega)]
  have x1:HX (n+1+1)=some (.row 6 (rowC (b.heap.set x.n.toNat (Cl.mk c.left y)))):=by rw [← hX,Heap.put_at,← zyh h1,List.append_assoc]
  have hh':Part HX nx (n+3) (.slc (n+1+1) 0 b.heap.length) (.ro ((b.heap.set x.n.toNat (Cl.mk c.left y)).map Cl.avs)):=by
    have:=Part.rowC (nx:=nx) (n:=n+3) x1 (by omega) (by omega)
    simpa using this
  refine zdl (f:=f) (by omega) R.hk (by omega) (by rw [xk ga (by omega) (by omega)]; exact R.ra) ⟨rfl,rfl,rfl,rfl⟩ (.row (by rw [xk _ (by omega) (by omega)]; exact R.rv) (by omega) (by omega)) (.row (by rw [xk _ (by omega) (by omega)]; exact R.rs) (by omega) (by omega)) hh' fun H' n' g' q1 q2 kp hr gd => ?_
  exact ret (r:=(VM.toF { b with heap:=b.heap.set x.n.toNat (Cl.mk c.left y) } fs f,VM.ev0)) gd (R.o.more fun g hg q3 _=>by rw [kp g (by omega)]; exact xk g (by omega) q3)
end
end Go.Proofs.YtdmibdjokofclaaDoor
set_option maxRecDepth 8000
namespace Go.Proofs.YtdmibdjokofclaaDoor
open Go Go.RowKit
section
variable {H0 H:Heap} {nx n ga:Nat} {b:Agt} {s:Spt} {fs:List Frm} {f:Frm} {ins:List Val} {i:Ins} {ia ib:Int}
theorem VSt.withV (R:VSt H0 H nx n ga b s fs f ins i) (f':Frm) (h1:f'.vars=f.vars) (h2:f'.stack=f.stack) {H1:Heap} (hk:∀ g,nx+6≤g→H1 g=H g) (ho:Outs H0 H1 nx) {m:Pmt} {Q:AV→Heap→Nat→Prop}
    (hq:∀ H' n' g',n≤g'→g' < n'→Keep n H' H1→H' g'=some (.row 4 ((fs.map Frm.avs).flatten ++ [.int .i64 f'.fn,.int .i64 f'.at_,.slc (nx+11) 0 f'.vars.length,.slc (nx+9) 0 f'.stack.length]))→Good H' nx (.agg (zc b.id b.trip b.prog (.slc g' 0 (fs.length+1)) (.ro (b.heap.map Cl.avs)) m)) ⟨b.id,b.trip,b.prog,fs ++ [f'],b.heap,m⟩→Outs H0 H' nx→Q (.agg (zc b.id b.trip b.prog (.slc g' 0 (fs.length+1)) (.ro (b.heap.map Cl.avs)) m)) H' n') :
    za Tryd.prog 42 [.agg (zc b.id b.trip b.prog (.slc ga 0 (fs.length+1)) (.ro (b.heap.map Cl.avs)) m),.agg [.int .i64 f'.fn,.int .i64 f'.at_,.slc (nx+11) 0 f'.vars.length,.slc (nx+9) 0 f'.stack.length]] H1 n Q:=by
  have g1:=R.ga1
  exact zdl (f:=f') (by omega) R.hk g1.2 (by rw [hk _ (by omega)]; exact R.ra) ⟨rfl,rfl,rfl,rfl⟩ (by rw [h1]; exact .row (by rw [hk _ (by omega)]; exact R.rv) (by omega) (by omega)) (by rw [h2]; exact .row (by rw [hk _ (by omega)]; exact R.rs) (by omega) (by omega)) (.ro (zao _)) fun H' n' g' q1 q2 kp hr gd=>hq H' n' g' q1 q2 kp hr gd (ho.more fun g hg _ _=>kp g (by omega))
set_option maxRecDepth 20000 in
set_option maxHeartbeats 1000000 in
theorem zaom (R:VSt H0 H nx n ga b s fs f ins ⟨19,ia,ib⟩):Then H0 H nx n ga b fs ins (VM.toF b fs f,VM.ev0):=by
  unfold Then
  have r0:=R.r0
  have r1:=R.r1
  have r4:=R.r4
  have r5:=R.r5
  have ri:=R.ri
  have self:=R.self
  have g1:=R.ga1
  simp [zi,r0,zc,r4,r5,self,Ins.avs]
  refine JN.same ?_
  simp [zz]
  simp [zy]
  refine JN.same ?_
  simp [zal]
  simp [zak,r0,zc,r4,r5,Ins.avs]
  exact R.withV f rfl rfl (fun _ _=>rfl) R.o fun H' n' g' q1 q2 kp hr gd o=>ret (r:=(VM.toF b fs f,VM.ev0)) gd o
set_option maxRecDepth 20000 in
set_option maxHeartbeats 1000000 in
theorem zaoq (R:VSt H0 H nx n ga b s fs f ins ⟨15,ia,ib⟩):Then H0 H nx n ga b fs ins (VM.toF b fs { f with at_:=ia },VM.ev0):=by
  unfold Then
  have r0:=R.r0
  have r1:=R.r1
  have r4:=R.r4
  have r5:=R.r5
  have ri:=R.ri
  have self:=R.self
  have g1:=R.ga1
  have ne_0:nx ≠ nx+4∧nx+4 ≠ nx∧nx ≠ nx+5∧nx+5 ≠ nx∧nx+4 ≠ nx+5∧nx+5 ≠ nx+4∧nx ≠ n∧n ≠ nx∧nx+4 ≠ n∧n ≠ nx+4∧nx+5 ≠ n∧n ≠ nx+5:=⟨by omega,by omega,by omega,by omega,by omega,by omega,by omega,by omega,by omega,by omega,by omega,by omega⟩
  simp [zi,r0,zc,r4,r5,self,Ins.avs]
  refine JN.same ?_
  simp [zz]
  simp [zy]
  refine JN.same ?_
  simp [zal]
  simp [zak,r0,zc,r4,r5,Ins.avs,ne_0]
  exact R.withV { f with at_:=ia } rfl rfl (fun g hg=>Heap.put_ne _ _ (by omega)) (R.o.more fun g hg _ _=>Heap.put_ne _ _ (by omega)) fun H' n' g' q1 q2 kp hr gd o=>ret (r:=(VM.toF b fs { f with at_:=ia },VM.ev0)) gd o
set_option maxRecDepth 20000 in
set_option maxHeartbeats 1000000 in
theorem zaop (R:VSt H0 H nx n ga b s fs f ins ⟨16,ia,ib⟩) {x:Val} (hi:ins=[x]) (hx:x.kind=0→x.text=[]):Then H0 H nx n ga b fs ins (VM.toF b fs { f with at_:=if x.kind=0∧x.n=0 then ia else f.at_ },VM.ev0):=by
  unfold Then
  have r0:=R.r0
  have r1:=R.r1
  have r4:=R.r4
  have r5:=R.r5
  have ri:=R.ri
  have self:=R.self
  have g1:=R.ga1
  subst hi
  have ri':H (nx+7)=some (.row 3 [.int .i64 x.kind,.int .i64 x.n,.str x.text]):=by rw [ri,zcb]; rfl
  have ne_1:nx ≠ nx+4∧nx+4 ≠ nx∧nx ≠ nx+5∧nx+5 ≠ nx∧nx+4 ≠ nx+5∧nx+5 ≠ nx+4∧nx ≠ n∧n ≠ nx∧nx+4 ≠ n∧n ≠ nx+4∧nx+5 ≠ n∧n ≠ nx+5:=⟨by omega,by omega,by omega,by omega,by omega,by omega,by omega,by omega,by omega,by omega,by omega,by omega⟩
  by_cases hz:x.kind=0∧x.n=0
  · obtain ⟨z1,z2⟩:=hz
    have z3:=hx z1
    rw [if_pos ⟨z1,z2⟩]
    simp [zi,r0,zc,r4,r5,self,Ins.avs]
    refine JN.same ?_
    simp [zz]
    simp [zy]
    refine JN.same ?_
    simp [zal]
    simp [zak,r0,zc,r4,r5,Ins.avs,ri',z1,z2,z3,ne_1]
    exact R.withV { f with at_:=ia } rfl rfl (fun g hg=>Heap.put_ne _ _ (by omega)) (R.o.more fun g hg _ _=>Heap.put_ne _ _ (by omega)) fun H' n' g' q1 q2 kp hr gd o=>ret (r:=(VM.toF b fs { f with at_:=ia },VM.ev0)) gd o
  · rw [if_neg hz]
    simp [zi,r0,zc,r4,r5,self,Ins.avs]
    refine JN.same ?_
    simp [zz]
    simp [zy]
    refine JN.same ?_
    simp [zal]
    simp [zak,r0,zc,r4,r5,Ins.avs,ri',hz,ne_1]
    exact ⟨fun a c _=>absurd ⟨a,c⟩ hz,fun _=>R.withV f rfl rfl (fun _ _=>rfl) R.o fun H' n' g' q1 q2 kp hr gd o=>ret (r:=(VM.toF b fs f,VM.ev0)) gd o⟩
set_option maxRecDepth 20000 in
set_option maxHeartbeats 1000000 in
theorem zalk (R:VSt H0 H nx n ga b s fs f ins ⟨11,ia,ib⟩) {x:Val} (hi:ins=[x]) (hk:x.kind ≠ 1):Then H0 H nx n ga b fs ins (VM.toF b fs f,VM.dead 11):=by
  unfold Then
  have r0:=R.r0
  have r1:=R.r1
  have r4:=R.r4
  have r5:=R.r5
  have ri:=R.ri
  have self:=R.self
  have g1:=R.ga1
  subst hi
  have ri':H (nx+7)=some (.row 3 [.int .i64 x.kind,.int .i64 x.n,.str x.text]):=by rw [ri,zcb]; rfl
  simp [zi,r0,zc,r4,r5,self,Ins.avs]
  refine JN.same ?_
  simp [zz]
  simp [zy]
  refine JN.same ?_
  simp [zal]
  simp [zak,r0,zc,r4,r5,Ins.avs,ri',hk,CALL]
  exact R.no 11 fun v' H' n' g o=>retE (r:=(VM.toF b fs f,VM.dead 11)) g o
set_option maxRecDepth 20000 in
set_option maxHeartbeats 1000000 in
theorem zali (R:VSt H0 H nx n ga b s fs f ins ⟨13,ia,ib⟩) {x:Val} (hi:ins=[x]) (hk:x.kind ≠ 1):Then H0 H nx n ga b fs ins (VM.toF b fs f,VM.dead 11):=by
  unfold Then
  have r0:=R.r0
  have r1:=R.r1
  have r4:=R.r4
  have r5:=R.r5
  have ri:=R.ri
  have self:=R.self
  have g1:=R.ga1
  subst hi
  have ri':H (nx+7)=some (.row 3 [.int .i64 x.kind,.int .i64 x.n,.str x.text]):=by rw [ri,zcb]; rfl
  simp [zi,r0,zc,r4,r5,self,Ins.avs]
  refine JN.same ?_
  simp [zz]
  simp [zy]
  refine JN.same ?_
  simp [zal]
  simp [zak,r0,zc,r4,r5,Ins.avs,ri',hk,CALL]
  exact R.no 11 fun v' H' n' g o=>retE (r:=(VM.toF b fs f,VM.dead 11)) g o
set_option maxRecDepth 20000 in
set_option maxHeartbeats 1000000 in
theorem zalh (R:VSt H0 H nx n ga b s fs f ins ⟨13,ia,ib⟩) {x:Val} (hi:ins=[x]) (hk:x.kind=1) (hh:b.permit.hops=0) (hl:s.facts.length≤4611686018427387903):Then H0 H nx n ga b fs ins (VM.push b fs f f.stack VM.vzero):=by
  unfold Then
  have r0:=R.r0
  have r1:=R.r1
  have r4:=R.r4
  have r5:=R.r5
  have ri:=R.ri
  have self:=R.self
  have g1:=R.ga1
  subst hi
  have ri':H (nx+7)=some (.row 3 [.int .i64 x.kind,.int .i64 x.n,.str x.text]):=by rw [ri,zcb]; rfl
  rw [hh] at self
  have hw:IntKind.i64.wrap ((s.facts.length:Int) - 1)=s.facts.length - 1:=i64w (by omega)
  have ne_2:nx ≠ nx+1∧nx+1 ≠ nx∧nx ≠ nx+4∧nx+4 ≠ nx∧nx ≠ nx+5∧nx+5 ≠ nx∧nx ≠ nx+7∧nx+7 ≠ nx∧nx+1 ≠ nx+4∧nx+4 ≠ nx+1∧nx+1 ≠ nx+5∧nx+5 ≠ nx+1∧nx+1 ≠ nx+7∧nx+7 ≠ nx+1∧nx+4 ≠ nx+5∧nx+5 ≠ nx+4∧nx+4 ≠ nx+7∧nx+7 ≠ nx+4∧nx+5 ≠ nx+7∧nx+7 ≠ nx+5∧nx ≠ n∧n ≠ nx∧nx+1 ≠ n∧n ≠ nx+1∧nx+4 ≠ n∧n ≠ nx+4∧nx+5 ≠ n∧n ≠ nx+5∧nx+7 ≠ n∧n ≠ nx+7:=⟨by omega,by omega,by omega,by omega,by omega,by omega,by omega,by omega,by omega,by omega,by omega,by omega,by omega,by omega,by omega,by omega,by omega,by omega,by omega,by omega,by omega,by omega,by omega,by omega,by omega,by omega,by omega,by omega,by omega,by omega⟩
  simp [zi,r0,zc,r4,r5,self,Ins.avs]
  refine JN.same ?_
  simp [zz]
  simp [zy]
  refine JN.same ?_
  simp [zal]
  simp [zak,r0,zc,r4,r5,Ins.avs,ri',hk,hh,r1,Spt.avs,hw,self,CALL,ne_2]
  generalize hX:Heap.put H n _=HX
  have x5:HX (nx+5)=some (.row 3 [.int .i64 13,.int .i64 ia,.int .i64 ib]):=by rw [← hX,Heap.put_ne _ _ (by omega)]; exact r5
  have xn:HX n=some (.row 3 [.int .i64 0,.int .i64 0,.str []]):=by rw [← hX,Heap.put_at]
  have P:=(R.more (H':=HX) (n':=n+1) (by omega) fun g hg=>by rw [← hX,Heap.put_ne _ _ (by omega)]).push (Q:=fun v H' n'=>EX v 0 fun a=>EX v 1 fun b_1=>ST 9 (.ptr (nx+2) 0) a H' fun H1=>ST 3 (.ptr (nx+3) 0) b_1 H1 fun H2=>LD true 9 (.ptr (nx+2) 0) H2 fun v1=>LD true 3 (.ptr (nx+3) 0) H2 fun v2=>zji H0 nx (VM.push b fs f f.stack VM.vzero) (.tup [v1,v2]) H2 n') VM.vzero fun v' H' n' g o=>retE (r:=VM.push b fs f f.stack VM.vzero) g o
  refine LP.mk (fun _ xs H' n'=>H'=HX∧n'=n+1∧xs=[.ptr (nx+1) 0,.ptr (nx+2) 0,.ptr (nx+3) 0,.ptr (nx+5) 0,.slc (nx+7) 0 1,.clo 43 [.ptr (nx+4) 0,.ptr nx 0],.ptr n 0,.int .i64 ((s.facts.length:Int) - 1)]) 0 ⟨rfl,rfl,rfl⟩ ?_
  rintro k xs H' n' ⟨rfl,rfl,rfl⟩
  simp [zpz,x5,xn,CALL]
  exact ⟨fun _=>P,fun _=>P⟩
set_option maxRecDepth 20000 in
set_option maxHeartbeats 1000000 in
theorem zaou (R:VSt H0 H nx n ga b s fs f ins ⟨11,ia,ib⟩) {x:Val} (hi:ins=[x]) (hk:x.kind=1) (hl:s.facts.length≤4611686018427387903):Then H0 H nx n ga b fs ins (VM.push b fs f f.stack (VM.ask s.facts x.text)):=by
  unfold Then
  have r0:=R.r0
  have r1:=R.r1
  have r4:=R.r4
  have r5:=R.r5
  have ri:=R.ri
  have self:=R.self
  have g1:=R.ga1
  subst hi
  have ri':H (nx+7)=some (.row 3 [.int .i64 x.kind,.int .i64 x.n,.str x.text]):=by rw [ri,zcb]; rfl
  have hw:IntKind.i64.wrap ((s.facts.length:Int) - 1)=s.facts.length - 1:=i64w (by omega)
  have ne_3:nx ≠ nx+1∧nx+1 ≠ nx∧nx ≠ nx+4∧nx+4 ≠ nx∧nx ≠ nx+5∧nx+5 ≠ nx∧nx ≠ nx+7∧nx+7 ≠ nx∧nx+1 ≠ nx+4∧nx+4 ≠ nx+1∧nx+1 ≠ nx+5∧nx+5 ≠ nx+1∧nx+1 ≠ nx+7∧nx+7 ≠ nx+1∧nx+4 ≠ nx+5∧nx+5 ≠ nx+4∧nx+4 ≠ nx+7∧nx+7 ≠ nx+4∧nx+5 ≠ nx+7∧nx+7 ≠ nx+5∧nx ≠ n∧n ≠ nx∧nx+1 ≠ n∧n ≠ nx+1∧nx+4 ≠ n∧n ≠ nx+4∧nx+5 ≠ n∧n ≠ nx+5∧nx+7 ≠ n∧n ≠ nx+7:=⟨by omega,by omega,by omega,by omega,by omega,by omega,by omega,by omega,by omega,by omega,by omega,by omega,by omega,by omega,by omega,by omega,by omega,by omega,by omega,by omega,by omega,by omega,by omega,by omega,by omega,by omega,by omega,by omega,by omega,by omega⟩
  simp [zi,r0,zc,r4,r5,self,Ins.avs]
  refine JN.same ?_
  simp [zz]
  simp [zy]
  refine JN.same ?_
  simp [zal]
  simp [zak,r0,zc,r4,r5,Ins.avs,ri',hk,r1,Spt.avs,hw,self,CALL,ne_3]
  refine LP.mk (fun k xs H' n'=>∃ j:Nat,k=j∧j≤s.facts.length∧n'=n+1∧xs=[.ptr (nx+1) 0,.ptr (nx+2) 0,.ptr (nx+3) 0,.ptr (nx+5) 0,.slc (nx+7) 0 1,.clo 43 [.ptr (nx+4) 0,.ptr nx 0],.ptr n 0,.int .i64 ((j:Int) - 1)] ∧
    H' n=some (.row 3 (VM.ask (s.facts.drop j) x.text).avs)∧∀ g,g ≠ n→H' g=H g) s.facts.length ⟨_,rfl,Nat.le_refl _,rfl,rfl,by rw [Heap.put_at,List.drop_length]; rfl,fun g hg=>Heap.put_ne _ _ hg⟩ ?_
  rintro k xs H' n' ⟨j,rfl,hj,rfl,rfl,xn,xk⟩
  suffices key:∀ K:J3,(∀ (j':Nat) H',j' < k→j'≤s.facts.length→H' n=some (.row 3 (VM.ask (s.facts.drop j') x.text).avs)→(∀ g,g ≠ n→H' g=H g)→K [.ptr (nx+1) 0,.ptr (nx+2) 0,.ptr (nx+3) 0,.ptr (nx+5) 0,.slc (nx+7) 0 1,.clo 43 [.ptr (nx+4) 0,.ptr nx 0],.ptr n 0,.int .i64 ((j':Int) - 1)] H' (n+1)) →
      zdv (zji H0 nx (VM.push b fs f f.stack (VM.ask s.facts x.text))) K [.ptr (nx+1) 0,.ptr (nx+2) 0,.ptr (nx+3) 0,.ptr (nx+5) 0,.slc (nx+7) 0 1,.clo 43 [.ptr (nx+4) 0,.ptr nx 0],.ptr n 0,.int .i64 ((k:Int) - 1)] H' (n+1) from
    key _ fun j' H' h1 h2 h3 h4=>⟨j',h1,j',rfl,h2,rfl,rfl,h3,h4⟩
  intro K hK
  have x5:=(xk (nx+5) (by omega)).trans r5
  have x1:=(xk (nx+1) (by omega)).trans r1
  have x7:=(xk (nx+7) (by omega)).trans ri'
  have lv:∀ v:Val,v.avs.length=3:=fun v=>rfl
  have tv:∀ v:Val,v.avs.take 3=v.avs:=fun v=>rfl
  cases k with
  | zero =>
    have R':=R.more (H':=H') (n':=n+1) (by omega) fun g hg=>xk g (by omega)
    simp [zdv,xn,CALL,lv,tv]
    exact R'.push _ fun v' H' n' g o=>retE (r:=VM.push b fs f f.stack (VM.ask s.facts x.text)) g o
  | succ j =>
    have hc:0≤((j+1:Nat):Int) - 1:=by omega
    have hjl:j < s.facts.length:=by omega
    have hd:s.facts.drop j=s.facts[j] :: s.facts.drop (j+1):=List.drop_eq_getElem_cons hjl
    have ask:VM.ask (s.facts.drop j) x.text=if s.facts[j].key=x.text then s.facts[j].val else VM.ask (s.facts.drop (j+1)) x.text:=by
      rw [hd]; unfold VM.ask; rw [List.find?_cons]
      by_cases e:s.facts[j].key=x.text
      · simp [e]
      · simp [e]
    have hj1:((j+1:Nat):Int) - 1=(j:Int):=by omega
    have hw2:IntKind.i64.wrap ((j:Int) - 1)=(j:Int) - 1:=i64w (by omega)
    rw [hj1]
    by_cases e:s.facts[j].key=x.text
    · simp [zdv,x5,x1,x7,xn,Spt.avs,Ins.avs,hjl,e,lv,tv,hw2]
      exact ⟨zah _,hK j _ (by omega) (by omega) (by rw [Heap.put_at,ask,if_pos e]; rfl) fun g hg=>by rw [Heap.put_ne _ _ hg]; exact xk g hg⟩
    · simp [zdv,x5,x1,x7,xn,Spt.avs,Ins.avs,hjl,e,lv,tv,hw2]
      exact hK j H' (by omega) (by omega) (by rw [xn,ask,if_neg e]) xk
end
end Go.Proofs.YtdmibdjokofclaaDoor
set_option maxRecDepth 8000
namespace Go.Proofs.YtdmibdjokofclaaDoor
open Go Go.RowKit
theorem zph {A:Nat→Prop} (fs:List Frm):∀ c∈(fs.map Frm.avs).flatten,Bel A c:=fun c hc=>by
  obtain ⟨x,hx,hcx⟩:=List.mem_flatten.1 hc
  obtain ⟨f,_,rfl⟩:=List.mem_map.1 hx
  obtain ⟨j,hj⟩:=List.getElem?_of_mem hcx
  exact zabt f j c hj
theorem zo.withD {H:Heap} {n ga gv gs nv ns:Nat} {id trip:Int} {p:Prg} {fs:List Frm} {h:List Cl} {m:Pmt} {fn at_:Int} {w1 w2 w3 w4:AV} (hk:fs.length≤4096) (ra:H ga=some (.row 4 ((fs.map Frm.avs).flatten ++ [w1,w2,w3,w4]))) (hw:w1.one=true∧w2.one=true∧w3.one=true∧w4.one=true) (hv:(H gv).isSome=true) (hs:(H gs).isSome=true) {kt:Kt}
    (hkt:kt (.agg (zc id trip p (.slc n 0 (fs.length+1)) (.ro (h.map Cl.avs)) m)) [ga,gv,gs] [n] [(n,some (.row 4 ((fs.map Frm.avs).flatten ++ [.int .i64 fn,.int .i64 at_,.slc gv 0 nv,.slc gs 0 ns])))]) :
    zo Tryd.prog (.clo 42 []) [.agg (zc id trip p (.slc ga 0 (fs.length+1)) (.ro (h.map Cl.avs)) m),.agg [.int .i64 fn,.int .i64 at_,.slc gv 0 nv,.slc gs 0 ns]] H n kt:=by
  have hlf:((fs.map Frm.avs).flatten).length=fs.length*4:=by rw [zbf (zds fs)]; simp
  refine ⟨_,[ga,gv,gs],[n],_,.inr (.inl rfl),LC.of_callsN (fun g hg => ?_) (by simp) (fun A hA hB H' n' hag => ?_),hkt⟩
  · simp at hg
    rcases hg with rfl | rfl | rfl
    · rw [ra]; rfl
    · exact hv
    · exact hs
  · obtain ⟨e1,l1⟩:=hag ga (by simp)
    refine zvv (zeg.slc (e1.trans ra) l1 (by rw [List.length_append,hlf]; simp; omega) ?_) hk ⟨rfl,rfl,rfl⟩ ⟨rfl,rfl⟩ ⟨rfl,rfl⟩ fun H'' n'' g' h1 h2 kp hr => ?_
    · refine List.all_eq_true.2 fun c hc => ?_
      rcases List.mem_append.1 hc with hc | hc
      · obtain ⟨x,hx,hcx⟩:=List.mem_flatten.1 hc; exact oneF fs x hx c hcx
      · simp at hc; rcases hc with rfl | rfl | rfl | rfl
        · exact hw.1
        · exact hw.2.1
        · exact hw.2.2.1
        · exact hw.2.2.2
    · rw [List.take_append_of_le_length (by omega),List.take_of_length_le (by omega)] at hr
      refine ⟨g',h1,h2,.agg _ _ rfl fun j v u hv hu => ?_,fun g hg _=>kp g hg,fun g o hg hne=>absurd (by simpa using hg) hne,⟨.row 4 ((fs.map Frm.avs).flatten ++ [.int .i64 fn,.int .i64 at_,.slc gv 0 nv,.slc gs 0 ns]),_,by simp only [zaw,zbg]; rw [Heap.put_at],hr,rfl,rfl,fun j v u hv hu => ?_⟩⟩
      · match j with
        | 0=>cases hv; cases hu; exact .same _ (.int _ _)
        | 1=>cases hv; cases hu; exact .same _ (.int _ _)
        | 2=>cases hv; cases hu; exact .same _ (zvk _)
        | 3=>cases hv; cases hu; exact .same _ (zvj _)
        | 4=>cases hv; cases hu; exact .slc _ _
        | 5=>cases hv; cases hu; exact .same _ (zcn (zao _))
        | 6=>cases hv; cases hu; exact .same _ (.int _ _)
        | 7=>cases hv; cases hu; exact .same _ (.int _ _)
        | 8=>cases hv; cases hu; exact .same _ (.int _ _)
        | j+9=>simp [zc] at hv
      · rw [hv] at hu; cases hu
        refine .same _ ?_
        rcases List.mem_append.1 (List.mem_of_getElem? hv) with hc | hc
        · exact zph fs _ hc
        · simp at hc
          rcases hc with rfl | rfl | rfl | rfl
          · exact .int _ _
          · exact .int _ _
          · exact .slc _ _ _ (hA gv (by simp))
          · exact .slc _ _ _ (hA gs (by simp))
end Go.Proofs.YtdmibdjokofclaaDoor
set_option maxRecDepth 8000
namespace Go.Proofs.YtdmibdjokofclaaDoor
open Go Go.RowKit
section
variable {H0 H:Heap} {nx n ga:Nat} {b:Agt} {s:Spt} {fs:List Frm} {f:Frm} {ins:List Val} {i:Ins} {g:Frm} {ia ib:Int}
theorem zala {zero:List AV} {k:IntKind} {n:Int} (h:0≤n∧n≤140737488355328):zsrc zero (.int k n)=.ro (List.replicate n.toNat zero):=by
  unfold zsrc; simp only; rw [if_pos h]
theorem zji.of {r:Agt×Evt} {v:AV} {e:AV} {HF:Heap} (g:Good HF nx v r.1) (he:e=.agg r.2.avs) (hk:Keep nx HF H0):zji H0 nx r (.tup [v,e]) HF n:=by
  obtain ⟨xs,h1,h2,h3,h4,h5⟩:=g
  subst he
  exact ⟨Frz.tup2 (h5 HF fun g _=>rfl) (.same _ (znn _)),hk⟩
set_option maxRecDepth 20000 in
set_option maxHeartbeats 1000000 in
theorem zaos (R:VSt H0 H nx n ga b s fs f ins ⟨13,ia,ib⟩) {x:Val} (hi:ins=[x]) (hk:x.kind=1) (hh:0 < b.permit.hops) (hm:b.permit.hops≤4096):Then H0 H nx n ga b fs ins (VM.toF { b with permit:={ b.permit with hops:=b.permit.hops - 1 } } fs f,⟨3,x.text,0⟩):=by
  unfold Then
  have r0:=R.r0
  have r1:=R.r1
  have r4:=R.r4
  have r5:=R.r5
  have ri:=R.ri
  have self:=R.self
  have g1:=R.ga1
  subst hi
  have ri':H (nx+7)=some (.row 3 [.int .i64 x.kind,.int .i64 x.n,.str x.text]):=by rw [ri,zcb]; rfl
  have hw:IntKind.i64.wrap (b.permit.hops - 1)=b.permit.hops - 1:=i64w (by omega)
  have ne_0:nx ≠ nx+1∧nx+1 ≠ nx∧nx ≠ nx+4∧nx+4 ≠ nx∧nx ≠ nx+5∧nx+5 ≠ nx∧nx ≠ nx+7∧nx+7 ≠ nx∧nx+1 ≠ nx+4∧nx+4 ≠ nx+1∧nx+1 ≠ nx+5∧nx+5 ≠ nx+1∧nx+1 ≠ nx+7∧nx+7 ≠ nx+1∧nx+4 ≠ nx+5∧nx+5 ≠ nx+4∧nx+4 ≠ nx+7∧nx+7 ≠ nx+4∧nx+5 ≠ nx+7∧nx+7 ≠ nx+5∧nx ≠ n∧n ≠ nx∧nx+1 ≠ n∧n ≠ nx+1∧nx+4 ≠ n∧n ≠ nx+4∧nx+5 ≠ n∧n ≠ nx+5∧nx+7 ≠ n∧n ≠ nx+7:=⟨by omega,by omega,by omega,by omega,by omega,by omega,by omega,by omega,by omega,by omega,by omega,by omega,by omega,by omega,by omega,by omega,by omega,by omega,by omega,by omega,by omega,by omega,by omega,by omega,by omega,by omega,by omega,by omega,by omega,by omega⟩
  simp [zi,r0,zc,r4,r5,self,Ins.avs]
  refine JN.same ?_
  simp [zz]
  simp [zy]
  refine JN.same ?_
  simp [zal]
  simp [zak,r0,zc,r4,r5,Ins.avs,ri',hk,hh,hw,CALL,ne_0]
  generalize hX:Heap.put H nx _=HX
  have xk:∀ g,g ≠ nx→HX g=H g:=fun g hg=>by rw [← hX,Heap.put_ne _ _ hg]
  obtain ⟨z,z1,z2⟩:=R.o.r2
  obtain ⟨y,y1,y2⟩:=R.o.r3
  have x2:=(xk (nx+2) (by omega)).trans z1
  have x3:=(xk (nx+3) (by omega)).trans y1
  have x7:=(xk (nx+7) (by omega)).trans ri'
  refine zo.withD (id:=b.id) (trip:=b.trip) (p:=b.prog) (h:=b.heap) (m:=Pmt.mk b.permit.fuel b.permit.room (b.permit.hops - 1)) R.hk (by rw [xk ga (by omega)]; exact R.ra) ⟨rfl,rfl,rfl,rfl⟩ (by rw [xk _ (by omega),R.rv]; rfl) (by rw [xk _ (by omega),R.rs]; rfl) ?_
  have ne_1:nx ≠ nx+1∧nx+1 ≠ nx∧nx ≠ nx+2∧nx+2 ≠ nx∧nx ≠ nx+3∧nx+3 ≠ nx∧nx ≠ nx+4∧nx+4 ≠ nx∧nx ≠ nx+5∧nx+5 ≠ nx∧nx ≠ nx+7∧nx+7 ≠ nx∧nx+1 ≠ nx+2∧nx+2 ≠ nx+1∧nx+1 ≠ nx+3∧nx+3 ≠ nx+1∧nx+1 ≠ nx+4∧nx+4 ≠ nx+1∧nx+1 ≠ nx+5∧nx+5 ≠ nx+1∧nx+1 ≠ nx+7∧nx+7 ≠ nx+1∧nx+2 ≠ nx+3∧nx+3 ≠ nx+2∧nx+2 ≠ nx+4∧nx+4 ≠ nx+2∧nx+2 ≠ nx+5∧nx+5 ≠ nx+2∧nx+2 ≠ nx+7∧nx+7 ≠ nx+2∧nx+3 ≠ nx+4∧nx+4 ≠ nx+3∧nx+3 ≠ nx+5∧nx+5 ≠ nx+3∧nx+3 ≠ nx+7∧nx+7 ≠ nx+3∧nx+4 ≠ nx+5∧nx+5 ≠ nx+4∧nx+4 ≠ nx+7∧nx+7 ≠ nx+4∧nx+5 ≠ nx+7∧nx+7 ≠ nx+5∧nx ≠ n∧n ≠ nx∧nx+1 ≠ n∧n ≠ nx+1∧nx+2 ≠ n∧n ≠ nx+2∧nx+3 ≠ n∧n ≠ nx+3∧nx+4 ≠ n∧n ≠ nx+4∧nx+5 ≠ n∧n ≠ nx+5∧nx+7 ≠ n∧n ≠ nx+7:=⟨by omega,by omega,by omega,by omega,by omega,by omega,by omega,by omega,by omega,by omega,by omega,by omega,by omega,by omega,by omega,by omega,by omega,by omega,by omega,by omega,by omega,by omega,by omega,by omega,by omega,by omega,by omega,by omega,by omega,by omega,by omega,by omega,by omega,by omega,by omega,by omega,by omega,by omega,by omega,by omega,by omega,by omega,by omega,by omega,by omega,by omega,by omega,by omega,by omega,by omega,by omega,by omega,by omega,by omega,by omega,by omega⟩
  simp [zof,zc,x2,x3,x7,z2,y2,ne_1]
  generalize hF:Heap.put _ (nx+3) _=HF
  have fk:∀ g,g ≠ n→g ≠ nx+2→g ≠ nx+3→HF g=HX g:=fun g h1 h2 h3=>by rw [← hF,Heap.put_ne _ _ h3,Heap.put_ne _ _ h2,Heap.put_ne _ _ h1]
  have fn:HF n=some (.row 4 ((fs.map Frm.avs).flatten ++ [.int .i64 f.fn,.int .i64 f.at_,.slc (nx+11) 0 f.vars.length,.slc (nx+9) 0 f.stack.length])):=by rw [← hF,Heap.put_ne _ _ (by omega),Heap.put_ne _ _ (by omega),Heap.put_at]
  refine zji.of (zmi (n:=n) (m:=Pmt.mk b.permit.fuel b.permit.room (b.permit.hops - 1)) (by omega) fn (.row (by rw [fk _ (by omega) (by omega) (by omega),xk _ (by omega)]; exact R.rv) (by omega) (by omega)) (.row (by rw [fk _ (by omega) (by omega) (by omega),xk _ (by omega)]; exact R.rs) (by omega) (by omega)) (.ro (zao _))) rfl fun g hg => ?_
  rw [fk g (by omega) (by omega) (by omega),xk g (by omega)]; exact R.o.keep g hg
set_option maxRecDepth 20000 in
set_option maxHeartbeats 1000000 in
theorem zaor (R:VSt H0 H nx n ga b s fs f ins ⟨14,ia,ib⟩) {x:Val} (hi:ins=[x]) (hc:zdc b.heap) (hx:VM.WrongOk x b.heap.length):Then H0 H nx n ga b fs ins (VM.toF b fs f,⟨2,VM.vshow b.heap 4 x,0⟩):=by
  unfold Then
  have r0:=R.r0
  have r1:=R.r1
  have r4:=R.r4
  have r5:=R.r5
  have ri:=R.ri
  have self:=R.self
  have g1:=R.ga1
  subst hi
  have ri':H (nx+7)=some (.row 3 [.int .i64 x.kind,.int .i64 x.n,.str x.text]):=by rw [ri,zcb]; rfl
  have ne_2:nx ≠ nx+1∧nx+1 ≠ nx∧nx ≠ nx+4∧nx+4 ≠ nx∧nx ≠ nx+5∧nx+5 ≠ nx∧nx ≠ nx+7∧nx+7 ≠ nx∧nx+1 ≠ nx+4∧nx+4 ≠ nx+1∧nx+1 ≠ nx+5∧nx+5 ≠ nx+1∧nx+1 ≠ nx+7∧nx+7 ≠ nx+1∧nx+4 ≠ nx+5∧nx+5 ≠ nx+4∧nx+4 ≠ nx+7∧nx+7 ≠ nx+4∧nx+5 ≠ nx+7∧nx+7 ≠ nx+5∧nx ≠ n∧n ≠ nx∧nx+1 ≠ n∧n ≠ nx+1∧nx+4 ≠ n∧n ≠ nx+4∧nx+5 ≠ n∧n ≠ nx+5∧nx+7 ≠ n∧n ≠ nx+7:=⟨by omega,by omega,by omega,by omega,by omega,by omega,by omega,by omega,by omega,by omega,by omega,by omega,by omega,by omega,by omega,by omega,by omega,by omega,by omega,by omega,by omega,by omega,by omega,by omega,by omega,by omega,by omega,by omega,by omega,by omega⟩
  simp [zi,r0,zc,r4,r5,self,Ins.avs]
  refine JN.same ?_
  simp [zz]
  simp [zy]
  refine JN.same ?_
  simp [zal]
  simp [zak,r0,zc,r4,r5,Ins.avs,ri',ne_2]
  obtain ⟨z,z1,z2⟩:=R.o.r2
  obtain ⟨y,y1,y2⟩:=R.o.r3
  refine zo.withD (id:=b.id) (trip:=b.trip) (p:=b.prog) (h:=b.heap) (m:=b.permit) R.hk R.ra ⟨rfl,rfl,rfl,rfl⟩ (by rw [R.rv]; rfl) (by rw [R.rs]; rfl) ?_
  have ne_3:nx ≠ nx+1∧nx+1 ≠ nx∧nx ≠ nx+2∧nx+2 ≠ nx∧nx ≠ nx+3∧nx+3 ≠ nx∧nx ≠ nx+4∧nx+4 ≠ nx∧nx ≠ nx+5∧nx+5 ≠ nx∧nx ≠ nx+7∧nx+7 ≠ nx∧nx+1 ≠ nx+2∧nx+2 ≠ nx+1∧nx+1 ≠ nx+3∧nx+3 ≠ nx+1∧nx+1 ≠ nx+4∧nx+4 ≠ nx+1∧nx+1 ≠ nx+5∧nx+5 ≠ nx+1∧nx+1 ≠ nx+7∧nx+7 ≠ nx+1∧nx+2 ≠ nx+3∧nx+3 ≠ nx+2∧nx+2 ≠ nx+4∧nx+4 ≠ nx+2∧nx+2 ≠ nx+5∧nx+5 ≠ nx+2∧nx+2 ≠ nx+7∧nx+7 ≠ nx+2∧nx+3 ≠ nx+4∧nx+4 ≠ nx+3∧nx+3 ≠ nx+5∧nx+5 ≠ nx+3∧nx+3 ≠ nx+7∧nx+7 ≠ nx+3∧nx+4 ≠ nx+5∧nx+5 ≠ nx+4∧nx+4 ≠ nx+7∧nx+7 ≠ nx+4∧nx+5 ≠ nx+7∧nx+7 ≠ nx+5∧nx ≠ n∧n ≠ nx∧nx+1 ≠ n∧n ≠ nx+1∧nx+2 ≠ n∧n ≠ nx+2∧nx+3 ≠ n∧n ≠ nx+3∧nx+4 ≠ n∧n ≠ nx+4∧nx+5 ≠ n∧n ≠ nx+5∧nx+7 ≠ n∧n ≠ nx+7:=⟨by omega,by omega,by omega,by omega,by omega,by omega,by omega,by omega,by omega,by omega,by omega,by omega,by omega,by omega,by omega,by omega,by omega,by omega,by omega,by omega,by omega,by omega,by omega,by omega,by omega,by omega,by omega,by omega,by omega,by omega,by omega,by omega,by omega,by omega,by omega,by omega,by omega,by omega,by omega,by omega,by omega,by omega,by omega,by omega,by omega,by omega,by omega,by omega,by omega,by omega,by omega,by omega,by omega,by omega,by omega,by omega⟩
  simp [zod,r0,zc,ri',ne_3]
  refine zo.of_qc (zrh hc 4 x 4 hx rfl (by omega) (by omega)) (.str _) ?_
  simp [zoe,z1,y1,z2,y2,ne_3]
  generalize hF:Heap.put _ (nx+3) _=HF
  have fk:∀ g,g ≠ n→g ≠ nx+2→g ≠ nx+3→HF g=H g:=fun g h1 h2 h3=>by rw [← hF,Heap.put_ne _ _ h3,Heap.put_ne _ _ h2,Heap.put_ne _ _ h1]
  have fn:HF n=some (.row 4 ((fs.map Frm.avs).flatten ++ [.int .i64 f.fn,.int .i64 f.at_,.slc (nx+11) 0 f.vars.length,.slc (nx+9) 0 f.stack.length])):=by rw [← hF,Heap.put_ne _ _ (by omega),Heap.put_ne _ _ (by omega),Heap.put_at]
  refine zji.of (zmi (n:=n) (m:=b.permit) (by omega) fn (.row (by rw [fk _ (by omega) (by omega) (by omega)]; exact R.rv) (by omega) (by omega)) (.row (by rw [fk _ (by omega) (by omega) (by omega)]; exact R.rs) (by omega) (by omega)) (.ro (zao _))) rfl fun g hg => ?_
  rw [fk g (by omega) (by omega) (by omega)]; exact R.o.keep g hg
set_option maxRecDepth 20000 in
set_option maxHeartbeats 1000000 in
theorem zalg (R:VSt H0 H nx n ga b s fs f ins ⟨17,ia,ib⟩) (hf:12≤fs.length+1) (hi:ins.length≤4096):Then H0 H nx n ga b fs ins (VM.toF b fs { f with stack:=f.stack ++ ins },VM.dead 9):=by
  unfold Then
  have r0:=R.r0
  have r1:=R.r1
  have r4:=R.r4
  have r5:=R.r5
  have ri:=R.ri
  have self:=R.self
  have g1:=R.ga1
  have hf':(12:Int)≤(fs.length:Int)+1:=by omega
  have t1:(rowV f.stack).take (f.stack.length*3)=rowV f.stack:=List.take_of_length_le (by simp)
  have t2:(rowV ins).take (ins.length*3)=rowV ins:=List.take_of_length_le (by simp)
  have rs:=R.rs
  have ne_4:nx ≠ nx+1∧nx+1 ≠ nx∧nx ≠ nx+4∧nx+4 ≠ nx∧nx ≠ nx+5∧nx+5 ≠ nx∧nx ≠ nx+7∧nx+7 ≠ nx∧nx ≠ nx+9∧nx+9 ≠ nx∧nx+1 ≠ nx+4∧nx+4 ≠ nx+1∧nx+1 ≠ nx+5∧nx+5 ≠ nx+1∧nx+1 ≠ nx+7∧nx+7 ≠ nx+1∧nx+1 ≠ nx+9∧nx+9 ≠ nx+1∧nx+4 ≠ nx+5∧nx+5 ≠ nx+4∧nx+4 ≠ nx+7∧nx+7 ≠ nx+4∧nx+4 ≠ nx+9∧nx+9 ≠ nx+4∧nx+5 ≠ nx+7∧nx+7 ≠ nx+5∧nx+5 ≠ nx+9∧nx+9 ≠ nx+5∧nx+7 ≠ nx+9∧nx+9 ≠ nx+7∧nx ≠ n∧n ≠ nx∧nx+1 ≠ n∧n ≠ nx+1∧nx+4 ≠ n∧n ≠ nx+4∧nx+5 ≠ n∧n ≠ nx+5∧nx+7 ≠ n∧n ≠ nx+7∧nx+9 ≠ n∧n ≠ nx+9:=⟨by omega,by omega,by omega,by omega,by omega,by omega,by omega,by omega,by omega,by omega,by omega,by omega,by omega,by omega,by omega,by omega,by omega,by omega,by omega,by omega,by omega,by omega,by omega,by omega,by omega,by omega,by omega,by omega,by omega,by omega,by omega,by omega,by omega,by omega,by omega,by omega,by omega,by omega,by omega,by omega,by omega,by omega⟩
  simp [zi,r0,zc,r4,r5,self,Ins.avs]
  refine JN.same ?_
  simp [zz]
  simp [zy]
  refine JN.same ?_
  simp [zal]
  simp [zak,r0,zc,r4,r5,Ins.avs,ri,rs,hf',t1,t2,CALL,ne_4]
  refine ⟨fun c hc=>zae (zbq _ c hc),by have:=R.hst; omega,?_⟩
  generalize hX:Heap.put _ (nx+4) _=HX
  have xk:∀ g,g ≠ n→g ≠ nx+9→g ≠ nx+4→HX g=H g:=fun g h1 h2 h3=>by rw [← hX,Heap.put_ne _ _ h3,Heap.put_ne _ _ h1,Heap.put_ne _ _ h2]
  have xn:HX n=some (.row 3 (rowV (f.stack ++ ins))):=by rw [← hX,Heap.put_ne _ _ (by omega),Heap.put_at]; simp [rowV]
  have ps:Part HX nx (n+1) (.slc n 0 (f.stack.length+ins.length)) (.ro ((f.stack ++ ins).map Val.avs)):=by
    have:=Part.row (nx:=nx) (n:=n+1) xn (by omega) (by omega)
    simpa using this
  refine zdl (f:={ f with stack:=f.stack ++ ins }) (by omega) R.hk (by omega) (by rw [xk ga (by omega) (by omega) (by omega)]; exact R.ra) ⟨rfl,rfl,rfl,rfl⟩ (.row (by rw [xk _ (by omega) (by omega) (by omega)]; exact R.rv) (by omega) (by omega)) ps (.ro (zao _)) fun H' n' g' h1 h2 kp hr gd => ?_
  have q0:H' nx=some (.row 9 (zc b.id b.trip b.prog (.slc ga 0 (fs.length+1)) (.ro (b.heap.map Cl.avs)) b.permit)):=by rw [kp _ (by omega),xk _ (by omega) (by omega) (by omega)]; exact r0
  simp [zoc,q0,zc,CALL]
  refine zaia 9 (Heap.put_at _ _ _) rfl (fun x hx => ?_) (by omega) fun H2 hk2 => ?_
  · simp at hx
    rcases hx with rfl | rfl | rfl | rfl | rfl | rfl | rfl | rfl | rfl <;> rfl
  · have z:∀ g,g < n'→g ≠ nx→H2 g=H' g:=fun g h1 h2=>(hk2 g h1).trans (Heap.put_ne _ _ h2)
    have y:∀ g,g < n+1→g ≠ nx→H2 g=HX g:=fun g h1 h2=>(z g (by omega) h2).trans (kp g h1)
    refine retE (r:=(VM.toF b fs { f with stack:=f.stack ++ ins },VM.dead 9)) (zmi (n:=n') (f:={ f with stack:=f.stack ++ ins }) (by omega) (by rw [z g' h2 (by omega)]; exact hr) (.row (by rw [y _ (by omega) (by omega),xk _ (by omega) (by omega) (by omega)]; exact R.rv) (by omega) (by omega)) ?_ (.ro (zao _))) (R.o.more fun g hg h1 h2=>by rw [y g (by omega) h1,xk g (by omega) (by omega) (by omega)])
    have:=Part.row (nx:=nx) (n:=n') ((y n (by omega) (by omega)).trans xn) (by omega) (by omega)
    simpa using this
end
end Go.Proofs.YtdmibdjokofclaaDoor
set_option maxRecDepth 8000
namespace Go.Proofs.YtdmibdjokofclaaDoor
open Go Go.RowKit
section
variable {H0 H:Heap} {nx n ga:Nat} {b:Agt} {s:Spt} {fs:List Frm} {f:Frm} {ins:List Val} {i:Ins} {g:Frm} {ia ib:Int}
theorem zapk {H:Heap} {nx g:Nat} {fs:List Frm} {f k:Frm} {va sa vb sb:AV} (hg:nx≤g) (h:H g=some (.row 4 ((fs.map Frm.avs).flatten ++ [.int .i64 f.fn,.int .i64 f.at_,va,sa] ++ [.int .i64 k.fn,.int .i64 k.at_,vb,sb]))) (h1:Frz H nx va (.ro (f.vars.map Val.avs))) (h2:Frz H nx sa (.ro (f.stack.map Val.avs)))
    (h3:Frz H nx vb (.ro (k.vars.map Val.avs))) (h4:Frz H nx sb (.ro (k.stack.map Val.avs))):Frz H nx (.slc g 0 (fs.length+1+1)) (.ro ((fs ++ [f] ++ [k]).map Frm.avs)):=by
  refine Frz.rowW hg h (by simp) (zds _) ?_
  simp only [List.map_append,List.flatten_append]
  refine ((FL.same (zph fs)).append ?_).append ?_
  · exact .cons (.same _ (.int _ _)) (.cons (.same _ (.int _ _)) (.cons h1 (.cons h2 .nil)))
  · exact .cons (.same _ (.int _ _)) (.cons (.same _ (.int _ _)) (.cons h3 (.cons h4 .nil)))
set_option maxRecDepth 20000 in
set_option maxHeartbeats 1000000 in
theorem zaoo (R:VSt H0 H nx n ga b s fs f ins ⟨17,ia,ib⟩) (hf:fs.length+1 < 12) (h0:0≤ia) {c:Cod} (hc:b.prog.codes[ia.toNat]? = some c) (hi:ins.length≤4096) (hv:ins.length≤c.vars) (hm:c.vars≤4096):Then H0 H nx n ga b fs ins (VM.toF b (fs ++ [f]) ⟨ia,0,ins ++ List.replicate (c.vars - ins.length).toNat VM.vzero,[]⟩,VM.ev0):=by
  unfold Then
  have r0:=R.r0
  have r1:=R.r1
  have r4:=R.r4
  have r5:=R.r5
  have ri:=R.ri
  have self:=R.self
  have g1:=R.ga1
  have hf':¬ (12:Int)≤(fs.length:Int)+1:=by omega
  obtain ⟨hlt,hce⟩:=List.getElem?_eq_some_iff.1 hc
  have hlt':ia < b.prog.codes.length:=by omega
  have hw:IntKind.i64.wrap (c.vars - (ins.length:Int))=c.vars - ins.length:=i64w (by omega)
  have t2:(rowV ins).take (ins.length*3)=rowV ins:=List.take_of_length_le (by simp)
  obtain ⟨k,hk⟩:∃ k:Nat,c.vars=ins.length+k:=⟨(c.vars - ins.length).toNat,by omega⟩
  have hkn:(c.vars - (ins.length:Int)).toNat=k:=by omega
  have zs:=zala (zero:=[.int .i64 0,.int .i64 0,.str []]) (k:=.i64) (n:=c.vars - ins.length) (by omega)
  rw [hkn] at zs
  have src:∀ (H:Heap),zm 3 H (.ro (List.replicate k [.int .i64 0,.int .i64 0,.str []]))=some (k,rowV (List.replicate k VM.vzero),[]):=fun H=>by
    rw [zcw (by intro x hx; rw [List.eq_of_mem_replicate hx]; rfl)]; simp [rowV,VM.vzero,Val.avs]
  have ne_0:nx ≠ nx+1∧nx+1 ≠ nx∧nx ≠ nx+4∧nx+4 ≠ nx∧nx ≠ nx+5∧nx+5 ≠ nx∧nx ≠ nx+7∧nx+7 ≠ nx∧nx ≠ nx+9∧nx+9 ≠ nx∧nx+1 ≠ nx+4∧nx+4 ≠ nx+1∧nx+1 ≠ nx+5∧nx+5 ≠ nx+1∧nx+1 ≠ nx+7∧nx+7 ≠ nx+1∧nx+1 ≠ nx+9∧nx+9 ≠ nx+1∧nx+4 ≠ nx+5∧nx+5 ≠ nx+4∧nx+4 ≠ nx+7∧nx+7 ≠ nx+4∧nx+4 ≠ nx+9∧nx+9 ≠ nx+4∧nx+5 ≠ nx+7∧nx+7 ≠ nx+5∧nx+5 ≠ nx+9∧nx+9 ≠ nx+5∧nx+7 ≠ nx+9∧nx+9 ≠ nx+7∧nx ≠ n∧n ≠ nx∧nx+1 ≠ n∧n ≠ nx+1∧nx+4 ≠ n∧n ≠ nx+4∧nx+5 ≠ n∧n ≠ nx+5∧nx+7 ≠ n∧n ≠ nx+7∧nx+9 ≠ n∧n ≠ nx+9:=⟨by omega,by omega,by omega,by omega,by omega,by omega,by omega,by omega,by omega,by omega,by omega,by omega,by omega,by omega,by omega,by omega,by omega,by omega,by omega,by omega,by omega,by omega,by omega,by omega,by omega,by omega,by omega,by omega,by omega,by omega,by omega,by omega,by omega,by omega,by omega,by omega,by omega,by omega,by omega,by omega,by omega,by omega⟩
  simp [zi,r0,zc,r4,r5,self,Ins.avs]
  refine JN.same ?_
  simp [zz]
  simp [zy]
  refine JN.same ?_
  simp [zal]
  simp [zak,r0,zc,r4,r5,Ins.avs,ri,hf',h0,hlt,hlt',hce,hw,t2,zs,src,CALL,Cod.avs,ne_0]
  refine ⟨fun x hx=>zae (zbq _ x hx),by omega,?_⟩
  generalize hX:Heap.put _ n _=HX
  have xk:∀ g,g ≠ n→g ≠ nx+7→HX g=H g:=fun g h1 h2=>by rw [← hX,Heap.put_ne _ _ h1,Heap.put_ne _ _ h2]
  have xn:HX n=some (.row 3 (rowV (ins ++ List.replicate k VM.vzero))):=by rw [← hX,Heap.put_at]; simp [rowV]
  refine zdl (nx:=nx) (n:=n+1) (f:=f) (by omega) R.hk (by omega) (by rw [xk ga (by omega) (by omega)]; exact R.ra) ⟨rfl,rfl,rfl,rfl⟩ (.row (by rw [xk _ (by omega) (by omega)]; exact R.rv) (by omega) (by omega)) (.row (by rw [xk _ (by omega) (by omega)]; exact R.rs) (by omega) (by omega)) (.ro (zao _)) fun H' n' g' h1 h2 kp hr gd => ?_
  have q0:H' nx=some (.row 9 (zc b.id b.trip b.prog (.slc ga 0 (fs.length+1)) (.ro (b.heap.map Cl.avs)) b.permit)):=by rw [kp _ (by omega),xk _ (by omega) (by omega)]; exact r0
  have q5:H' (nx+5)=some (.row 3 [.int .i64 17,.int .i64 ia,.int .i64 ib]):=by rw [kp _ (by omega),xk _ (by omega) (by omega)]; exact r5
  have hlf:((fs.map Frm.avs).flatten).length=fs.length*4:=by rw [zbf (zds fs)]; simp
  have tk:((fs.map Frm.avs).flatten ++ [AV.int .i64 f.fn,.int .i64 f.at_,.slc (nx+11) 0 f.vars.length,.slc (nx+9) 0 f.stack.length]).take ((fs.length+1)*4)=(fs.map Frm.avs).flatten ++ [AV.int .i64 f.fn,.int .i64 f.at_,.slc (nx+11) 0 f.vars.length,.slc (nx+9) 0 f.stack.length]:=List.take_of_length_le (by simp [hlf]; omega)
  obtain ⟨z,z1,z2⟩:=R.o.r2
  obtain ⟨y,y1,y2⟩:=R.o.r3
  have q2:H' (nx+2)=some (.row 9 z):=by rw [kp _ (by omega),xk _ (by omega) (by omega)]; exact z1
  have q3:H' (nx+3)=some (.row 3 y):=by rw [kp _ (by omega),xk _ (by omega) (by omega)]; exact y1
  have hle:fs.length*4+4=(fs.length+1)*4:=by omega
  have ne_1:nx ≠ nx+2∧nx+2 ≠ nx∧nx ≠ nx+3∧nx+3 ≠ nx∧nx ≠ nx+5∧nx+5 ≠ nx∧nx ≠ g'∧g' ≠ nx∧nx+2 ≠ nx+3∧nx+3 ≠ nx+2∧nx+2 ≠ nx+5∧nx+5 ≠ nx+2∧nx+2 ≠ g'∧g' ≠ nx+2∧nx+3 ≠ nx+5∧nx+5 ≠ nx+3∧nx+3 ≠ g'∧g' ≠ nx+3∧nx+5 ≠ g'∧g' ≠ nx+5∧nx ≠ n'∧n' ≠ nx∧nx ≠ n'+1∧n'+1 ≠ nx∧nx+2 ≠ n'∧n' ≠ nx+2∧nx+2 ≠ n'+1∧n'+1 ≠ nx+2∧nx+3 ≠ n'∧n' ≠ nx+3∧nx+3 ≠ n'+1∧n'+1 ≠ nx+3∧nx+5 ≠ n'∧n' ≠ nx+5∧nx+5 ≠ n'+1∧n'+1 ≠ nx+5∧g' ≠ n'∧n' ≠ g'∧g' ≠ n'+1∧n'+1 ≠ g':=⟨by omega,by omega,by omega,by omega,by omega,by omega,by omega,by omega,by omega,by omega,by omega,by omega,by omega,by omega,by omega,by omega,by omega,by omega,by omega,by omega,by omega,by omega,by omega,by omega,by omega,by omega,by omega,by omega,by omega,by omega,by omega,by omega,by omega,by omega,by omega,by omega,by omega,by omega,by omega,by omega⟩
  simp [zob,q0,q5,q2,q3,z2,y2,hr,tk,hlf,hle,zc,CALL,ne_1]
  refine ⟨by omega,?_⟩
  generalize hF:Heap.put _ (nx+3) _=HF
  have fk:∀ g,g ≠ nx→g ≠ n'→g ≠ g'→g ≠ n'+1→g ≠ nx+2→g ≠ nx+3→HF g=H' g:=fun g h1 h2 h3 h4 h5 h6=>by
    rw [← hF,Heap.put_ne _ _ h6,Heap.put_ne _ _ h5,Heap.put_ne _ _ h1,Heap.put_ne _ _ h4,Heap.put_ne _ _ h3,Heap.put_ne _ _ h2,Heap.put_ne _ _ h1]
  have ff:HF (n'+1)=some (.row 4 ((fs.map Frm.avs).flatten ++ [.int .i64 f.fn,.int .i64 f.at_,.slc (nx+11) 0 f.vars.length,.slc (nx+9) 0 f.stack.length] ++ [.int .i64 ia,.int .i64 0,.slc n 0 (ins.length+k),.nils])):=by
    rw [← hF,Heap.put_ne _ _ (by omega),Heap.put_ne _ _ (by omega),Heap.put_ne _ _ (by omega),Heap.put_at]; simp
  have ek:c.vars.toNat - ins.length=k:=by omega
  rw [ek]
  have fo:∀ g,nx+4≤g→g < n+1→g ≠ nx+7→g ≠ n→HF g=H g:=fun g h3 h4 h5 h6=>by
    rw [fk g (by omega) (by omega) (by omega) (by omega) (by omega) (by omega),kp g (by omega),xk g (by omega) (by omega)]
  have fn:HF n=some (.row 3 (rowV (ins ++ List.replicate k VM.vzero))):=by
    rw [fk n (by omega) (by omega) (by omega) (by omega) (by omega) (by omega),kp n (by omega)]; exact xn
  refine zji.of ⟨_,rfl,rfl,fun x hx => ?_,?_,fun H2 hk => ?_⟩ rfl fun g hg => ?_
  · simp at hx
    rcases hx with rfl | rfl | rfl | rfl | rfl | rfl | rfl | rfl | rfl <;> rfl
  · simp
  · have v1:H2 (nx+11)=some (.row 3 (rowV f.vars)):=by rw [hk _ (by omega),fo _ (by omega) (by omega) (by omega) (by omega)]; exact R.rv
    have v2:H2 (nx+9)=some (.row 3 (rowV f.stack)):=by rw [hk _ (by omega),fo _ (by omega) (by omega) (by omega) (by omega)]; exact R.rs
    have v3:=zzx (nx:=nx) ((hk n (by omega)).trans fn) (by omega)
    have v4:=zapk (nx:=nx) (k:=⟨ia,0,ins ++ List.replicate k VM.vzero,[]⟩) (by omega) ((hk (n'+1) (by omega)).trans ff) (zzx v1 (by omega)) (zzx v2 (by omega)) (by simpa using v3) .nils
    exact zcf (fs:=fs ++ [f] ++ [⟨ia,0,ins ++ List.replicate k VM.vzero,[]⟩]) (m:=b.permit) v4 (.same _ (zcn (zao _)))
  · rw [fk g (by omega) (by omega) (by omega) (by omega) (by omega) (by omega),kp g (by omega),xk g (by omega) (by omega)]; exact R.o.keep g hg
end
end Go.Proofs.YtdmibdjokofclaaDoor
set_option maxRecDepth 8000
namespace Go.Proofs.YtdmibdjokofclaaDoor
open Go Go.RowKit
section
variable {H0 H:Heap} {nx n ga:Nat} {b:Agt} {s:Spt} {fs:List Frm} {f:Frm} {ins:List Val} {i:Ins} {g:Frm} {ia ib:Int}
set_option maxRecDepth 20000 in
set_option maxHeartbeats 1000000 in
theorem zalf (R:VSt H0 H nx n ga b s fs f ins ⟨18,ia,ib⟩) {x:Val} (hi:ins=[x]) (hc:zdc b.heap) (hx:VM.WrongOk x b.heap.length) (hf:fs=[]):Then H0 H nx n ga b fs ins ({ b with frames:=[] },⟨4,VM.vshow b.heap 4 x,0⟩):=by
  unfold Then
  have r0:=R.r0
  have r1:=R.r1
  have r4:=R.r4
  have r5:=R.r5
  have ri:=R.ri
  have self:=R.self
  have g1:=R.ga1
  subst hi
  have ri':H (nx+7)=some (.row 3 [.int .i64 x.kind,.int .i64 x.n,.str x.text]):=by rw [ri,zcb]; rfl
  subst hf
  have ra:=R.ra
  have w0:IntKind.i64.wrap (0:Int)=0:=rfl
  have gn:ga ≠ n:=by omega
  have ne_0:nx ≠ nx+1∧nx+1 ≠ nx∧nx ≠ nx+2∧nx+2 ≠ nx∧nx ≠ nx+3∧nx+3 ≠ nx∧nx ≠ nx+4∧nx+4 ≠ nx∧nx ≠ nx+5∧nx+5 ≠ nx∧nx ≠ nx+7∧nx+7 ≠ nx∧nx+1 ≠ nx+2∧nx+2 ≠ nx+1∧nx+1 ≠ nx+3∧nx+3 ≠ nx+1∧nx+1 ≠ nx+4∧nx+4 ≠ nx+1∧nx+1 ≠ nx+5∧nx+5 ≠ nx+1∧nx+1 ≠ nx+7∧nx+7 ≠ nx+1∧nx+2 ≠ nx+3∧nx+3 ≠ nx+2∧nx+2 ≠ nx+4∧nx+4 ≠ nx+2∧nx+2 ≠ nx+5∧nx+5 ≠ nx+2∧nx+2 ≠ nx+7∧nx+7 ≠ nx+2∧nx+3 ≠ nx+4∧nx+4 ≠ nx+3∧nx+3 ≠ nx+5∧nx+5 ≠ nx+3∧nx+3 ≠ nx+7∧nx+7 ≠ nx+3∧nx+4 ≠ nx+5∧nx+5 ≠ nx+4∧nx+4 ≠ nx+7∧nx+7 ≠ nx+4∧nx+5 ≠ nx+7∧nx+7 ≠ nx+5∧nx ≠ n∧n ≠ nx∧nx ≠ n+1∧n+1 ≠ nx∧nx ≠ n+2∧n+2 ≠ nx∧nx ≠ n+3∧n+3 ≠ nx∧nx ≠ n+4∧n+4 ≠ nx∧nx ≠ n+5∧n+5 ≠ nx∧nx ≠ n+6∧n+6 ≠ nx∧nx ≠ ga∧ga ≠ nx∧nx+1 ≠ n∧n ≠ nx+1∧nx+1 ≠ n+1∧n+1 ≠ nx+1∧nx+1 ≠ n+2∧n+2 ≠ nx+1∧nx+1 ≠ n+3∧n+3 ≠ nx+1∧nx+1 ≠ n+4∧n+4 ≠ nx+1∧nx+1 ≠ n+5∧n+5 ≠ nx+1∧nx+1 ≠ n+6∧n+6 ≠ nx+1∧nx+1 ≠ ga∧ga ≠ nx+1∧nx+2 ≠ n∧n ≠ nx+2∧nx+2 ≠ n+1∧n+1 ≠ nx+2∧nx+2 ≠ n+2∧n+2 ≠ nx+2∧nx+2 ≠ n+3∧n+3 ≠ nx+2∧nx+2 ≠ n+4∧n+4 ≠ nx+2∧nx+2 ≠ n+5∧n+5 ≠ nx+2∧nx+2 ≠ n+6∧n+6 ≠ nx+2∧nx+2 ≠ ga∧ga ≠ nx+2∧nx+3 ≠ n∧n ≠ nx+3∧nx+3 ≠ n+1∧n+1 ≠ nx+3∧nx+3 ≠ n+2∧n+2 ≠ nx+3∧nx+3 ≠ n+3∧n+3 ≠ nx+3∧nx+3 ≠ n+4∧n+4 ≠ nx+3∧nx+3 ≠ n+5∧n+5 ≠ nx+3∧nx+3 ≠ n+6∧n+6 ≠ nx+3∧nx+3 ≠ ga∧ga ≠ nx+3∧nx+4 ≠ n∧n ≠ nx+4∧nx+4 ≠ n+1∧n+1 ≠ nx+4∧nx+4 ≠ n+2∧n+2 ≠ nx+4∧nx+4 ≠ n+3∧n+3 ≠ nx+4∧nx+4 ≠ n+4∧n+4 ≠ nx+4∧nx+4 ≠ n+5∧n+5 ≠ nx+4∧nx+4 ≠ n+6∧n+6 ≠ nx+4∧nx+4 ≠ ga∧ga ≠ nx+4∧nx+5 ≠ n∧n ≠ nx+5∧nx+5 ≠ n+1∧n+1 ≠ nx+5∧nx+5 ≠ n+2∧n+2 ≠ nx+5∧nx+5 ≠ n+3∧n+3 ≠ nx+5∧nx+5 ≠ n+4∧n+4 ≠ nx+5∧nx+5 ≠ n+5∧n+5 ≠ nx+5∧nx+5 ≠ n+6∧n+6 ≠ nx+5∧nx+5 ≠ ga∧ga ≠ nx+5∧nx+7 ≠ n∧n ≠ nx+7∧nx+7 ≠ n+1∧n+1 ≠ nx+7∧nx+7 ≠ n+2∧n+2 ≠ nx+7∧nx+7 ≠ n+3∧n+3 ≠ nx+7∧nx+7 ≠ n+4∧n+4 ≠ nx+7∧nx+7 ≠ n+5∧n+5 ≠ nx+7∧nx+7 ≠ n+6∧n+6 ≠ nx+7∧nx+7 ≠ ga∧ga ≠ nx+7:=⟨by omega,by omega,by omega,by omega,by omega,by omega,by omega,by omega,by omega,by omega,by omega,by omega,by omega,by omega,by omega,by omega,by omega,by omega,by omega,by omega,by omega,by omega,by omega,by omega,by omega,by omega,by omega,by omega,by omega,by omega,by omega,by omega,by omega,by omega,by omega,by omega,by omega,by omega,by omega,by omega,by omega,by omega,by omega,by omega,by omega,by omega,by omega,by omega,by omega,by omega,by omega,by omega,by omega,by omega,by omega,by omega,by omega,by omega,by omega,by omega,by omega,by omega,by omega,by omega,by omega,by omega,by omega,by omega,by omega,by omega,by omega,by omega,by omega,by omega,by omega,by omega,by omega,by omega,by omega,by omega,by omega,by omega,by omega,by omega,by omega,by omega,by omega,by omega,by omega,by omega,by omega,by omega,by omega,by omega,by omega,by omega,by omega,by omega,by omega,by omega,by omega,by omega,by omega,by omega,by omega,by omega,by omega,by omega,by omega,by omega,by omega,by omega,by omega,by omega,by omega,by omega,by omega,by omega,by omega,by omega,by omega,by omega,by omega,by omega,by omega,by omega,by omega,by omega,by omega,by omega,by omega,by omega,by omega,by omega,by omega,by omega,by omega,by omega,by omega,by omega,by omega,by omega,by omega,by omega,by omega,by omega,by omega,by omega,by omega,by omega,by omega,by omega,by omega,by omega⟩
  simp [zi,r0,zc,r4,r5,self,Ins.avs]
  refine JN.same ?_
  simp [zz]
  simp [zy]
  refine JN.same ?_
  simp [zal]
  simp [zak,r0,zc,r4,r5,Ins.avs,ri',ra,gn,w0,CALL,ne_0]
  obtain ⟨z,z1,z2⟩:=R.o.r2
  obtain ⟨y,y1,y2⟩:=R.o.r3
  refine zo.of_qc (zrh hc 4 x 4 hx rfl (by omega) (by omega)) (.str _) ?_
  simp [zoa,z1,y1,z2,y2,ne_0]
  generalize hF:Heap.put _ (nx+3) _=HF
  have fk:∀ g,g ≠ nx→g ≠ n→g ≠ n+1→g ≠ nx+2→g ≠ nx+3→HF g=H g:=fun g h1 h2 h4 h5 h6=>by
    rw [← hF,Heap.put_ne _ _ h6,Heap.put_ne _ _ h5,Heap.put_ne _ _ h1,Heap.put_ne _ _ h4,Heap.put_ne _ _ h2,Heap.put_ne _ _ h1]
  have fn:HF (n+1)=some (.row 4 []):=by rw [← hF,Heap.put_ne _ _ (by omega),Heap.put_ne _ _ (by omega),Heap.put_ne _ _ (by omega),Heap.put_at]
  refine zji.of ⟨_,rfl,rfl,fun x hx => ?_,?_,fun H2 hk => ?_⟩ rfl fun g hg => ?_
  · simp at hx
    rcases hx with rfl | rfl | rfl | rfl | rfl | rfl | rfl | rfl | rfl <;> rfl
  · simp
  · exact zcf (fs:=[]) (m:=b.permit) (Frz.rowW (by omega) ((hk _ (by omega)).trans fn) rfl (by simp) .nil) (.same _ (zcn (zao _)))
  · rw [fk g (by omega) (by omega) (by omega) (by omega) (by omega)]; exact R.o.keep g hg
set_option maxRecDepth 20000 in
set_option maxHeartbeats 1000000 in
theorem zaon (R:VSt H0 H nx n ga b s (fs ++ [g]) f ins ⟨18,ia,ib⟩) {x:Val} (hi:ins=[x]) (hgs:g.stack.length≤4096):Then H0 H nx n ga b (fs ++ [g]) ins (VM.push b fs g g.stack x):=by
  unfold Then
  have r0:=R.r0
  have r1:=R.r1
  have r4:=R.r4
  have r5:=R.r5
  have ri:=R.ri
  have self:=R.self
  have g1:=R.ga1
  subst hi
  have ri':H (nx+7)=some (.row 3 [.int .i64 x.kind,.int .i64 x.n,.str x.text]):=by rw [ri,zcb]; rfl
  have ra:=R.ra
  have gn:ga ≠ n:=by omega
  have hkk:=R.hk
  have hlf:((fs.map Frm.avs).flatten).length=fs.length*4:=by rw [zbf (zds fs)]; simp
  simp at hkk ra
  have hw:IntKind.i64.wrap ((fs.length:Int)+1)=fs.length+1:=i64w (by omega)
  have hw2:IntKind.i64.wrap (fs.length:Int)=fs.length:=i64w (by omega)
  have hst:g.stack.length≤4096:=hgs
  have f1:∀ x∈(fs.map Frm.avs).flatten,x.one=true:=fun x hx=>by
    obtain ⟨l,hl,hxl⟩:=List.mem_flatten.1 hx
    exact oneF fs l hl x hxl
  have f2:=FL.same (H:=fun _=>none) (nx:=nx) (zph fs)
  have f3:=zph (A:=fun g=>g < nx) fs
  generalize hFF:(fs.map Frm.avs).flatten=F at *
  have tk:(F ++ (g.avs ++ [AV.int .i64 f.fn,.int .i64 f.at_,.slc (nx+11) 0 f.vars.length,.slc (nx+9) 0 f.stack.length])).take ((fs.length+1)*4)=F ++ g.avs:=by
    rw [← List.append_assoc,List.take_append_of_le_length (by simp [hlf,Frm.avs]; omega),List.take_of_length_le (by simp [hlf,Frm.avs]; omega)]
  have tk2:(F ++ g.avs).take ((fs.length+1)*4)=F ++ g.avs:=List.take_of_length_le (by simp [hlf,Frm.avs]; omega)
  have tk3:((F ++ g.avs).drop (fs.length*4)).take 4=g.avs:=by rw [← hlf,List.drop_left]; rfl
  have gl:g.avs.length=4:=rfl
  have hmin:min 4 (F.length+4 - fs.length*4)=4:=by omega
  have e4:List.drop 4 [AV.int .i64 0,.int .i64 0,.nils,.nils]=[]:=rfl
  have g3:g.avs[3]'(by rw [gl]; omega)=.ro (g.stack.map Val.avs):=rfl
  have gt:g.avs.take 3=[.int .i64 g.fn,.int .i64 g.at_,.ro (g.vars.map Val.avs)]:=rfl
  have gd:g.avs.drop 4=[]:=rfl
  have tks:(rowV g.stack).take (g.stack.length*3)=rowV g.stack:=List.take_of_length_le (by simp)
  have e1:∀ x∈g.avs,x.one=true:=oneF [g] g.avs (by simp)
  have src:∀ (H:Heap),zm 3 H (.ro (g.stack.map Val.avs))=some (g.stack.length,rowV g.stack,[]):=fun H=>by rw [zcw (zbw g.stack)]; simp [rowV]
  have ne_1:nx ≠ nx+1∧nx+1 ≠ nx∧nx ≠ nx+2∧nx+2 ≠ nx∧nx ≠ nx+3∧nx+3 ≠ nx∧nx ≠ nx+4∧nx+4 ≠ nx∧nx ≠ nx+5∧nx+5 ≠ nx∧nx ≠ nx+7∧nx+7 ≠ nx∧nx+1 ≠ nx+2∧nx+2 ≠ nx+1∧nx+1 ≠ nx+3∧nx+3 ≠ nx+1∧nx+1 ≠ nx+4∧nx+4 ≠ nx+1∧nx+1 ≠ nx+5∧nx+5 ≠ nx+1∧nx+1 ≠ nx+7∧nx+7 ≠ nx+1∧nx+2 ≠ nx+3∧nx+3 ≠ nx+2∧nx+2 ≠ nx+4∧nx+4 ≠ nx+2∧nx+2 ≠ nx+5∧nx+5 ≠ nx+2∧nx+2 ≠ nx+7∧nx+7 ≠ nx+2∧nx+3 ≠ nx+4∧nx+4 ≠ nx+3∧nx+3 ≠ nx+5∧nx+5 ≠ nx+3∧nx+3 ≠ nx+7∧nx+7 ≠ nx+3∧nx+4 ≠ nx+5∧nx+5 ≠ nx+4∧nx+4 ≠ nx+7∧nx+7 ≠ nx+4∧nx+5 ≠ nx+7∧nx+7 ≠ nx+5∧nx ≠ n∧n ≠ nx∧nx ≠ n+1∧n+1 ≠ nx∧nx ≠ n+2∧n+2 ≠ nx∧nx ≠ n+3∧n+3 ≠ nx∧nx ≠ n+4∧n+4 ≠ nx∧nx ≠ n+5∧n+5 ≠ nx∧nx ≠ n+6∧n+6 ≠ nx∧nx ≠ ga∧ga ≠ nx∧nx+1 ≠ n∧n ≠ nx+1∧nx+1 ≠ n+1∧n+1 ≠ nx+1∧nx+1 ≠ n+2∧n+2 ≠ nx+1∧nx+1 ≠ n+3∧n+3 ≠ nx+1∧nx+1 ≠ n+4∧n+4 ≠ nx+1∧nx+1 ≠ n+5∧n+5 ≠ nx+1∧nx+1 ≠ n+6∧n+6 ≠ nx+1∧nx+1 ≠ ga∧ga ≠ nx+1∧nx+2 ≠ n∧n ≠ nx+2∧nx+2 ≠ n+1∧n+1 ≠ nx+2∧nx+2 ≠ n+2∧n+2 ≠ nx+2∧nx+2 ≠ n+3∧n+3 ≠ nx+2∧nx+2 ≠ n+4∧n+4 ≠ nx+2∧nx+2 ≠ n+5∧n+5 ≠ nx+2∧nx+2 ≠ n+6∧n+6 ≠ nx+2∧nx+2 ≠ ga∧ga ≠ nx+2∧nx+3 ≠ n∧n ≠ nx+3∧nx+3 ≠ n+1∧n+1 ≠ nx+3∧nx+3 ≠ n+2∧n+2 ≠ nx+3∧nx+3 ≠ n+3∧n+3 ≠ nx+3∧nx+3 ≠ n+4∧n+4 ≠ nx+3∧nx+3 ≠ n+5∧n+5 ≠ nx+3∧nx+3 ≠ n+6∧n+6 ≠ nx+3∧nx+3 ≠ ga∧ga ≠ nx+3∧nx+4 ≠ n∧n ≠ nx+4∧nx+4 ≠ n+1∧n+1 ≠ nx+4∧nx+4 ≠ n+2∧n+2 ≠ nx+4∧nx+4 ≠ n+3∧n+3 ≠ nx+4∧nx+4 ≠ n+4∧n+4 ≠ nx+4∧nx+4 ≠ n+5∧n+5 ≠ nx+4∧nx+4 ≠ n+6∧n+6 ≠ nx+4∧nx+4 ≠ ga∧ga ≠ nx+4∧nx+5 ≠ n∧n ≠ nx+5∧nx+5 ≠ n+1∧n+1 ≠ nx+5∧nx+5 ≠ n+2∧n+2 ≠ nx+5∧nx+5 ≠ n+3∧n+3 ≠ nx+5∧nx+5 ≠ n+4∧n+4 ≠ nx+5∧nx+5 ≠ n+5∧n+5 ≠ nx+5∧nx+5 ≠ n+6∧n+6 ≠ nx+5∧nx+5 ≠ ga∧ga ≠ nx+5∧nx+7 ≠ n∧n ≠ nx+7∧nx+7 ≠ n+1∧n+1 ≠ nx+7∧nx+7 ≠ n+2∧n+2 ≠ nx+7∧nx+7 ≠ n+3∧n+3 ≠ nx+7∧nx+7 ≠ n+4∧n+4 ≠ nx+7∧nx+7 ≠ n+5∧n+5 ≠ nx+7∧nx+7 ≠ n+6∧n+6 ≠ nx+7∧nx+7 ≠ ga∧ga ≠ nx+7:=⟨by omega,by omega,by omega,by omega,by omega,by omega,by omega,by omega,by omega,by omega,by omega,by omega,by omega,by omega,by omega,by omega,by omega,by omega,by omega,by omega,by omega,by omega,by omega,by omega,by omega,by omega,by omega,by omega,by omega,by omega,by omega,by omega,by omega,by omega,by omega,by omega,by omega,by omega,by omega,by omega,by omega,by omega,by omega,by omega,by omega,by omega,by omega,by omega,by omega,by omega,by omega,by omega,by omega,by omega,by omega,by omega,by omega,by omega,by omega,by omega,by omega,by omega,by omega,by omega,by omega,by omega,by omega,by omega,by omega,by omega,by omega,by omega,by omega,by omega,by omega,by omega,by omega,by omega,by omega,by omega,by omega,by omega,by omega,by omega,by omega,by omega,by omega,by omega,by omega,by omega,by omega,by omega,by omega,by omega,by omega,by omega,by omega,by omega,by omega,by omega,by omega,by omega,by omega,by omega,by omega,by omega,by omega,by omega,by omega,by omega,by omega,by omega,by omega,by omega,by omega,by omega,by omega,by omega,by omega,by omega,by omega,by omega,by omega,by omega,by omega,by omega,by omega,by omega,by omega,by omega,by omega,by omega,by omega,by omega,by omega,by omega,by omega,by omega,by omega,by omega,by omega,by omega,by omega,by omega,by omega,by omega,by omega,by omega,by omega,by omega,by omega,by omega,by omega,by omega⟩
  simp [zi,r0,zc,r4,r5,self,Ins.avs]
  refine JN.same ?_
  simp [zz]
  simp [zy]
  refine JN.same ?_
  simp [zal]
  simp [zak,r0,zc,r4,r5,Ins.avs,ri',ra,gn,hw,hw2,tk,tk2,tk3,gl,src,hmin,e4,g3,gt,gd,tks,CALL,ne_1]
  refine ⟨by omega,by omega,by omega,fun x hx=>hx.elim (f1 x) (e1 x),by omega,by omega,by omega,e1,fun c hc=>zae (zbq _ c hc),by omega,by omega,?_⟩
  generalize hX:Heap.put _ (n+1+1) _=HX
  have xk:∀ g,g < n→g ≠ nx→HX g=H g:=fun g h1 h2=>by
    rw [← hX,Heap.put_ne _ _ (by omega),Heap.put_ne _ _ (by omega),Heap.put_ne _ _ (by omega),Heap.put_ne _ _ (by omega),Heap.put_ne _ _ (by omega),Heap.put_ne _ _ (by omega),Heap.put_ne _ _ (by omega),Heap.put_ne _ _ h2,Heap.put_ne _ _ (by omega),Heap.put_ne _ _ (by omega),Heap.put_ne _ _ h2]
  have x1:HX (n+1)=some (.row 4 (F ++ g.avs)):=by
    rw [← hX,Heap.put_ne _ _ (by omega),Heap.put_ne _ _ (by omega),Heap.put_ne _ _ (by omega),Heap.put_ne _ _ (by omega),Heap.put_ne _ _ (by omega),Heap.put_ne _ _ (by omega),Heap.put_ne _ _ (by omega),Heap.put_ne _ _ (by omega),Heap.put_at]
  have x2:HX (n+1+1+2+1+1)=some (.row 3 (rowV (g.stack ++ [x]))):=by
    rw [← hX,Heap.put_ne _ _ (by omega),Heap.put_at,zel]; rfl
  have x0:HX nx=some (.row 9 (zc b.id b.trip b.prog (.slc (n+1) 0 (fs.length+1)) (.ro (b.heap.map Cl.avs)) b.permit)):=by
    rw [← hX,Heap.put_ne _ _ (by omega),Heap.put_ne _ _ (by omega),Heap.put_ne _ _ (by omega),Heap.put_ne _ _ (by omega),Heap.put_ne _ _ (by omega),Heap.put_ne _ _ (by omega),Heap.put_ne _ _ (by omega),Heap.put_at]; rfl
  have ps:=Part.row (nx:=nx) (n:=n+7) x2 (by omega) (by omega)
  refine zdl (nx:=nx) (n:=n+7) (fs:=fs) (f:={ g with stack:=g.stack ++ [x] }) (by omega) (by omega) (by omega) (by rw [x1,hFF]; rfl) ⟨rfl,rfl,rfl,rfl⟩ (.ro (zek _)) (by simpa using ps) (.ro (zao _)) fun H' n' g' h1 h2 kp hr gd => ?_
  exact ret (r:=VM.push b fs g g.stack x) gd (R.o.more fun g hg h1 _=>by rw [kp g (by omega),xk g (by omega) h1])
end
end Go.Proofs.YtdmibdjokofclaaDoor
