/- Going as if it were nothing: what is said: the document's. Texts are the same as themselves. Lists of values, and of cells, that are the same; and that may be. A program, and an agent, are the same as themselves. Agents of a program are the same as themselves. Rows of numbers. Heights: what the document's function makes of a code. Programs: what the document's function says is wrong with them. Agents: what the document's function says is wrong with one. Agents: what the document's function says is wrong with one, on. Agents: what the document's function says is wrong with one, whole. The laws of chapter 9: the program tells what the document does. -/
import Derived.Test.YtdmibdjokofclaaDoorG15
import Derived.Test.YtdmibdjokofclaaDoorG12
import Derived.Test.YtdmibdjokofclaaDoorG11
import Derived.Test.YtdmibdjokofclaaDoorG9
import Derived.Test.YtdmibdjokofclaaDoorG6
set_option linter.unusedSimpArgs false
set_option linter.unusedVariables false
set_option maxRecDepth 8000
namespace Go.Proofs.YtdmibdjokofclaaDoor
open Go Go.RowKit
set_option maxRecDepth 20000 in
set_option maxHeartbeats 4000000 in
theorem zagd {l:List Spt} (ok:VM.OkSpots l) {R:List Str×Str×Int} {H0 H:Heap} {nx n e g:Nat} {a:Agt} {i:Nat} {said:List Str} {sl:AV} {Q:QT} (he:nx≤e) (heg:e < g) (st:AlSt l R H0 H nx n e g a i said sl)
    (hq:∀ v H' n',Frz H' nx v (zahp R)→Keep nx H' H0→Q v H' n') :
    LP (zfh Q) [.ro (Ply l),.int .i64 i,.ptr e 0,.ptr g 0,sl] H n:=by
  refine LP.mk (fun k xs H' n'=>∃ (a:Agt) (i:Nat) (said:List Str) (sl:AV),k=a.permit.fuel.toNat∧xs=[.ro (Ply l),.int .i64 i,.ptr e 0,.ptr g 0,sl]∧AlSt l R H0 H' nx n' e g a i said sl) a.permit.fuel.toNat ⟨a,i,said,sl,rfl,rfl,st⟩ ?_
  clear st
  rintro k xs H' n' ⟨a,i,said,sl,rfl,rfl,st⟩
  suffices key:∀ K33:J3,(∀ (a2:Agt) (i2:Nat) (said2:List Str) (sl2:AV) (H2:Heap) (n2:Nat),a2.permit.fuel.toNat < a.permit.fuel.toNat→AlSt l R H0 H2 nx n2 e g a2 i2 said2 sl2→K33 [.ro (Ply l),.int .i64 i2,.ptr e 0,.ptr g 0,sl2] H2 n2)→zfh Q K33 [.ro (Ply l),.int .i64 i,.ptr e 0,.ptr g 0,sl] H' n' from
    key _ fun a2 i2 said2 sl2 H2 n2 h1 h2=>⟨a2.permit.fuel.toNat,h1,a2,i2,said2,sl2,rfl,rfl,h2⟩
  intro K33 hK
  obtain ⟨⟨fs,f,lv⟩,hi,hg,hen,hsl,how,hgn,hkp,hgo,hfew⟩:=st
  have fb:=lv.fuel
  obtain ⟨ad,at9,al⟩:=zap a
  have hpl:(Ply l).length=l.length:=by simp [Ply]
  have sm:l.getD i VM.spt0∈l:=VM.getD_spot hi
  have hg':(Ply l)[i]'(by rw [hpl]; exact hi)=(l.getD i VM.spt0).avs:=by simp [Ply,hi]
  have q1:=VM.go_step ok (said:=said) lv hi
  have q2:=VM.stepped lv (ok.facts _ sm)
  have rq:=zaht lv (s:=l.getD i VM.spt0) (by have:=ok.name _ sm; simp only [maxLen]; omega) (by have:=ok.many _ sm; omega)
  generalize VM.step a (l.getD i VM.spt0)=r at *
  generalize l.getD i VM.spt0=s at *
  have ht:s.avs.take 4=s.avs∧s.avs.length=4:=⟨rfl,rfl⟩
  simp [zfh,hg,al,at9,hi,hpl,hg',ht]
  refine zo.of_qc rq (zjz (zgc _) (znn _)) ?_
  obtain ⟨_,bt,bl⟩:=zap r.1
  have ob:=zck r.1
  have sb:((AV.agg r.1.avs).sure=true):=by simp [Agt.avs]
  have m1:¬ n'=g∧¬ n'+1=g∧¬ g=n'∧¬ g=n'+1:=by omega
  have mono:∀ {Y:Heap} {m i2:Nat} {c:Agt} {said2:List Str} {sl2:AV},n'≤m→(∃ fs f,VM.Live c fs f)→i2 < l.length→Y g=some (.row 9 c.avs)→(∀ y,y < n'→y ≠ g→y∉own sl→Y y=H' y)→Slot Y 1 said2.length (rowT said2) sl2→(∀ y∈own sl2,g < y∧y < m)→VM.go l c i2 said2=R→(said2.length:Int)+c.permit.fuel≤2000→AlSt l R H0 Y nx m e g c i2 said2 sl2:=fun {Y m i2 c said2 sl2} h1 h2 h3 h4 h5 h6 h7 h8 h9=>by
    have nso:∀ y,y≤g→y∉own sl:=fun y hy h=>by have:=how y h; omega
    obtain ⟨z,z1,z2⟩:=hen
    exact ⟨h2,h3,h4,⟨z,by rw [h5 e (by omega) (by omega) (nso _ (by omega))]; exact z1,z2⟩,h6,h7,by omega,fun y hy=>by rw [h5 y (by omega) (by omega) (nso _ (by omega))]; exact hkp y hy,h8,h9⟩
  rcases q2 with ⟨hk,⟨gs,h,l2⟩,hf,h0⟩ | ⟨hk,⟨gs,h,l2⟩,hf,h0⟩ | ⟨hk,⟨gs,h,l2⟩,hf,h0⟩ | hk
  · rw [if_pos hk] at q1
    have fb2:=l2.fuel
    simp [zch,hg,ad,al,at9,bt,bl,sb,eavs,m1,hk]
    refine ⟨ob,?_⟩
    generalize hY:Heap.put _ g _=Y
    have yg:Y g=some (.row 9 r.1.avs):=by rw [← hY,Heap.put_at]
    have yk:∀ y,y < n'→y ≠ g→Y y=H' y:=fun y e1 e2=>by rw [← hY]; repeat' first | rw [Heap.put_ne _ _ (by omega)] | rfl
    clear hY
    exact hK r.1 i said sl Y _ (by omega) (mono (by omega) ⟨gs,h,l2⟩ hi yg (fun y e1 e2 _=>yk y e1 e2) (hsl.keep fun y hy=>by have:=how y hy; exact yk y (by omega) (by omega)) (fun y hy=>by have:=how y hy; omega) (by rw [← q1]; exact hgo) (by omega))
  · rw [if_neg (by omega),if_pos hk] at q1
    have fb2:=l2.fuel
    simp [zch,hg,ad,al,at9,bt,bl,sb,eavs,m1,hk]
    refine ⟨ob,?_⟩
    generalize hY:Heap.put _ (n'+2) _=Y
    have y1:Y (n'+2)=some (.row 1 [.str r.2.text]):=by rw [← hY,Heap.put_at]
    have yg:Y g=some (.row 9 r.1.avs):=by rw [← hY,Heap.put_ne _ _ (by omega),Heap.put_at]
    have yk:∀ y,y < n'→y ≠ g→Y y=H' y:=fun y e1 e2=>by rw [← hY]; repeat' first | rw [Heap.put_ne _ _ (by omega)] | rfl
    clear hY
    have s1:Slot Y 1 said.length (rowT said) sl:=hsl.keep fun y hy=>by have:=how y hy; exact yk y (by omega) (by omega)
    refine s1.app (new:=[.str r.2.text]) (by simp [rowT]) y1 rfl (by simp) (by omega) fun H6 p1 p2 => ?_
    refine hK r.1 i (said ++ [r.2.text]) _ H6 _ (by omega) (mono (by omega) ⟨gs,h,l2⟩ hi ?_ (fun y e1 e2 e3 => ?_) ?_ (fun y hy => ?_) (by rw [← q1]; exact hgo) (by simp; omega))
    · rw [p2 g (fun h=>by have:=how _ h; omega) (by omega)]; exact yg
    · rw [p2 y e3 (by omega)]; exact yk y e1 e2
    · refine .inr ⟨_,_,?_,p1,?_,?_⟩
      · simp
      · rw [List.take_of_length_le (by simp [rowT])]; simp [rowT]
      · simp [rowT]
    · have e:y=n'+2+1:=by simpa [own] using hy
      omega
  · rw [if_neg (by omega),if_neg (by omega),if_pos hk] at q1
    have fb2:=l2.fuel
    have fl2:=l2.flen
    have gs2:=VM.gone_stk l2 h (by rw [l2.fr]; simp)
    have aq:=zup (k:=0) l2.fr (by omega) (by omega)
    have stay:∀ (Y:Heap) (m:Nat),n'≤m→Y g=some (.row 9 r.1.avs)→(∀ y,y < n'→y ≠ g→Y y=H' y)→VM.landed l i r.1 r.2.text=(VM.answer r.1 0,i)→za Tryd.prog 31 [.agg r.1.avs,.int .i64 0] Y m (zdg [.ro (Ply l),.int .i64 i,.ptr e 0,.ptr g 0,sl] K33):=fun Y m h1 h2 h3 h4=>by
      refine QC.call aq ?_
      rw [h4] at q1
      have la:=VM.answer_live l2 (n:=0) (by omega)
      have fu:(VM.answer r.1 0).permit=r.1.permit:=VM.answer_fuel l2.fr 0
      generalize VM.answer r.1 0=c at *
      obtain ⟨_,ct,cl⟩:=zap c
      have oc:=zck c
      obtain ⟨rd,_,rl⟩:=zap r.1
      simp [zdg,h2,ct,cl,rl,rd]
      refine ⟨oc,hK c i said sl _ _ (by rw [fu]; omega) (mono (by omega) ⟨_,_,la⟩ hi (Heap.put_at _ _ _) (fun y e1 e2 e3=>by rw [Heap.put_ne _ _ e2]; exact h3 y e1 e2) (hsl.keep fun y hy=>by have:=how y hy; rw [Heap.put_ne _ _ (by omega)]; exact h3 y (by omega) (by omega)) (fun y hy=>by have:=how y hy; omega) (by rw [← q1]; exact hgo) (by rw [fu]; omega))⟩
    simp [zch,hg,ad,al,at9,bt,bl,sb,eavs,m1,hk]
    refine ⟨ob,?_⟩
    refine QC.call (zaef l r.2.text (by have:=ok.len; omega)) ?_
    generalize hY:Heap.put _ g _=Y
    have yg:Y g=some (.row 9 r.1.avs):=by rw [← hY,Heap.put_at]
    have yk:∀ y,y < n'→y ≠ g→Y y=H' y:=fun y e1 e2=>by rw [← hY]; repeat' first | rw [Heap.put_ne _ _ (by omega)] | rfl
    clear hY
    have fr:=VM.find_range l r.2.text
    have m2:¬ n'+2=g∧¬ g=n'+2:=by omega
    have zk:∀ o,∀ y,y < n'→y ≠ g→(Y.put (n'+2) o) y=H' y:=fun o y e1 e2=>by rw [Heap.put_ne _ _ (by omega)]; exact yk y e1 e2
    have zg:∀ o,(Y.put (n'+2) o) g=some (.row 9 r.1.avs):=fun o=>by rw [Heap.put_ne _ _ (by omega)]; exact yg
    by_cases c1:0≤VM.find l r.2.text
    case neg =>
      simp [zfi,yg,bt,bl,sb,m2,c1]
      exact stay _ _ (by omega) (zg _) (zk _) (by unfold VM.landed; rw [if_neg (fun h=>c1 h.1)])
    by_cases c2:VM.find l r.2.text=i
    · simp [zfi,yg,bt,bl,sb,m2,c1,c2]
      exact stay _ _ (by omega) (zg _) (zk _) (by unfold VM.landed; rw [if_neg (fun h=>h.2 c2)])
    obtain ⟨j,hj⟩:=Int.eq_ofNat_of_zero_le c1
    have hjl:j < l.length:=by omega
    have c2':¬ (j:Int)=i:=fun h=>c2 (by rw [hj,h])
    have sj:l.getD j VM.spt0∈l:=VM.getD_spot hjl
    have hgj:(Ply l)[j]'(by rw [hpl]; exact hjl)=(l.getD j VM.spt0).avs:=by simp [Ply,hjl]
    have hland:VM.landed l i r.1 r.2.text=match VM.letIn r.1 (l.getD j VM.spt0) with | some y=>(y,j) | none=>(VM.answer r.1 0,i):=by
      unfold VM.landed
      rw [if_pos ⟨c1,c2⟩,hj]
      rfl
    have ll:=VM.landed_live ok l2 hi r.2.text
    have lq:=zagv l2 (l.getD j VM.spt0) (ok.fuel _ sj)
    unfold letV at lq
    generalize l.getD j VM.spt0=t at *
    have tt:t.avs.take 4=t.avs∧t.avs.length=4:=⟨rfl,rfl⟩
    simp [zfi,yg,bt,bl,sb,m2,hj,c2',hpl,hjl,hgj,tt]
    refine zo.of_qc lq (zjz (zgc _) (.bool _)) ?_
    obtain ⟨rd,_,_⟩:=zap r.1
    cases hl:VM.letIn r.1 t with
    | none =>
      rw [hl] at hland
      obtain ⟨_,zt,zl⟩:=zap VM.agt0
      have oz:=zck VM.agt0
      have zsu:(AV.agg VM.agt0.avs).sure=true:=by simp [Agt.avs]
      simp [zif,yg,bt,bl,sb,m2,zt,zl,zsu]
      refine ⟨oz,stay _ _ (by omega) ?_ (fun y e1 e2 => ?_) hland⟩
      · repeat' first | rw [Heap.put_ne _ _ (by omega)] | exact yg
      · repeat' first | rw [Heap.put_ne _ _ (by omega)] | exact yk y e1 e2
    | some c =>
      rw [hl] at hland
      rw [hland] at ll q1
      obtain ⟨lc,_,fc⟩:=ll
      obtain ⟨_,ct,cl⟩:=zap c
      have oc:=zck c
      have csu:(AV.agg c.avs).sure=true:=by simp [Agt.avs]
      simp [zif,yg,bt,bl,rd,sb,m2,ct,cl,csu]
      have fc2:0≤c.permit.fuel:=by obtain ⟨_,_,l3⟩:=lc; exact l3.fuel.1
      simp only at fc
      refine ⟨oc,hK c j said sl _ _ (by omega) (mono (by omega) lc hjl (Heap.put_at _ _ _) (fun y e1 e2 e3 => ?_) (hsl.keep fun y hy => ?_) (fun y hy=>by have:=how y hy; omega) (by rw [← q1]; exact hgo) (by omega))⟩
      · rw [Heap.put_ne _ _ e2]; repeat' first | rw [Heap.put_ne _ _ (by omega)] | exact yk y e1 e2
      · have:=how y hy
        rw [Heap.put_ne _ _ (by omega)]; repeat' first | rw [Heap.put_ne _ _ (by omega)] | exact yk y (by omega) (by omega)
  · rw [if_neg (by omega),if_neg (by omega),if_neg (by omega)] at q1
    obtain ⟨z,z1,z2⟩:=hen
    have m3:¬ e=g∧¬ e=n'∧¬ e=n'+1:=by omega
    have fin:∀ Y:Heap,(∀ y,y < n'→y ≠ g→y ≠ e→Y y=H' y)→Q (.tup [sl,.agg [.int .i64 0,.str r.2.text,.int .i64 r.2.err],.int .i64 0]) Y (n'+2):=fun Y hy=>by
      refine hq _ _ _ ?_ fun y h1 => ?_
      · rw [← hgo,q1]
        exact zaer (hsl.keep fun y h=>by have:=how y h; exact hy y (by omega) (by omega) (by omega)) (fun y h=>by have:=how y h; omega) _ _
      · rw [hy y (by omega) (by omega) (by omega)]; exact hkp y h1
    rcases hk with hk | hk
    · simp [zch,hg,ad,al,at9,bt,bl,sb,eavs,m1,hk,m3,z1,z2]
      refine ⟨ob,by rintro x ((rfl | rfl) | rfl) <;> rfl,fin _ fun y e1 e2 e3 => ?_⟩
      repeat' first | rw [Heap.put_ne _ _ (by omega)] | rfl
    · simp [zch,hg,ad,al,at9,bt,bl,sb,eavs,m1,hk,m3,z1,z2]
      refine ⟨ob,by rintro x ((rfl | rfl) | rfl) <;> rfl,fin _ fun y e1 e2 e3 => ?_⟩
      repeat' first | rw [Heap.put_ne _ _ (by omega)] | rfl
set_option maxRecDepth 20000 in
set_option maxHeartbeats 4000000 in
theorem zajm {p:Prg} (m:Pmt) (l:List Spt) (at_:Int) (hp:VM.program p=0) (hl:l.length≤4611686018427387904) (hfl:∀ s∈l,s.facts.length≤4611686018427387903) :
    QC Tryd.prog 12 [.agg p.avs,.agg m.avs,.ro (Ply l),.int .i64 at_] (runV (VM.alone p m l at_)):=by
  refine QC.of' fun H nx => ?_
  suffices main:∀ Q:AV→Heap→Nat→Prop,(∀ v H' n',Frz H' nx v (runV (VM.alone p m l at_))→Keep nx H' H→Q v H' n')→za Tryd.prog 12 [.agg p.avs,.agg m.avs,.ro (Ply l),.int .i64 at_] H nx Q from main _ fun v H' n' h1 h2=>⟨h1,h2⟩
  intro Q hQ
  refine ztn _ _ _ _ H nx _ ?_
  have hsp:(AV.agg p.avs).sure=true:=by simp [Prg.avs]
  have hsm:(AV.agg m.avs).sure=true:=by simp [Pmt.avs]
  have pt:p.avs.take 2=p.avs∧p.avs.length=2:=⟨rfl,rfl⟩
  have mt:m.avs.take 3=m.avs∧m.avs.length=3:=⟨rfl,rfl⟩
  have mav:m.avs=[.int .i64 m.fuel,.int .i64 m.room,.int .i64 m.hops]:=rfl
  have hpl:(Ply l).length=l.length:=by simp [Ply]
  simp only [znx,puth]
  refine ⟨hsp,hsm,?_⟩
  generalize hX:Heap.put _ (nx+2) _=X
  have x0:X nx=some (.row 2 p.avs):=by rw [← hX,Heap.put_ne _ _ (by omega),Heap.put_ne _ _ (by omega),Heap.put_at]; rfl
  have x1:X (nx+1)=some (.row 3 m.avs):=by rw [← hX,Heap.put_ne _ _ (by omega),Heap.put_at]; rfl
  have x2:X (nx+2)=some (.row 3 [.int .i64 0,.str [],.int .i64 0]):=by rw [← hX,Heap.put_at]
  have xk:Keep nx X H:=fun y hy=>by rw [← hX]; repeat' first | rw [Heap.put_ne _ _ (by omega)] | rfl
  clear hX
  have kp:∀ o,Keep nx (X.put (nx+2) o) H:=fun o y hy=>by rw [Heap.put_ne _ _ (by omega)]; exact xk y hy
  have err:∀ {e:Int},VM.alone p m l at_=(([],[],0),e)→∀ H' n',Keep nx H' H→Q (.tup [.nils,.agg [.int .i64 0,.str [],.int .i64 0],.int .i64 e]) H' n':=fun he H' n' hk=>hQ _ _ _ (by rw [he]; exact zaes _) hk
  refine QC.call (zacl l hfl) ?_
  by_cases hw:(VM.spotsWrong l).1=0
  case neg =>
    simp [zie,hw,x2]
    exact err (by unfold VM.alone; rw [if_pos hw]) _ _ (kp _)
  simp [zie,hw,x1,mt,hsm]
  refine QC.call (mav ▸ zzw m) ?_
  by_cases hm:VM.permitErr m=0
  case neg =>
    simp [zdf,hm,x2]
    exact err (by unfold VM.alone; rw [if_neg (by simpa using hw),if_pos hm]) _ _ (kp _)
  by_cases ha:at_ < 0
  · simp [zdf,hm,x2,ha]
    exact err (by unfold VM.alone; rw [if_neg (by simpa using hw),if_neg (by simpa using hm),if_pos (.inl ha)]) _ _ (kp _)
  by_cases hb:(l.length:Int)≤at_
  · simp [zdf,hm,x2,ha,hpl,hb]
    exact err (by unfold VM.alone; rw [if_neg (by simpa using hw),if_neg (by simpa using hm),if_pos (.inr hb)]) _ _ (kp _)
  obtain ⟨i,rfl⟩:=Int.eq_ofNat_of_zero_le (show 0≤at_ by omega)
  have hi:i < l.length:=by omega
  have ok:=VM.spots_ok hw
  obtain ⟨c1,c2,c3,c4,c5⟩:=VM.first_code hp
  have hm':0≤m.fuel∧m.fuel≤2000∧0≤m.room∧m.room≤60∧0≤m.hops∧m.hops≤12:=by
    unfold VM.permitErr at hm
    split at hm
    · cases hm
    · omega
  have ha':¬ (i:Int) < 0:=by omega
  simp [zdf,hm,x0,x1,pt,mt,hsp,hsm,hpl,hb,ha']
  refine QC.call (zajk (id:=0) c1 (by omega)) ?_
  have al:=VM.new_live (id:=0) hp (by omega) ⟨hm'.1,hm'.2.1⟩ ⟨hm'.2.2.1,hm'.2.2.2.1⟩ ⟨hm'.2.2.2.2.1,hm'.2.2.2.2.2⟩
  have hal:VM.alone p m l (i:Int)=(VM.go l (VM.newAgt 0 p m) i [],0):=by
    unfold VM.alone
    rw [if_neg (by simpa using hw),if_neg (by simpa using hm),if_neg (by omega)]
    rfl
  have hfu:(VM.newAgt 0 p m).permit=m:=rfl
  generalize VM.newAgt 0 p m=a at *
  obtain ⟨ad,at9,aln⟩:=zap a
  have oa:=zck a
  have asu:(AV.agg a.avs).sure=true:=by simp [Agt.avs]
  simp [zny,at9,aln,ad,asu]
  refine ⟨oa,?_⟩
  refine zagd (nx:=nx) (e:=nx+2) (g:=nx+3) (H0:=H) ok (a:=a) (said:=[]) (R:=VM.go l a i []) (by omega) (by omega) ⟨⟨_,_,al⟩,hi,Heap.put_at _ _ _,⟨_,by rw [Heap.put_ne _ _ (by omega)]; exact x2,rfl⟩,.inl ⟨rfl,.inl rfl⟩,by simp [own],by omega,fun y hy=>by rw [Heap.put_ne _ _ (by omega)]; exact xk y hy,rfl,by rw [hfu]; simp; omega⟩ fun v H' n' h1 h2=>hQ v H' n' (by rw [hal]; exact h1) h2
end Go.Proofs.YtdmibdjokofclaaDoor
set_option maxRecDepth 8000
namespace Go.Proofs.YtdmibdjokofclaaDoor
open Go Go.RowKit
def Txt (l:List Str):List (List AV):=l.map fun w=>[.str w]
theorem zals (l:List Str) (hl:l.length≤4611686018427387903):QC Tryd.prog 13 [.ro (Txt l),.ro (Txt l)] (.bool true):=by
  refine QC.of' fun H nx=>zpm _ _ H nx _ ?_
  have hpl:(Txt l).length=l.length:=by simp [Txt]
  simp [zjk,hpl]
  refine LP.mk (fun k xs H' n'=>∃ i:Nat,k=l.length - i∧i≤l.length∧xs=[.ro (Txt l),.ro (Txt l),.int .i64 l.length,.int .i64 i]∧Keep nx H' H) l.length ⟨0,by omega,by omega,rfl,fun _ _=>rfl⟩ ?_
  rintro k xs H' n' ⟨i,rfl,hi,rfl,hk⟩
  by_cases hlt:i < l.length
  · have hadd:IntKind.i64.wrap ((i:Int)+1)=((i+1:Nat):Int):=by rw [i64w (by omega)]; rfl
    have hg:(Txt l)[i]'(by rw [hpl]; exact hlt)=[.str l[i]]:=by simp [Txt]
    simp [zfc,hlt,hpl,hg,hadd]
    exact ⟨l.length - (i+1),by omega,i+1,by omega,by omega,rfl,hk⟩
  · obtain rfl:i=l.length:=by omega
    simp [zfc]
    exact hk
end Go.Proofs.YtdmibdjokofclaaDoor
set_option maxRecDepth 8000
namespace Go.Proofs.YtdmibdjokofclaaDoor
open Go Go.RowKit
theorem zack {α:Type} {a b:List α} {i:Nat} (h1:i < a.length) (h2:i < b.length):(a.drop i=b.drop i)↔(a[i]=b[i]∧a.drop (i+1)=b.drop (i+1)):=by
  rw [List.drop_eq_getElem_cons h1,List.drop_eq_getElem_cons h2,List.cons.injEq]
set_option maxHeartbeats 1000000 in
theorem zady (a b:List Val) (ha:a.length≤4611686018427387904):QC Tryd.prog 36 [.ro (a.map Val.avs),.ro (b.map Val.avs)] (.bool (decide (a=b))):=by
  refine fun H nx=>znu _ _ H nx _ ?_
  by_cases hl:a.length=b.length
  case neg =>
    have:¬ ((a.length:Int)=b.length):=by omega
    have hab:¬ a=b:=fun h=>hl (by rw [h])
    simp [zeo,this,hab]
  simp [zeo,hl]
  refine LP.mk (fun m xs H' nx'=>∃ i:Nat,i≤b.length∧m=b.length - i∧xs=[.ro (a.map Val.avs),.ro (b.map Val.avs),.int .i64 b.length,.int .i64 i]∧H=H'∧nx=nx'∧(a=b↔a.drop i=b.drop i)) b.length ⟨0,by omega,by omega,rfl,rfl,rfl,by simp⟩ ?_
  rintro m xs H' nx' ⟨i,hi,rfl,rfl,rfl,rfl,hd⟩
  by_cases h:i < b.length
  · have h1:i < a.length:=by omega
    have hia:a[i]? = some a[i]:=List.getElem?_eq_getElem h1
    have hib:b[i]? = some b[i]:=List.getElem?_eq_getElem h
    rw [zack h1 h] at hd
    generalize a[i]=x at *
    generalize b[i]=y at *
    obtain ⟨_,hia'⟩:=List.getElem?_eq_some_iff.1 hia
    obtain ⟨_,hib'⟩:=List.getElem?_eq_some_iff.1 hib
    clear hia hib
    obtain ⟨kx,nx',sx⟩:=x
    obtain ⟨ky,ny,sy⟩:=y
    simp [zep,h,h1,hl,hia',hib',Val.avs]
    refine ⟨fun hne => ?_,fun h1 h2 h3 => ?_⟩
    · rw [hd]
      rintro ⟨he,_⟩
      cases he
      simp at hne
    · subst h1 h2 h3
      rw [i64w (by omega)]
      exact ⟨b.length - (i+1),by omega,i+1,by omega,rfl,by simp,by rw [hd]; simp⟩
  · simp [zep,h]
    rw [hd,List.drop_of_length_le (by omega),List.drop_of_length_le (by omega)]
set_option maxHeartbeats 1000000 in
theorem zalv (a b:List Cl) (ha:a.length≤4611686018427387904):QC Tryd.prog 35 [.ro (a.map Cl.avs),.ro (b.map Cl.avs)] (.bool (decide (a=b))):=by
  refine fun H nx=>zpo _ _ H nx _ ?_
  by_cases hl:a.length=b.length
  case neg =>
    have:¬ ((a.length:Int)=b.length):=by omega
    have hab:¬ a=b:=fun h=>hl (by rw [h])
    simp [zfe,this,hab]
  simp [zfe,hl]
  refine LP.mk (fun m xs H' nx'=>∃ i:Nat,i≤b.length∧m=b.length - i∧xs=[.ro (a.map Cl.avs),.ro (b.map Cl.avs),.int .i64 b.length,.int .i64 i]∧H=H'∧nx=nx'∧(a=b↔a.drop i=b.drop i)) b.length ⟨0,by omega,by omega,rfl,rfl,rfl,by simp⟩ ?_
  rintro m xs H' nx' ⟨i,hi,rfl,rfl,rfl,rfl,hd⟩
  by_cases h:i < b.length
  · have h1:i < a.length:=by omega
    have hia:a[i]? = some a[i]:=List.getElem?_eq_getElem h1
    have hib:b[i]? = some b[i]:=List.getElem?_eq_getElem h
    rw [zack h1 h] at hd
    generalize a[i]=x at *
    generalize b[i]=y at *
    obtain ⟨_,hia'⟩:=List.getElem?_eq_some_iff.1 hia
    obtain ⟨_,hib'⟩:=List.getElem?_eq_some_iff.1 hib
    clear hia hib
    obtain ⟨⟨kx,nx',sx⟩,⟨kx2,nx2,sx2⟩⟩:=x
    obtain ⟨⟨ky,ny,sy⟩,⟨ky2,ny2,sy2⟩⟩:=y
    simp [zff,h,h1,hl,hia',hib',Cl.avs,Val.avs]
    refine ⟨fun hne => ?_,fun h1 h2 h3 h4 h5 h6 => ?_⟩
    · rw [hd]
      rintro ⟨he,_⟩
      cases he
      simp at hne
    · subst h1 h2 h3 h4 h5 h6
      rw [i64w (by omega)]
      exact ⟨b.length - (i+1),by omega,i+1,by omega,rfl,by simp,by rw [hd]; simp⟩
  · simp [zff,h]
    rw [hd,List.drop_of_length_le (by omega),List.drop_of_length_le (by omega)]
end Go.Proofs.YtdmibdjokofclaaDoor
set_option maxRecDepth 8000
namespace Go.Proofs.YtdmibdjokofclaaDoor
open Go Go.RowKit
theorem zapm:eqsT 65=true:=by kernel_rfl
theorem zapl:eqsT 28=true:=by kernel_rfl
set_option maxRecDepth 20000 in
set_option maxHeartbeats 1000000 in
theorem zalt (p:Prg) (h1:p.codes.length≤4611686018427387904) (h2:p.words.length≤4611686018427387904) (h3:∀ c∈p.codes,c.ins.length≤4611686018427387904):QC Tryd.prog 34 [.agg p.avs,.agg p.avs] (.bool true):=by
  refine QC.of' fun H nx => ?_
  suffices main:∀ Q:AV→Heap→Nat→Prop,(∀ H' n',Keep nx H' H→Q (.bool true) H' n')→za Tryd.prog 34 [.agg p.avs,.agg p.avs] H nx Q from main _ fun H' n' h=>⟨zyl,h⟩
  intro Q hQ
  refine zmr _ _ H nx _ ?_
  have m:nx ≠ nx+1:=by omega
  simp [zhq,Prg.avs,m]
  generalize hX:Heap.put _ (nx+1) _=X
  have x0:X nx=some (.row 2 [.ro (p.codes.map Cod.avs),.ro (p.words.map fun w=>[.str w])]):=by rw [← hX,Heap.put_ne _ _ m,Heap.put_at]
  have x1:X (nx+1)=some (.row 2 [.ro (p.codes.map Cod.avs),.ro (p.words.map fun w=>[.str w])]):=by rw [← hX,Heap.put_at]
  have xk:Keep nx X H:=fun g hg=>by rw [← hX,Heap.put_ne _ _ (by omega),Heap.put_ne _ _ (by omega)]
  refine LP.mk (fun k xs H' n'=>∃ i:Nat,xs=[.ptr nx 0,.ptr (nx+1) 0,.int .i64 p.words.length,.int .i64 i]∧i≤p.words.length∧k=p.words.length - i∧X=H'∧nx+2≤n') p.words.length ⟨0,rfl,by omega,by omega,rfl,by omega⟩ ?_
  rintro k xs H' n' ⟨i,rfl,hi,rfl,rfl,hn⟩
  by_cases hlt:i < p.words.length
  · have hadd:IntKind.i64.wrap ((i:Int)+1)=((i+1:Nat):Int):=by rw [i64w (by omega)]; rfl
    simp [zdz,hlt,x0,x1,hadd]
    exact ⟨p.words.length - (i+1),by omega,i+1,rfl,by omega,rfl,hn⟩
  have hge:¬ (i:Int) < p.words.length:=by omega
  simp [zdz,hge,x0]
  clear hlt hge hi i
  refine LP.mk (fun k xs H' n'=>∃ i:Nat,xs=[.ptr (nx+1) 0,.ro (p.codes.map Cod.avs),.int .i64 p.codes.length,.int .i64 i]∧i≤p.codes.length∧k=p.codes.length - i∧(∀ g,g < nx+2→H' g=X g)∧nx+2≤n') p.codes.length ⟨0,rfl,by omega,by omega,fun _ _=>rfl,hn⟩ ?_
  rintro k xs H' n' ⟨i,rfl,hi,rfl,hk,hn⟩
  by_cases hlt:i < p.codes.length
  · have hadd:IntKind.i64.wrap ((i:Int)+1)=((i+1:Nat):Int):=by rw [i64w (by omega)]; rfl
    have y1:H' (nx+1)=some (.row 2 [.ro (p.codes.map Cod.avs),.ro (p.words.map fun w=>[.str w])]):=by rw [hk _ (by omega)]; exact x1
    have ha:p.codes[i]? = some p.codes[i]:=List.getElem?_eq_getElem hlt
    have hci:=h3 p.codes[i] (List.getElem_mem hlt)
    obtain ⟨_,ha'⟩:=List.getElem?_eq_some_iff.1 ha
    generalize hcc:p.codes[i]=c at *
    clear ha
    have ne_0:nx ≠ nx+1∧nx+1 ≠ nx∧nx ≠ n'∧n' ≠ nx∧nx ≠ n'+1∧n'+1 ≠ nx∧nx+1 ≠ n'∧n' ≠ nx+1∧nx+1 ≠ n'+1∧n'+1 ≠ nx+1:=⟨by omega,by omega,by omega,by omega,by omega,by omega,by omega,by omega,by omega,by omega⟩
    simp [zea,hlt,y1,hcc,Cod.avs,ne_0]
    generalize hY:Heap.put _ (n'+1) _=Y
    have z0:Y n'=some (.row 3 [.int .i64 c.params,.int .i64 c.vars,.ro (c.ins.map Ins.avs)]):=by rw [← hY,Heap.put_ne _ _ (by omega),Heap.put_at]
    have z1:Y (n'+1)=some (.row 3 [.int .i64 c.params,.int .i64 c.vars,.ro (c.ins.map Ins.avs)]):=by rw [← hY,Heap.put_at]
    have zk:∀ g,g < nx+2→Y g=X g:=fun g hg=>by rw [← hY,Heap.put_ne _ _ (by omega),Heap.put_ne _ _ (by omega)]; exact hk g hg
    suffices key:∀ K:J3,(∀ H2 n2,(∀ g,g < nx+2→H2 g=X g)→nx+2≤n2→K [.ptr (nx+1) 0,.ro (p.codes.map Cod.avs),.int .i64 p.codes.length,.int .i64 ((i+1:Nat):Int)] H2 n2) →
        LP (zcj Q K) [.ptr (nx+1) 0,.ptr n' 0,.ptr (n'+1) 0,.ro (p.codes.map Cod.avs),.int .i64 p.codes.length,.int .i64 i,.int .i64 c.ins.length,.int .i64 0] Y (n'+2) by
      refine key _ fun H2 n2 h h'=>⟨p.codes.length - (i+1),by omega,i+1,rfl,by omega,rfl,h,h'⟩
    intro K hK
    refine LP.mk (fun k xs H' n2=>∃ j:Nat,xs=[.ptr (nx+1) 0,.ptr n' 0,.ptr (n'+1) 0,.ro (p.codes.map Cod.avs),.int .i64 p.codes.length,.int .i64 i,.int .i64 c.ins.length,.int .i64 j]∧j≤c.ins.length∧k=c.ins.length - j∧Y=H'∧n'+2≤n2) c.ins.length ⟨0,rfl,by omega,by omega,rfl,by omega⟩ ?_
    rintro k xs H2 n2 ⟨j,rfl,hj,rfl,rfl,hn2⟩
    by_cases hjl:j < c.ins.length
    · have hadj:IntKind.i64.wrap ((j:Int)+1)=((j+1:Nat):Int):=by rw [i64w (by omega)]; rfl
      generalize hii:c.ins[j]=ii
      simp [zcj,hjl,z0,z1,hii,Ins.avs,hadj,zapm]
      exact ⟨c.ins.length - (j+1),by omega,j+1,rfl,by omega,rfl,hn2⟩
    · have hjg:¬ (j:Int) < c.ins.length:=by omega
      simp [zcj,hjg,hadd]
      exact hK _ _ zk (by omega)
  · have hge:¬ (i:Int) < p.codes.length:=by omega
    simp [zea,hge]
    exact hQ _ _ fun g hg=>(hk g (by omega)).trans (xk g hg)
set_option maxRecDepth 20000 in
set_option maxHeartbeats 1000000 in
theorem zaea (a:Agt) (h1:a.prog.codes.length≤4611686018427387904) (h2:a.prog.words.length≤4611686018427387904) (h3:∀ c∈a.prog.codes,c.ins.length≤4611686018427387904) (h4:a.frames.length≤4611686018427387904) (h5:a.heap.length≤4611686018427387904)
    (h6:∀ f∈a.frames,f.vars.length≤4611686018427387904∧f.stack.length≤4611686018427387904):QC Tryd.prog 17 [.agg a.avs,.agg a.avs] (.bool true):=by
  refine QC.of' fun H nx => ?_
  suffices main:∀ Q:AV→Heap→Nat→Prop,(∀ H' n',Keep nx H' H→Q (.bool true) H' n')→za Tryd.prog 17 [.agg a.avs,.agg a.avs] H nx Q from main _ fun H' n' h=>⟨zyl,h⟩
  intro Q hQ
  refine zpn _ _ H nx _ ?_
  have m:nx ≠ nx+1:=by omega
  simp [zjl,Agt.avs,m,zapl]
  generalize hX:Heap.put _ (nx+1) _=X
  have x0:X nx=some (.row 9 a.avs):=by rw [← hX,Heap.put_ne _ _ m,Heap.put_at]; rfl
  have x1:X (nx+1)=some (.row 9 a.avs):=by rw [← hX,Heap.put_at]; rfl
  have xk:Keep nx X H:=fun g hg=>by rw [← hX,Heap.put_ne _ _ (by omega),Heap.put_ne _ _ (by omega)]
  clear hX
  refine QC.call (zalt a.prog h1 h2 h3) ?_
  have e4:a.avs[4]'(by simp [Agt.avs])=.ro (a.frames.map Frm.avs):=rfl
  have e5:a.avs[5]'(by simp [Agt.avs])=.ro (a.heap.map Cl.avs):=rfl
  have al:a.avs.length=9:=rfl
  have sc:=zalv a.heap a.heap h5
  rw [decide_eq_true rfl] at sc
  simp [zjm,x0,x1,e4,e5,al]
  refine QC.call sc ?_
  simp [zjn,x0,x1,e4,al]
  refine LP.mk (fun k xs H' n'=>∃ i:Nat,xs=[.ptr (nx+1) 0,.ro (a.frames.map Frm.avs),.int .i64 a.frames.length,.int .i64 i]∧i≤a.frames.length∧k=a.frames.length - i∧(∀ g,g < nx+2→H' g=X g)∧nx+2≤n') a.frames.length ⟨0,rfl,by omega,by omega,fun _ _=>rfl,by omega⟩ ?_
  rintro k xs H' n' ⟨i,rfl,hi,rfl,hk,hn⟩
  by_cases hlt:i < a.frames.length
  · have hadd:IntKind.i64.wrap ((i:Int)+1)=((i+1:Nat):Int):=by rw [i64w (by omega)]; rfl
    have y1:H' (nx+1)=some (.row 9 a.avs):=by rw [hk _ (by omega)]; exact x1
    have hci:=h6 a.frames[i] (List.getElem_mem hlt)
    generalize hcc:a.frames[i]=c at *
    have sv:=zady c.vars c.vars hci.1
    have ss:=zady c.stack c.stack hci.2
    rw [decide_eq_true rfl] at sv ss
    have ne_1:nx ≠ nx+1∧nx+1 ≠ nx∧nx ≠ n'∧n' ≠ nx∧nx ≠ n'+1∧n'+1 ≠ nx∧nx+1 ≠ n'∧n' ≠ nx+1∧nx+1 ≠ n'+1∧n'+1 ≠ nx+1:=⟨by omega,by omega,by omega,by omega,by omega,by omega,by omega,by omega,by omega,by omega⟩
    simp [zfd,hlt,y1,e4,al,hcc,Frm.avs,ne_1]
    generalize hY:Heap.put _ (n'+1) _=Y
    have z0:Y n'=some (.row 4 [.int .i64 c.fn,.int .i64 c.at_,.ro (c.vars.map Val.avs),.ro (c.stack.map Val.avs)]):=by rw [← hY,Heap.put_ne _ _ (by omega),Heap.put_at]
    have z1:Y (n'+1)=some (.row 4 [.int .i64 c.fn,.int .i64 c.at_,.ro (c.vars.map Val.avs),.ro (c.stack.map Val.avs)]):=by rw [← hY,Heap.put_at]
    refine QC.call sv ?_
    simp [zjo,z0,z1]
    refine QC.call ss ?_
    simp [zjp,hadd]
    refine ⟨a.frames.length - (i+1),by omega,i+1,rfl,by omega,rfl,fun g hg => ?_,by omega⟩
    rw [← hY,Heap.put_ne _ _ (by omega),Heap.put_ne _ _ (by omega)]; exact hk g hg
  · have hge:¬ (i:Int) < a.frames.length:=by omega
    simp [zfd,hge]
    exact hQ _ _ fun g hg=>(hk g (by omega)).trans (xk g hg)
end Go.Proofs.YtdmibdjokofclaaDoor
set_option maxRecDepth 8000
namespace Go.Proofs.YtdmibdjokofclaaDoor
open Go Go.RowKit
theorem zajd {a b:Agt} {fs:List Frm} {f:Frm} (l:VM.Live a fs f) (ft:Fits a.prog b):QC Tryd.prog 17 [.agg b.avs,.agg b.avs] (.bool true):=by
  obtain ⟨c1,c2,c3⟩:=Live.codes l
  obtain ⟨h1,h2,h3,h4⟩:=ft
  refine zaea b (by rw [h1]; omega) (by rw [h1]; omega) (fun c hc=>by rw [h1] at hc; have:=c3 c hc; omega) (by omega) (by omega) fun g hg=>by have:=h4 g hg; omega
end Go.Proofs.YtdmibdjokofclaaDoor
set_option maxRecDepth 8000
namespace Go.Proofs.YtdmibdjokofclaaDoor
open Go Go.RowKit
def zaf (l:List Int):List AV:=l.map (AV.int .i64)
section
variable {k:AV→Prop} {ki:IntKind}
@[simp ↓] theorem zauy {s g off len:Nat} {a:Int} {H:Heap}:SL s (.slc g off len) (some (.int ki a)) none H k=ROWK (H g) fun sz _=>sz=s∧0≤a∧a≤len∧k (.slc g (off+a.toNat*s) ((len:Int) - a).toNat):=by
  simp only [SL,zbc,lohi,qk]
  refine zfz (fun sz cs h => ?_) fun h => ?_
  · simp [h]
  · intro ha
    split at ha
    · rename_i sz cs he; exact h _ _ he
    · exact ha
end
theorem zajz (n i:Nat) (h:i < n):List.take i (zaf (List.replicate i (-1) ++ List.replicate (n - i) 0)) ++ AV.int .i64 (-1) :: List.drop (i+1) (zaf (List.replicate i (-1) ++ List.replicate (n - i) 0))=zaf (List.replicate (i+1) (-1) ++ List.replicate (n - (i+1)) 0):=by
  have e:n - i=(n - (i+1))+1:=by omega
  rw [e,List.replicate_succ,List.replicate_succ']
  simp [zaf,List.take_append,List.drop_append]
theorem zjf (l:List Int) (i:Nat):(zaf l)[i]? = (l[i]?).map (AV.int .i64):=by simp [zaf]
theorem zaiu (l:List Int) (i:Nat) (x:Int) (h:i < l.length):List.take i (zaf l) ++ AV.int .i64 x :: List.drop (i+1) (zaf l)=zaf (l.set i x):=by
  rw [zaf,zaf,List.map_set,List.set_eq_take_append_cons_drop]; simp [h]
@[simp] theorem zasa (l:List Int):(zaf l).length=l.length:=by simp [zaf]
theorem zago (l:List Int):(l.map fun n=>[AV.int .i64 n]).flatten=zaf l:=by
  induction l with
  | nil=>rfl
  | cons x r ih=>simp [zaf] at ih ⊢; exact ih
end Go.Proofs.YtdmibdjokofclaaDoor
set_option maxRecDepth 8000
namespace Go.Proofs.YtdmibdjokofclaaDoor
open Go Go.RowKit
theorem app1 {g len s:Nat} {x:Int} {H:Heap} {kk:AV→Heap→Nat→Prop} {A:List Int} (hg:H g=some (.row 1 (zaf A))) (hl:A.length=len) (hgs:g ≠ s) (hb:len≤4194304)
    (hk:∀ H',H' (s+1)=some (.row 1 (zaf (A ++ [x])))→(∀ y,y ≠ g→y ≠ s→y ≠ s+1→H' y=H y)→kk (.slc (s+1) 0 (len+1)) H' (s+1+1)) :
    APP 1 8 (.slc g 0 len) (.slc s 0 1) (H.put s (some (.row 1 [.int .i64 x]))) (s+1) kk:=by
  simp [hgs,hg]
  refine ⟨by omega,by omega,hk _ ?_ ?_⟩
  · simp [hl,zaf]
    rw [List.take_of_length_le (by simp; omega)]
  · intro y h1 h2 h3
    simp [h1,h2,h3]
theorem app2 {ga gb la s:Nat} {x y:Int} {H:Heap} {kk:AV→AV→Heap→Nat→Prop} {A B:List Int} (hga:H ga=some (.row 1 (zaf A))) (hgb:H gb=some (.row 1 (zaf B))) (hA:A.length=la) (hB:B.length=la) (hab:ga ≠ gb) (ha:ga < s) (hb:gb < s) (hl:la≤4194304)
    (hk:∀ H',H' (s+1)=some (.row 1 (zaf (A ++ [x])))→H' (s+3)=some (.row 1 (zaf (B ++ [y])))→(∀ z,z ≠ ga→z ≠ gb→z < s→H' z=H z)→kk (.slc (s+1) 0 (la+1)) (.slc (s+3) 0 (la+1)) H' (s+4)) :
    APP 1 8 (.slc ga 0 la) (.slc s 0 1) (H.put s (some (.row 1 [.int .i64 x]))) (s+1) fun v H' n=>APP 1 8 (.slc gb 0 la) (.slc n 0 1) (H'.put n (some (.row 1 [.int .i64 y]))) (n+1) fun w H'' n'=>kk v w H'' n':=by
  refine app1 hga hA (by omega) hl fun H1 h1 h2 => ?_
  refine app1 (A:=B) (by rw [h2 gb (by omega) (by omega) (by omega)]; exact hgb) hB (by omega) hl fun H3 h3 h4 => ?_
  refine hk H3 ?_ h3 fun z p q r => ?_
  · rw [h4 _ (by omega) (by omega) (by omega)]; exact h1
  · rw [h4 _ (by omega) (by omega) (by omega),h2 _ (by omega) (by omega) (by omega)]
def RInv (c:Cod) (H0:Heap) (n0:Nat) (f:Nat) (xs:List AV) (H:Heap) (nx:Nat):Prop:=∃ (q:List (Int×Int)) (out A B:List Int) (ga gb k la:Nat),
  xs=[.ptr n0 0,.slc (n0+1) 0 c.ins.length,.slc ga 0 la,.slc gb 0 la,.int .i64 k]∧A.length=la∧B.length=la∧H ga=some (.row 1 (zaf A))∧H gb=some (.row 1 (zaf B))∧A.drop k=q.map (·.1)∧B.drop k=q.map (·.2)∧k≤la ∧
  n0+1 < ga∧n0+1 < gb∧ga ≠ gb∧ga < nx∧gb < nx∧k+f=2*c.ins.length+2 ∧
  H n0=some (.row 3 c.avs)∧H (n0+1)=some (.row 1 (zaf out))∧out.length=c.ins.length∧Keep n0 H H0 ∧
  VM.heightsGo c.ins f q out=VM.heights c.ins∧q.length+2*zly out < f∧(∀ x∈q,0≤x.2∧x.2≤16)∧(∀ x∈out,-1≤x∧x≤16)
set_option maxHeartbeats 4000000 in
theorem zxj (c:Cod) (hlen:c.ins.length≤1048576) (hcalm:Calm c.ins) :
    QC Tryd.prog 25 [.agg c.avs] (.tup [.ro ((VM.heights c.ins).1.map fun n=>[.int .i64 n]),.int .i64 (VM.heights c.ins).2]):=by
  refine QC.of' fun H nx=>zqt _ H nx _ ?_
  simp [zlk,Cod.avs]
  refine ⟨by omega,by omega,?_⟩
  refine LP.mk (fun m xs H' nx'=>∃ i:Nat,i≤c.ins.length∧m=c.ins.length - i∧xs=[.ptr nx 0,.slc (nx+1) 0 c.ins.length,.int .i64 c.ins.length,.int .i64 i]∧nx'=nx+2 ∧
    H'=(H.put nx (some (.row 3 c.avs))).put (nx+1) (some (.row 1 (zaf (List.replicate i (-1) ++ List.replicate (c.ins.length - i) 0))))) c.ins.length
    ⟨0,by omega,by omega,by simp,rfl,by simp [zaf,Cod.avs]⟩ ?_
  rintro m xs H' nx' ⟨i,hi,rfl,rfl,rfl,rfl⟩
  simp [zll]
  refine ⟨fun h => ?_,fun h => ?_⟩
  · refine ⟨h,by omega,?_⟩
    rw [i64w (by omega)]
    refine ⟨c.ins.length - (i+1),by omega,i+1,by omega,rfl,by simp,?_⟩
    rw [zajz _ _ h]
  obtain rfl:i=c.ins.length:=by omega
  refine LP.mk (RInv c H nx) (2*c.ins.length+2) ⟨[(0,0)],List.replicate c.ins.length (-1),[0],[0],nx+2,nx+3,0,1,by simp,rfl,rfl,by simp [zaf],by simp [zaf],rfl,rfl,by omega,by omega,by omega,by omega,by omega,by omega,by omega,by simp; omega,by simp,by simp,?_,rfl,?_,?_,?_⟩ ?_
  · rw [Keep.put (by omega),Keep.put (by omega),Keep.put (by omega),Keep.put (by omega)]; simp
  · unfold zly; simp [List.countP_replicate]; omega
  · intro x hx; simp at hx; subst hx; simp
  · intro x hx; have:=List.eq_of_mem_replicate hx; omega
  rintro f xs H1 n1 ⟨q,out,A,B,ga,gb,k,la,rfl,hAl,hBl,hga,hgb,hA,hB,hk,g1,g2,g3,g4,g5,hkf,hb,ho,hol,hK,hgo,hmeas,hq,hout⟩
  cases f with
  | zero=>simp at hmeas
  | succ f =>
  cases q with
  | nil =>
    have hkl:la≤k:=by have:=congrArg List.length hA; simp at this; omega
    have e:VM.heights c.ins=(out,0):=by rw [← hgo]; rfl
    have:¬ k < la:=by omega
    simp [zbh,this,e]
    refine ⟨Frz.row (sz:=1) (cells:=zaf out) (by omega) ho (by simp [hol]) (by simp) (zago out) ?_,hK⟩
    intro x hx; simp [zaf] at hx; obtain ⟨a,_,rfl⟩:=hx; exact .int _ _
  | cons x q =>
    obtain ⟨at_,h⟩:=x
    have hkl:k < la:=by have:=congrArg List.length hA; simp at this; omega
    have hA0:A[k]? = some at_:=by have:=congrArg (·[0]?) hA; simpa using this
    have hB0:B[k]? = some h:=by have:=congrArg (·[0]?) hB; simpa using this
    have hA1:A.drop (k+1)=q.map (·.1):=by have:=congrArg (List.drop 1) hA; simpa using this
    have hB1:B.drop (k+1)=q.map (·.2):=by have:=congrArg (List.drop 1) hB; simpa using this
    have hh:=hq (at_,h) (by simp)
    simp only at hh
    have hq':∀ x∈q,0≤x.2∧x.2≤16:=fun x hx=>hq x (by simp [hx])
    have hlaq:la=k+1+q.length:=by have:=congrArg List.length hA; simp at this; omega
    simp only [List.length_cons] at hmeas
    simp only [VM.heightsGo] at hgo
    have w0:IntKind.i64.wrap ((k:Int)+1)=((k+1:Nat):Int):=by rw [i64w (by omega)]; simp
    by_cases hr:0≤at_∧at_ < c.ins.length
    case neg =>
      have e:(if 0≤at_ then c.ins[at_.toNat]? else none)=none:=by
        split
        · exact List.getElem?_eq_none (by omega)
        · rfl
      rw [e] at hgo
      simp only at hgo
      rw [← hgo]
      by_cases h0:at_ < 0
      · simp [zbh,hkl,hga,hgb,zjf,hA0,hB0,h0,hK]
      · have:(c.ins.length:Int)≤at_:=by omega
        simp [zbh,hkl,hga,hgb,zjf,hA0,hB0,h0,this,hK]
    case pos =>
    obtain ⟨hr0,hr1⟩:=hr
    have hlt:at_.toNat < c.ins.length:=by omega
    obtain ⟨i,hi⟩:∃ i,c.ins[at_.toNat]? = some i:=⟨_,List.getElem?_eq_getElem hlt⟩
    obtain ⟨o,ho'⟩:∃ o,out[at_.toNat]? = some o:=⟨_,List.getElem?_eq_getElem (by omega)⟩
    have hod:out.getD at_.toNat 0=o:=by simp [List.getD_eq_getElem?_getD,ho']
    rw [if_pos hr0,hi,hod] at hgo
    simp only at hgo
    by_cases hs:0≤o
    · rw [if_pos hs] at hgo
      by_cases hne:o=h
      · subst hne
        rw [if_neg (by simp)] at hgo
        simp [zbh,hkl,hga,hgb,zjf,hA0,hB0,ho,hr0,hr1,ho',hs,Int.not_lt.2 hr0,Int.not_le.2 hr1,w0,Int.not_lt.2 hs]
        exact ⟨f,by omega,q,out,A,B,ga,gb,k+1,la,rfl,hAl,hBl,hga,hgb,hA1,hB1,by omega,g1,g2,g3,g4,g5,by omega,hb,ho,hol,hK,hgo,by omega,hq',hout⟩
      · rw [if_pos hne] at hgo
        rw [← hgo]
        simp [zbh,hkl,hga,hgb,zjf,hA0,hB0,ho,hr0,hr1,ho',hs,hne,Int.not_lt.2 hr0,Int.not_le.2 hr1,hK]
    rw [if_neg hs] at hgo
    have hbd:=zhz i (hcalm i (List.mem_of_getElem? hi))
    have n1':ga ≠ nx:=by omega
    have n2':ga ≠ nx+1:=by omega
    have n3':ga ≠ n1:=by omega
    have n4':nx ≠ n1:=by omega
    have n5':nx+1 ≠ n1:=by omega
    have m2':gb ≠ nx+1:=by omega
    have m3':gb ≠ n1:=by omega
    have hns:o < 0:=by omega
    obtain ⟨_,hi'⟩:=List.getElem?_eq_some_iff.1 hi
    simp [zbh,hkl,hga,hgb,zjf,hA0,hB0,ho,hb,hr0,hr1,ho',hs,hns,hi',Cod.avs,Ins.avs,Int.not_lt.2 hr0,Int.not_le.2 hr1]
    refine ⟨by omega,QC.call (zadx i) ?_⟩
    rw [zaiu _ _ _ (by omega)]
    have h2a:((H1.put (nx+1) (some (.row 1 (zaf (out.set at_.toNat h))))).put n1 (some (.row 3 [.int .i64 i.op,.int .i64 i.a,.int .i64 i.b]))) ga=some (.row 1 (zaf A)):=by simp [n2',n3',hga]
    have h2c:((H1.put (nx+1) (some (.row 1 (zaf (out.set at_.toNat h))))).put n1 (some (.row 3 [.int .i64 i.op,.int .i64 i.a,.int .i64 i.b]))) gb=some (.row 1 (zaf B)):=by simp [m2',m3',hgb]
    have h2b:((H1.put (nx+1) (some (.row 1 (zaf (out.set at_.toNat h))))).put n1 (some (.row 3 [.int .i64 i.op,.int .i64 i.a,.int .i64 i.b]))) nx=some (.row 3 c.avs):=by simp [n4',hb]
    have h2o:((H1.put (nx+1) (some (.row 1 (zaf (out.set at_.toNat h))))).put n1 (some (.row 3 [.int .i64 i.op,.int .i64 i.a,.int .i64 i.b]))) (nx+1)=some (.row 1 (zaf (out.set at_.toNat h))):=by simp [n5']
    have h2n:((H1.put (nx+1) (some (.row 1 (zaf (out.set at_.toNat h))))).put n1 (some (.row 3 [.int .i64 i.op,.int .i64 i.a,.int .i64 i.b]))) n1=some (.row 3 [.int .i64 i.op,.int .i64 i.a,.int .i64 i.b]):=by simp
    have h2K:Keep nx ((H1.put (nx+1) (some (.row 1 (zaf (out.set at_.toNat h))))).put n1 (some (.row 3 [.int .i64 i.op,.int .i64 i.a,.int .i64 i.b]))) H:=by rw [Keep.put (by omega),Keep.put (by omega)]; exact hK
    generalize ((H1.put (nx+1) (some (.row 1 (zaf (out.set at_.toNat h))))).put n1 (some (.row 3 [.int .i64 i.op,.int .i64 i.a,.int .i64 i.b])))=H2 at *
    have hu:=zuh (out:=out) (k:=at_.toNat) (h:=h) (by omega) (by omega) hh.1
    generalize hE:VM.effect i=E at *
    obtain ⟨nd,gv⟩:=E
    simp only at hbd hgo
    have w1:IntKind.i64.wrap (h - nd)=h - nd:=i64w (by omega)
    have w2:IntKind.i64.wrap (h - nd+gv)=h - nd+gv:=i64w (by omega)
    have w3:IntKind.i64.wrap (at_+1)=at_+1:=i64w (by omega)
    by_cases hc1:h < nd∨(i.op=18∧h ≠ 1)
    · rw [if_pos hc1] at hgo
      rw [← hgo]
      by_cases hc2:h < nd
      · simp [zas,hc2,h2K]
      · have h18:i.op=18:=by omega
        have hnd:nd=1:=by simp [VM.effect,h18] at hE; omega
        have h1:1 < h:=by omega
        simp [zas,hc2,h2n,h18,h1,h2K]
    rw [if_neg hc1] at hgo
    have hc2:¬ h < nd:=by omega
    have hc2':nd≤h:=by omega
    by_cases hc3:16 < h+gv - nd
    · rw [if_pos hc3] at hgo
      rw [← hgo]
      have hc3':16 < h - nd+gv:=by omega
      by_cases h18:i.op=18
      · have h1:h=1:=by omega
        subst h1
        simp [zas,hc2,h2n,h18,w1,w2,hc3',h2K]
      · simp [zas,hc2,h2n,h18,w1,w2,hc3',h2K]
    rw [if_neg hc3] at hgo
    have hc4:¬ 16 < h - nd+gv:=by omega
    have e4:h+gv - nd=h - nd+gv:=by omega
    rw [e4] at hgo
    have fin:∀ (l:List (Int×Int)) (ga' gb':Nat) (H3:Heap) (n3:Nat),VM.heightsGo c.ins f (q ++ l) (out.set at_.toNat h)=VM.heights c.ins→l.length≤2→(∀ x∈l,0≤x.2∧x.2≤16) →
        H3 ga'=some (.row 1 (zaf (A ++ l.map (·.1))))→H3 gb'=some (.row 1 (zaf (B ++ l.map (·.2))))→nx+1 < ga'→nx+1 < gb'→ga' ≠ gb'→ga' < n3→gb' < n3 →
        H3 nx=H2 nx→H3 (nx+1)=H2 (nx+1)→Keep nx H3 H →
        ∃ m,m < f+1∧RInv c H nx m [.ptr nx 0,.slc (nx+1) 0 c.ins.length,.slc ga' 0 (la+l.length),.slc gb' 0 (la+l.length),.int .i64 ((k+1:Nat):Int)] H3 n3:=by
      intro l ga' gb' H3 n3 p1 p2 p3 p4 p5 p6 p7 p8 p9 p10 p11 p12 p13
      refine ⟨f,by omega,q ++ l,_,A ++ l.map (·.1),B ++ l.map (·.2),ga',gb',k+1,la+l.length,rfl,by simp [hAl],by simp [hBl],p4,p5,?_,?_,by omega,p6,p7,p8,p9,p10,by omega,p11.trans h2b,p12.trans h2o,by simpa using hol,p13,p1,by simp; omega,fun x hx => ?_,fun x hx => ?_⟩
      · rw [List.drop_append_of_le_length (by omega),hA1]; simp
      · rw [List.drop_append_of_le_length (by omega),hB1]; simp
      · rcases List.mem_append.1 hx with hx | hx
        · exact hq' x hx
        · exact p3 x hx
      · rcases List.mem_or_eq_of_mem_set hx with h9 | h9
        · exact hout x h9
        · omega
    have hlab:la≤4194000:=by omega
    have kp:∀ H3:Heap,(∀ z,z ≠ ga→z ≠ gb→z < n1+1→H3 z=H2 z)→Keep nx H3 H:=fun H3 h3 g hg=>(h3 g (by omega) (by omega) (by omega)).trans (h2K g hg)
    by_cases h15:i.op=15
    · simp [zas,hc2,hc2',h2n,h15,w0,w1,w2,w3,hc4,-zib]
      refine app2 h2a h2c hAl hBl g3 (by omega) (by omega) (by omega) fun H3 q1 q2 q3 => ?_
      exact fin [(i.a,h - nd+gv)] _ _ _ _ (by simpa [h15] using hgo) (by simp) (by simp; omega) (by simpa using q1) (by simpa using q2) (by omega) (by omega) (by omega) (by omega) (by omega) (q3 _ (by omega) (by omega) (by omega)) (q3 _ (by omega) (by omega) (by omega)) (kp _ q3)
    by_cases h18:i.op=18
    · have h1:h=1:=by omega
      subst h1
      simp [zas,hc2,hc2',h2n,h18,w1,w2,w3,w0,hc4,-zib]
      have:=fin [] ga gb H2 (n1+1) (by simpa [h15,h18] using hgo) (by simp) (by simp) (by simpa using h2a) (by simpa using h2c) (by omega) (by omega) (by omega) (by omega) (by omega) rfl rfl h2K
      exact this
    by_cases h16:i.op=16
    · simp [zas,hc2,hc2',h2n,h16,w0,w1,w2,w3,hc4,-zib]
      refine app2 h2a h2c hAl hBl g3 (by omega) (by omega) (by omega) fun H3 q1 q2 q3 => ?_
      have hn3:H3 n1=some (.row 3 [.int .i64 16,.int .i64 i.a,.int .i64 i.b]):=by rw [q3 _ (by omega) (by omega) (by omega),h2n,h16]
      simp [hn3,-zib]
      refine app2 q1 q2 (by simp [hAl]) (by simp [hBl]) (by omega) (by omega) (by omega) (by omega) fun H4 r1 r2 r3 => ?_
      have q4:∀ z,z ≠ ga→z ≠ gb→z < n1+1→H4 z=H2 z:=fun z z1 z2 z3=>(r3 z (by omega) (by omega) (by omega)).trans (q3 z z1 z2 z3)
      exact fin [(at_+1,h - nd+gv),(i.a,h - nd+gv)] _ _ _ _ (by simpa [h15,h16,h18] using hgo) (by simp) (by simp; omega) (by simpa using r1) (by simpa using r2) (by omega) (by omega) (by omega) (by omega) (by omega) (q4 _ (by omega) (by omega) (by omega)) (q4 _ (by omega) (by omega) (by omega)) (kp _ q4)
    · simp [zas,hc2,hc2',h2n,h15,h16,h18,w0,w1,w2,w3,hc4,-zib]
      refine app2 h2a h2c hAl hBl g3 (by omega) (by omega) (by omega) fun H3 q1 q2 q3 => ?_
      have hn3:H3 n1=some (.row 3 [.int .i64 i.op,.int .i64 i.a,.int .i64 i.b]):=by rw [q3 _ (by omega) (by omega) (by omega),h2n]
      simp [hn3,h15,h16,-zib]
      exact fin [(at_+1,h - nd+gv)] _ _ _ _ (by simpa [h15,h16,h18] using hgo) (by simp) (by simp; omega) (by simpa using q1) (by simpa using q2) (by omega) (by omega) (by omega) (by omega) (by omega) (q3 _ (by omega) (by omega) (by omega)) (q3 _ (by omega) (by omega) (by omega)) (kp _ q3)
end Go.Proofs.YtdmibdjokofclaaDoor
set_option maxRecDepth 8000
namespace Go.Proofs.YtdmibdjokofclaaDoor
open Go Go.RowKit
def lm (p:Prg) (c:Cod) (i:Ins):Int×Int :=
  if i.op=1 then (-1073741824,1073741824) else if i.op=2 then (0,p.words.length - 1) else if i.op=3 then (0,c.vars - 1) else if i.op=4 then (0,c.vars - 1) else if i.op=5 then (1,5)
  else if i.op=15 then (0,c.ins.length - 1) else if i.op=16 then (0,c.ins.length - 1) else if i.op=17 then (0,p.codes.length - 1) else (0,0)
theorem zahz (p:Prg) (c:Cod) (i:Ins) (h1:1≤i.op) (h2:i.op≤19):VM.numbers p c i=if i.a < (lm p c i).1∨(lm p c i).2 < i.a∨(i.op=17∧some i.b ≠ (p.codes[i.a.toNat]?).map (·.params))∨(i.op ≠ 17∧i.b ≠ 0) then 3 else 0:=by
  unfold VM.numbers
  rw [if_neg (by omega)]
  have : (VM.numOk p c i=false∨(i.op ≠ 17∧i.b ≠ 0))↔(i.a < (lm p c i).1∨(lm p c i).2 < i.a∨(i.op=17∧some i.b ≠ (p.codes[i.a.toNat]?).map (·.params))∨(i.op ≠ 17∧i.b ≠ 0)):=by
    unfold VM.numOk lm VM.isIn
    by_cases h17:i.op=17
    · simp [h17]
      by_cases hb:some i.b=(p.codes[i.a.toNat]?).map (·.params)
      · simp [hb]; omega
      · simp [hb]
    · simp only [h17,if_false]
      (repeat' split) <;> simp_all <;> omega
  by_cases hq:VM.numOk p c i=false∨(i.op ≠ 17∧i.b ≠ 0)
  · rw [if_pos hq,if_pos (this.1 hq)]
  · rw [if_neg hq,if_neg (fun h=>hq (this.2 h))]
set_option maxHeartbeats 4000000 in
theorem zxg (p:Prg) (hp:p.ok):QC Tryd.prog 10 [.agg p.avs] (.int .i64 (VM.program p)):=by
  refine QC.of' fun H nx=>zqs _ H nx _ ?_
  simp [zlg,Prg.avs]
  have hb0:(H.put nx (some (.row 2 [.ro (p.codes.map Cod.avs),.ro (p.words.map fun w=>[.str w])]))) nx=some (.row 2 p.avs):=by simp [Prg.avs]
  have hK0:Keep nx (H.put nx (some (.row 2 [.ro (p.codes.map Cod.avs),.ro (p.words.map fun w=>[.str w])]))) H:=by simp
  generalize (H.put nx (some (.row 2 [.ro (p.codes.map Cod.avs),.ro (p.words.map fun w=>[.str w])])))=H1 at *
  refine ⟨fun h1=>by unfold VM.program; rw [if_pos (by rw [h1]; simp)],fun h1 => ?_⟩
  have hpos:0 < p.codes.length:=List.length_pos_iff.2 h1
  refine ⟨fun h2=>by unfold VM.program; rw [if_pos (by omega)],fun h2=>⟨fun h3=>by unfold VM.program; rw [if_neg (by omega),if_pos (by omega)],fun h3 => ?_⟩⟩
  have e0:VM.program p=if p.words.all VM.word=false then 7 else if (p.codes.getD 0 ⟨0,0,[]⟩).params ≠ 0 then 10 else if p.codes.any VM.codeRange then 3 else VM.firstErr (VM.codeErr p) p.codes:=by
    unfold VM.program; rw [if_neg (by omega),if_neg (by omega)]
  obtain ⟨c0,hc0⟩:∃ c0,p.codes[0]? = some c0:=⟨p.codes[0]'(by omega),List.getElem?_eq_getElem _⟩
  refine LP.mk (fun m xs H' nx'=>∃ i:Nat,i≤p.words.length∧m=p.words.length - i∧xs=[.ptr nx 0,.ro (p.words.map fun w=>[.str w]),.int .i64 p.words.length,.int .i64 i]∧H1=H'∧nx+1=nx'∧p.words.all VM.word=(p.words.drop i).all VM.word) p.words.length
    ⟨0,by omega,by omega,by simp,rfl,rfl,rfl⟩ ?_
  rintro m xs H' nx' ⟨i,hi,rfl,rfl,rfl,rfl,hall⟩
  by_cases hlt:i < p.words.length
  · obtain ⟨w,hw⟩:∃ w,p.words[i]? = some w:=⟨_,List.getElem?_eq_getElem hlt⟩
    obtain ⟨_,hw'⟩:=List.getElem?_eq_some_iff.1 hw
    rw [zanw _ _ _ _ hw] at hall
    simp [zge,hlt,hw']
    refine QC.call (zald w (hp w (List.mem_of_getElem? hw))) ?_
    simp [zli]
    cases hx:VM.word w
    · rw [hx] at hall
      simp [hK0]
      rw [e0,hall]; rfl
    · rw [hx] at hall
      simp
      rw [i64w (by omega)]
      exact ⟨p.words.length - (i+1),by omega,i+1,by omega,rfl,rfl,by simpa using hall⟩
  obtain rfl:i=p.words.length:=by omega
  have hall':p.words.all VM.word=true:=by rw [hall]; simp
  rw [hall'] at e0
  simp only [Bool.true_eq_false,if_false] at e0
  obtain ⟨_,hc0'⟩:=List.getElem?_eq_some_iff.1 hc0
  have h01:0 < p.codes.length:=by omega
  simp [zge,hb0,Prg.avs,hc0',Cod.avs,h01]
  have hcg:p.codes.getD 0 ⟨0,0,[]⟩=c0:=by simp [List.getD_eq_getElem?_getD,hc0]
  rw [hcg] at e0
  refine ⟨fun h4=>⟨by rw [e0,if_pos h4],hK0⟩,fun h4 => ?_⟩
  rw [if_neg (by simpa using h4)] at e0
  refine LP.mk (fun m xs H' nx'=>∃ i:Nat,i≤p.codes.length∧m=p.codes.length - i∧xs=[.ptr nx 0,.ro (p.codes.map Cod.avs),.int .i64 p.codes.length,.int .i64 i]∧H' nx=some (.row 2 p.avs)∧Keep nx H' H∧nx < nx'∧p.codes.any VM.codeRange=(p.codes.drop i).any VM.codeRange) p.codes.length
    ⟨0,by omega,by omega,by simp,hb0,hK0,by omega,rfl⟩ ?_
  rintro m xs H2 n2 ⟨i,hi,rfl,rfl,hb2,hK2,hn2,hany⟩
  have hne2:nx ≠ n2:=by omega
  by_cases hlt:i < p.codes.length
  · obtain ⟨c,hc⟩:∃ c,p.codes[i]? = some c:=⟨_,List.getElem?_eq_getElem hlt⟩
    obtain ⟨_,hc'⟩:=List.getElem?_eq_some_iff.1 hc
    rw [zanv _ _ _ _ hc] at hany
    have hK3:Keep nx (H2.put n2 (some (.row 3 [.int .i64 c.params,.int .i64 c.vars,.ro (c.ins.map Ins.avs)]))) H:=by rw [Keep.put (by omega)]; exact hK2
    simp [zgf,hlt,hc',Cod.avs,hK3]
    have w0:IntKind.i64.wrap ((i:Int)+1)=(i:Int)+1:=i64w (by omega)
    rw [w0]
    cases hx:VM.codeRange c
    · have hx':=hx
      unfold VM.codeRange at hx'
      rw [decide_eq_false_iff_not] at hx'
      rw [hx] at hany
      refine ⟨fun _=>by omega,fun _=>⟨fun _=>by omega,fun _=>⟨fun _=>by omega,fun _=>⟨fun _=>by omega,fun _=>⟨fun he => ?_,fun _=>⟨fun _=>by omega,fun _ => ?_⟩⟩⟩⟩⟩⟩
      · exfalso; rw [he] at hx'; simp at hx'
      · exact ⟨p.codes.length - (i+1),by omega,i+1,by omega,rfl,rfl,by rw [if_neg hne2,if_neg hne2]; exact hb2,by omega,by simpa using hany⟩
    · have hx':=hx
      unfold VM.codeRange at hx'
      rw [decide_eq_true_eq] at hx'
      rw [hx,Bool.true_or] at hany
      rw [hany] at e0
      simp only [if_true] at e0
      rw [e0]
      simp only [← List.length_eq_zero_iff]
      repeat' first | apply And.intro | intro _
      all_goals first | rfl | trivial | (exfalso; omega)
  obtain rfl:i=p.codes.length:=by omega
  have hany':p.codes.any VM.codeRange=false:=by rw [hany]; simp
  rw [hany'] at e0
  simp only [Bool.false_eq_true,if_false] at e0
  simp [zgf,hb2,Prg.avs]
  have hr:∀ x∈p.codes,VM.codeRange x=false:=by simpa using hany'
  clear hany hany' hall hall' hlt hi
  refine LP.mk (fun m xs H' nx'=>∃ i:Nat,i≤p.codes.length∧m=p.codes.length - i∧xs=[.ptr nx 0,.ro (p.codes.map Cod.avs),.int .i64 p.codes.length,.int .i64 i]∧H' nx=some (.row 2 p.avs)∧Keep nx H' H∧nx < nx'∧VM.program p=VM.firstErr (VM.codeErr p) (p.codes.drop i)) p.codes.length
    ⟨0,by omega,by omega,by simp,hb2,hK2,by omega,by simpa using e0⟩ ?_
  clear hb2 hK2 hn2 hne2
  clear H2 n2
  rintro m xs H2 n2 ⟨k,hk,rfl,rfl,hb2,hK2,hn2,hfe⟩
  by_cases hlt:k < p.codes.length
  case neg =>
    obtain rfl:k=p.codes.length:=by omega
    simp [zgg,hK2]
    rw [hfe]; simp [VM.firstErr]
  obtain ⟨c,hc⟩:∃ c,p.codes[k]? = some c:=⟨_,List.getElem?_eq_getElem hlt⟩
  obtain ⟨_,hc'⟩:=List.getElem?_eq_some_iff.1 hc
  have hcr:=hr c (List.mem_of_getElem? hc)
  have hlen:c.ins.length≤200:=by
    unfold VM.codeRange at hcr
    rw [decide_eq_false_iff_not] at hcr
    omega
  have hvars:0≤c.vars∧c.vars≤8:=by
    unfold VM.codeRange at hcr
    rw [decide_eq_false_iff_not] at hcr
    omega
  rw [zew _ _ _ _ hc] at hfe
  have hne2:nx ≠ n2:=by omega
  simp [zgg,hb2,Prg.avs,hlt,hc',Cod.avs]
  refine LP.mk (fun m xs H' nx'=>∃ j:Nat,j≤c.ins.length∧m=c.ins.length - j∧xs=[.ptr nx 0,.ptr n2 0,.ro (p.codes.map Cod.avs),.int .i64 p.codes.length,.int .i64 k,.ro (c.ins.map Ins.avs),.int .i64 c.ins.length,.int .i64 j]∧H' nx=some (.row 2 p.avs)∧H' n2=some (.row 3 c.avs)∧Keep nx H' H∧n2 < nx'∧VM.firstErr (VM.numbers p c) c.ins=VM.firstErr (VM.numbers p c) (c.ins.drop j)) c.ins.length
    ⟨0,by omega,by omega,by simp,by rw [Heap.put_ne _ _ hne2]; exact hb2,by rw [Heap.put_at]; rfl,by rw [Keep.put (by omega)]; exact hK2,by omega,by simp⟩ ?_
  rintro m xs H3 n3 ⟨j,hj,rfl,rfl,hb3,hc3,hK3,hn3,hfj⟩
  have hne:nx ≠ n3:=by omega
  have hne':n2 ≠ n3:=by omega
  by_cases hjl:j < c.ins.length
  · obtain ⟨i,hi⟩:∃ i,c.ins[j]? = some i:=⟨_,List.getElem?_eq_getElem hjl⟩
    obtain ⟨_,hi'⟩:=List.getElem?_eq_some_iff.1 hi
    rw [zew _ _ _ _ hi] at hfj
    have hK4:Keep nx (H3.put n3 (some (.row 3 [.int .i64 i.op,.int .i64 i.a,.int .i64 i.b]))) H:=by rw [Keep.put (by omega)]; exact hK3
    have hb4:(H3.put n3 (some (.row 3 [.int .i64 i.op,.int .i64 i.a,.int .i64 i.b]))) nx=some (.row 2 p.avs):=by rw [Heap.put_ne _ _ hne]; exact hb3
    have hc4:(H3.put n3 (some (.row 3 [.int .i64 i.op,.int .i64 i.a,.int .i64 i.b]))) n2=some (.row 3 c.avs):=by rw [Heap.put_ne _ _ hne']; exact hc3
    have hi4:(H3.put n3 (some (.row 3 [.int .i64 i.op,.int .i64 i.a,.int .i64 i.b]))) n3=some (.row 3 [.int .i64 i.op,.int .i64 i.a,.int .i64 i.b]):=by rw [Heap.put_at]
    simp [zgh,hjl,hi',Ins.avs]
    generalize (H3.put n3 (some (.row 3 [.int .i64 i.op,.int .i64 i.a,.int .i64 i.b])))=H4 at *
    have hbad:VM.numbers p c i ≠ 0→VM.program p=VM.numbers p c i:=by
      intro hz
      rw [if_pos hz] at hfj
      have:VM.codeErr p c=VM.numbers p c i:=by unfold VM.codeErr; rw [hfj,if_pos hz]
      rw [hfe,this,if_pos hz]
    refine ⟨fun ho => ?_,fun ho1=>⟨fun ho => ?_,fun ho2 => ?_⟩⟩
    · have e:VM.numbers p c i=1:=by unfold VM.numbers; rw [if_pos (by omega)]
      exact ⟨by rw [hbad (by omega),e],hK4⟩
    · have e:VM.numbers p c i=1:=by unfold VM.numbers; rw [if_pos (by omega)]
      exact ⟨by rw [hbad (by omega),e],hK4⟩
    refine JN.cut (fun xs H' nx'=>xs=[.ptr nx 0,.ptr n2 0,.ptr n3 0,.int .i64 (lm p c i).1,.int .i64 (lm p c i).2,.ro (p.codes.map Cod.avs),.int .i64 p.codes.length,.int .i64 k,.ro (c.ins.map Ins.avs),.int .i64 c.ins.length,.int .i64 j]∧H4=H'∧n3+1=nx') ?_ ?_
    · rintro xs H' nx' ⟨rfl,rfl,rfl⟩
      have hnl:=zahz p c i ho1 ho2
      have hgo:VM.numbers p c i=0→∃ m,m < c.ins.length - j∧∃ j',j'≤c.ins.length∧m=c.ins.length - j'∧(j:Int)+1=j'∧H4 nx=some (.row 2 p.avs)∧H4 n2=some (.row 3 c.avs)∧Keep nx H4 H∧n2 < n3+1∧VM.firstErr (VM.numbers p c) c.ins=VM.firstErr (VM.numbers p c) (List.drop j' c.ins):=by
        intro hz
        rw [if_neg (by simpa using hz)] at hfj
        exact ⟨c.ins.length - (j+1),by omega,j+1,by omega,rfl,rfl,hb4,hc4,hK4,by omega,hfj⟩
      have w0:IntKind.i64.wrap ((j:Int)+1)=(j:Int)+1:=i64w (by omega)
      have hbad3:VM.numbers p c i=3→VM.program p=3:=fun hz=>by rw [hbad (by omega),hz]
      by_cases h17:i.op=17
      · have hl1:(lm p c i).1=0:=by simp [lm,h17]
        have hl2:(lm p c i).2=(p.codes.length:Int) - 1:=by simp [lm,h17]
        simp [zgi,hi4,hb4,Prg.avs,w0,h17]
        rw [hl1,hl2] at hnl ⊢
        refine ⟨fun ha=>⟨hbad3 (by rw [hnl,if_pos (.inl ha)]),hK4⟩,fun ha=>⟨fun hb=>⟨hbad3 (by rw [hnl,if_pos (.inr (.inl hb))]),hK4⟩,fun hb=>⟨ha,by omega,zapd (by omega) fun x hx => ?_⟩⟩⟩
        simp [Cod.avs]
        refine ⟨fun hp'=>⟨hbad3 (by rw [hnl,if_pos (.inr (.inr (.inl ⟨h17,by rw [hx]; simpa using hp'⟩)))]),hK4⟩,fun hp' => ?_⟩
        have hz:VM.numbers p c i=0:=by rw [hnl,if_neg (by rw [hx]; simp [hp',h17]; omega)]
        have:=hgo hz
        simpa [hb4,Prg.avs,Cod.avs] using this
      · simp [zgi,hi4,hb4,Prg.avs,w0,h17]
        refine ⟨fun ha=>⟨hbad3 (by rw [hnl,if_pos (.inl ha)]),hK4⟩,fun ha=>⟨fun hb=>⟨hbad3 (by rw [hnl,if_pos (.inr (.inl hb))]),hK4⟩,fun hb=>⟨fun hp'=>⟨hbad3 (by rw [hnl,if_pos (.inr (.inr (.inr ⟨h17,hp'⟩)))]),hK4⟩,fun hp' => ?_⟩⟩⟩
        have hz:VM.numbers p c i=0:=by rw [hnl,if_neg (by simp [hp',h17]; omega)]
        have:=hgo hz
        simpa [hb4,Prg.avs] using this
    · have q1:IntKind.i64.wrap ((p.words.length:Int) - 1)=(p.words.length:Int) - 1:=i64w (by omega)
      have q2:IntKind.i64.wrap (c.vars - 1)=c.vars - 1:=i64w (by omega)
      have q3:IntKind.i64.wrap ((c.ins.length:Int) - 1)=(c.ins.length:Int) - 1:=i64w (by omega)
      have q4:IntKind.i64.wrap ((p.codes.length:Int) - 1)=(p.codes.length:Int) - 1:=i64w (by omega)
      simp [zlj,hb4,hc4,Prg.avs,Cod.avs,q1,q2,q3,q4]
      repeat' first | apply And.intro | intro _
      all_goals simp [lm, *]
  obtain rfl:j=c.ins.length:=by omega
  have hz:VM.firstErr (VM.numbers p c) c.ins=0:=by rw [hfj]; simp [VM.firstErr]
  have hce:VM.codeErr p c=(VM.heights c.ins).2:=by unfold VM.codeErr; rw [if_neg (by simpa using hz)]
  rw [hce] at hfe
  simp [zgh,hb3,hc3,Prg.avs,hlt,hc',Cod.avs]
  refine QC.call (zxj c (by omega) (zahe hr (zbz hz))) ?_
  simp [zlh]
  refine ⟨fun h0=>⟨?_,hK3⟩,fun h0 => ?_⟩
  · rw [if_pos h0] at hfe; exact hfe
  · rw [if_neg (by simpa using h0)] at hfe
    rw [i64w (by omega)]
    exact ⟨p.codes.length - (k+1),by omega,k+1,by omega,rfl,rfl,hb3,hK3,by omega,hfe⟩
end Go.Proofs.YtdmibdjokofclaaDoor
set_option maxRecDepth 8000
namespace Go.Proofs.YtdmibdjokofclaaDoor
open Go Go.RowKit
def fl (l:List Val):List AV:=(l.map Val.avs).flatten
theorem zahc (v:Val) (l:List Val):fl (v :: l)=v.avs ++ fl l:=rfl
theorem zajy (l m:List Val):fl (l ++ m)=fl l ++ fl m:=by simp [fl]
theorem zaew (l:List Val):(fl l).length=l.length*3:=by
  induction l with
  | nil=>rfl
  | cons v r ih=>rw [zahc,List.length_append,ih,zahj,List.length_cons]; omega
theorem zajx (l:List Val):∀ x∈fl l,x.one=true:=by
  intro x hx
  simp [fl] at hx
  obtain ⟨_,⟨v,_,rfl⟩,h⟩:=hx
  unfold Val.avs at h
  simp at h
  rcases h with rfl | rfl | rfl <;> rfl
theorem zarq (l:List Val) (j:Nat) (v:Val) (h:l[j]? = some v):((fl l).drop (j*3)).take 3=v.avs:=by
  induction l generalizing j with
  | nil=>simp at h
  | cons w r ih =>
    cases j with
    | zero=>simp at h; subst h; rfl
    | succ j =>
      rw [zahc,List.drop_append,List.drop_of_length_le (by simp; omega),zahj,show (j+1)*3 - 3=j*3 by omega,List.nil_append]
      exact ih j (by simpa using h)
set_option maxHeartbeats 4000000 in
theorem zxl (a:Agt) (k:Nat) (f:Frm) (hv:Int) (away:Bool) (r1 r2:AV) (H H0:Heap) (nx n0 g b0:Nat) (K:J3) (R:Int) (hg:H g=some (.row 9 a.avs)) (hgn:g < nx) (hb:H b0=some (.row 4 f.avs)) (hbn:b0 < nx) (hn0:n0≤nx) (hK:Keep n0 H H0) (hvl:f.vars.length≤8) (hb16:hv≤16) (hk12:k≤12)
    (hbad:zdo a f.vars f.stack hv ≠ 0→R=zdo a f.vars f.stack hv)
    (hgo:zdo a f.vars f.stack hv=0→∀ H' nx',H' g=some (.row 9 a.avs)→Keep n0 H' H0→nx≤nx'→K [.bool away,.ptr g 0,r1,r2,.int .i64 (k+1)] H' nx') :
    zbt (fun v H' _=>Frz H' n0 v (.int .i64 R)∧Keep n0 H' H0) K [.bool away,.ptr g 0,.ptr b0 0,.int .i64 hv,r1,r2,.int .i64 k] H nx:=by
  by_cases h1:hv < 0∨(f.stack.length:Int) ≠ hv
  · have e:zdo a f.vars f.stack hv=10:=by unfold zdo; rw [if_pos h1]
    have hR:=hbad (by omega)
    rw [hR,e]
    by_cases h2:hv < 0
    · simp [zbt,h2,hK]
    · have h3:¬ hv=(f.stack.length:Int):=by omega
      simp [zbt,h2,h3,hK,hb,Frm.avs]
  have e:zdo a f.vars f.stack hv=VM.firstErr (fun v=>VM.wrong v a.heap.length) (f.vars ++ f.stack):=by unfold zdo; rw [if_neg h1]
  rw [e] at hbad hgo
  have h2:¬ hv < 0:=by omega
  have h3:hv=(f.stack.length:Int):=by omega
  have n1':b0 ≠ nx:=by omega
  have n2':b0 ≠ nx+1:=by omega
  have hs1:∀ H:Heap,zm 3 H (.ro (f.vars.map Val.avs))=some (f.vars.length,fl f.vars,[]):=fun H=>by rw [zcw (by simp)]; simp [fl]
  have hs2:∀ H:Heap,zm 3 H (.ro (f.stack.map Val.avs))=some (f.stack.length,fl f.stack,[]):=fun H=>by rw [zcw (by simp)]; simp [fl]
  simp [zbt,h2,h3,hb,Frm.avs,n1',n2',-zcw,hs1,hs2]
  have htk:List.take (f.vars.length*3) (fl f.vars)=fl f.vars:=List.take_of_length_le (by rw [zaew]; omega)
  rw [htk,← zajy]
  refine ⟨fun h=>by omega,zajx _,by omega,zajx _,by rw [zaew]; omega,by omega,by omega,by omega,?_⟩
  have hll:(f.vars ++ f.stack).length=f.vars.length+f.stack.length:=by simp
  generalize f.vars ++ f.stack=l at *
  refine LP.mk (fun m xs H' nx'=>∃ (j:Nat),j≤l.length∧m=l.length - j∧xs=[.bool away,.ptr g 0,r1,r2,.int .i64 k,.slc (nx+1+1) 0 l.length,.int .i64 l.length,.int .i64 j]∧H' (nx+1+1)=some (.row 3 (fl l))∧H' g=some (.row 9 a.avs)∧Keep n0 H' H0∧nx+2 < nx' ∧
    VM.firstErr (fun v=>VM.wrong v a.heap.length) l=VM.firstErr (fun v=>VM.wrong v a.heap.length) (l.drop j)) l.length
    ⟨0,by omega,by omega,by simp [hll],by simp,?_,?_,by omega,rfl⟩ ?_
  · rw [Heap.put_ne _ _ (by omega),Heap.put_ne _ _ (by omega),Heap.put_ne _ _ (by omega)]; exact hg
  · rw [Keep.put (by omega),Keep.put (by omega),Keep.put (by omega)]; exact hK
  rintro m xs H2 n2 ⟨j,hj,rfl,rfl,hb2,hg2,hK2,hn2,hfj⟩
  by_cases hjl:j < l.length
  · obtain ⟨v,hv'⟩:∃ v,l[j]? = some v:=⟨_,List.getElem?_eq_getElem hjl⟩
    have m1:g ≠ n2:=by omega
    have m2:nx+1+1 ≠ n2:=by omega
    have hfa:=zarq l j v hv'
    have hlen3:j*3+3≤(fl l).length:=by rw [zaew]; omega
    simp only [Val.avs] at hfa
    simp [zij,hjl,hb2,hfa,hg2,m1,Agt.avs,hlen3]
    refine QC.call (zow v _) ?_
    simp [zol]
    rw [zew _ _ _ _ hv'] at hfj
    have hK3:Keep n0 (H2.put n2 (some (.row 3 [.int .i64 v.kind,.int .i64 v.n,.str v.text]))) H0:=by rw [Keep.put (by omega)]; exact hK2
    refine ⟨fun hz=>⟨?_,hK3⟩,fun hz => ?_⟩
    · rw [if_pos hz] at hfj
      rw [hbad (by rw [hfj]; exact hz),hfj]
    · rw [if_neg (by simpa using hz)] at hfj
      rw [i64w (by omega)]
      exact ⟨l.length - (j+1),by omega,j+1,by omega,rfl,rfl,by rw [if_neg m2]; exact hb2,by rw [if_neg m1]; exact hg2,hK3,by omega,hfj⟩
  obtain rfl:j=l.length:=by omega
  have hz:VM.firstErr (fun v=>VM.wrong v a.heap.length) l=0:=by rw [hfj]; simp [VM.firstErr]
  simp [zij]
  rw [i64w (by omega)]
  exact hgo hz _ _ hg2 hK2 (by omega)
end Go.Proofs.YtdmibdjokofclaaDoor
set_option maxRecDepth 8000
namespace Go.Proofs.YtdmibdjokofclaaDoor
open Go Go.RowKit
set_option maxHeartbeats 4000000 in
theorem zagk (a:Agt) (k:Nat) (away:Bool) (H H0:Heap) (nx n0 g:Nat) (K:J3) (R:Int) (hg:H g=some (.row 9 a.avs)) (hgn:g < nx) (hn0:n0≤nx) (hK:Keep n0 H H0) (hk:k < a.frames.length) (hl:a.frames.length≤12) (hp:VM.program a.prog=0)
    (hbad:VM.frame a k away ≠ 0→R=VM.frame a k away)
    (hgo:VM.frame a k away=0→∀ H' nx',H' g=some (.row 9 a.avs)→Keep n0 H' H0→nx≤nx'→K [.bool away,.ptr g 0,.ro (a.frames.map Frm.avs),.int .i64 a.frames.length,.int .i64 (k+1)] H' nx') :
    zaz (fun v H' _=>Frz H' n0 v (.int .i64 R)∧Keep n0 H' H0) K [.bool away,.ptr g 0,.ro (a.frames.map Frm.avs),.int .i64 a.frames.length,.int .i64 k] H nx:=by
  obtain ⟨f,hf⟩:∃ f,a.frames[k]? = some f:=⟨_,List.getElem?_eq_getElem hk⟩
  obtain ⟨_,hf'⟩:=List.getElem?_eq_some_iff.1 hf
  obtain ⟨fn,at_,vs,st⟩:=f
  have hgx:g ≠ nx:=by omega
  have hgx1:g ≠ nx+1:=by omega
  have hKf:∀ o,Keep n0 (H.put nx o) H0:=fun o=>by rw [Keep.put (by omega)]; exact hK
  have hKf2:∀ o o',Keep n0 ((H.put nx o).put (nx+1) o') H0:=fun o o'=>by rw [Keep.put (by omega),Keep.put (by omega)]; exact hK
  by_cases h1:0≤fn∧fn < a.prog.codes.length
  case neg =>
    have e:VM.frame a k away=3:=by
      unfold VM.frame
      rw [hf]
      have:(if 0≤fn then a.prog.codes[fn.toNat]? else none)=none:=by
        split
        · exact List.getElem?_eq_none (by omega)
        · rfl
      simp only [this]
    have hR:=hbad (by omega)
    rw [hR,e]
    by_cases h0:fn < 0
    · simp [zaz,hg,Agt.avs,hk,hf',Frm.avs,h0,hKf]
    · have:(a.prog.codes.length:Int)≤fn:=by omega
      simp [zaz,hg,Agt.avs,hk,hf',Frm.avs,h0,this,hKf,hgx]
  obtain ⟨h10,h11⟩:=h1
  obtain ⟨n,rfl⟩:∃ n:Nat,fn=n:=⟨fn.toNat,by omega⟩
  have hnl:n < a.prog.codes.length:=by omega
  obtain ⟨c,hc⟩:∃ c,a.prog.codes[n]? = some c:=⟨_,List.getElem?_eq_getElem hnl⟩
  obtain ⟨_,hc'⟩:=List.getElem?_eq_some_iff.1 hc
  obtain ⟨hcr,hcalm,hch⟩:=(zad hp).1 c (List.mem_of_getElem? hc)
  have hcr':¬ (c.params < 0∨4 < c.params∨c.vars < c.params∨8 < c.vars∨c.ins.length < 1∨200 < c.ins.length):=by
    unfold VM.codeRange at hcr
    rwa [decide_eq_false_iff_not] at hcr
  have hnn:¬ (a.prog.codes.length≤n):=by omega
  have hn0':¬ ((n:Int) < 0):=by omega
  by_cases h2:(0≤at_∧at_ < c.ins.length)∧(vs.length:Int)=c.vars
  case neg =>
    have e : VM.frame a k away=3:=by
      unfold VM.frame
      rw [hf]
      simp only [Int.toNat_natCast]
      rw [if_pos (by omega),hc]
      simp only
      by_cases hat:0≤at_∧at_ < c.ins.length
      · rw [if_pos hat.1,List.getElem?_eq_getElem (by omega)]
        simp only
        rw [if_pos (by omega)]
      · have:(if 0≤at_ then c.ins[at_.toNat]? else none)=none:=by
          split
          · exact List.getElem?_eq_none (by omega)
          · rfl
        simp only [this]
    have hR:=hbad (by omega)
    rw [hR,e]
    by_cases h0:at_ < 0
    · simp [zaz,hg,Agt.avs,hk,hf',Frm.avs,hn0',hnn,hnl,hc',h0,Cod.avs,hKf,hKf2,hgx,hgx1]
    · by_cases h3:(c.ins.length:Int)≤at_
      · simp [zaz,hg,Agt.avs,hk,hf',Frm.avs,hn0',hnn,hnl,hc',h0,h3,Cod.avs,hKf,hKf2,hgx,hgx1]
      · have h4:¬ (vs.length:Int)=c.vars:=by omega
        simp [zaz,hg,Agt.avs,hk,hf',Frm.avs,hn0',hnn,hnl,hc',h0,h3,h4,Cod.avs,hKf,hKf2,hgx,hgx1]
  obtain ⟨⟨h20,h21⟩,h22⟩:=h2
  obtain ⟨m,rfl⟩:∃ m:Nat,at_=m:=⟨at_.toNat,by omega⟩
  have hml:m < c.ins.length:=by omega
  have hm0':¬ ((m:Int) < 0):=by omega
  obtain ⟨hhl,hhb⟩:=zcr hcalm hch
  obtain ⟨h,hh⟩:∃ h,(VM.heights c.ins).1[m]? = some h:=⟨_,List.getElem?_eq_getElem (by omega)⟩
  obtain ⟨hm1,hh'⟩:=List.getElem?_eq_some_iff.1 hh
  have hhb':=hhb h (List.mem_of_getElem? hh)
  have hfe:=zamn (away:=away) hf hc hml h22 rfl hh
  have hnm:¬ (c.ins.length≤m):=by omega
  simp [zaz,hg,Agt.avs,hk,hf',Frm.avs,hn0',hnn,hnl,hc',h22,Cod.avs,hm0',hml,hnm,hgx,hgx1]
  refine QC.call (zxj c (by omega) hcalm) ?_
  have hg2:((H.put nx (some (.row 4 [.int .i64 n,.int .i64 m,.ro (vs.map Val.avs),.ro (st.map Val.avs)]))).put (nx+1) (some (.row 3 [.int .i64 c.params,.int .i64 c.vars,.ro (c.ins.map Ins.avs)]))) g=some (.row 9 a.avs):=by rw [Heap.put_ne _ _ hgx1,Heap.put_ne _ _ hgx]; exact hg
  have hf2:((H.put nx (some (.row 4 [.int .i64 n,.int .i64 m,.ro (vs.map Val.avs),.ro (st.map Val.avs)]))).put (nx+1) (some (.row 3 [.int .i64 c.params,.int .i64 c.vars,.ro (c.ins.map Ins.avs)]))) nx=some (.row 4 [.int .i64 n,.int .i64 m,.ro (vs.map Val.avs),.ro (st.map Val.avs)]):=by rw [Heap.put_ne _ _ (by omega),Heap.put_at]
  have hc2:((H.put nx (some (.row 4 [.int .i64 n,.int .i64 m,.ro (vs.map Val.avs),.ro (st.map Val.avs)]))).put (nx+1) (some (.row 3 [.int .i64 c.params,.int .i64 c.vars,.ro (c.ins.map Ins.avs)]))) (nx+1)=some (.row 3 [.int .i64 c.params,.int .i64 c.vars,.ro (c.ins.map Ins.avs)]):=Heap.put_at _ _ _
  have hK2:=hKf2 (some (.row 4 [.int .i64 n,.int .i64 m,.ro (vs.map Val.avs),.ro (st.map Val.avs)])) (some (.row 3 [.int .i64 c.params,.int .i64 c.vars,.ro (c.ins.map Ins.avs)]))
  generalize ((H.put nx (some (.row 4 [.int .i64 n,.int .i64 m,.ro (vs.map Val.avs),.ro (st.map Val.avs)]))).put (nx+1) (some (.row 3 [.int .i64 c.params,.int .i64 c.vars,.ro (c.ins.map Ins.avs)])))=H1 at *
  have w1:IntKind.i64.wrap ((a.frames.length:Int) - 1)=(a.frames.length:Int) - 1:=i64w (by omega)
  have hvl:vs.length≤8:=by omega
  simp [zok,hf2,hm1,hh',hg2,Agt.avs,w1]
  refine JN.same ?_
  simp [zom]
  refine JN.same ?_
  have key:zci (fun v H' _=>Frz H' n0 v (.int .i64 R)∧Keep n0 H' H0) (zbt (fun v H' _=>Frz H' n0 v (.int .i64 R)∧Keep n0 H' H0) K)
      [.bool away,.ptr g 0,.int .i64 k,.ptr nx 0,.ptr (nx+1) 0,.ro ((VM.heights c.ins).1.map fun n=>[.int .i64 n]),.int .i64 h,.bool (decide (k+1=a.frames.length)),.ro (a.frames.map Frm.avs),.int .i64 a.frames.length,.int .i64 k,.bool (!decide (k+1=a.frames.length) || away)] H1 (nx+2):=by
    cases hw:(!decide (k+1=a.frames.length) || away)
    · rw [hw] at hfe
      simp only [Bool.false_and,Bool.false_eq_true,if_false] at hfe
      rw [hfe] at hbad hgo
      simp [zci]
      exact zxl a k ⟨n,m,vs,st⟩ h away _ _ H1 H0 (nx+2) n0 g nx K R hg2 (by omega) hf2 (by omega) (by omega) hK2 hvl hhb'.2 (by omega) hbad fun h0 H' nx' q1 q2 q3=>hgo h0 H' nx' q1 q2 (by omega)
    rw [hw] at hfe
    simp only [Bool.true_and,if_true] at hfe
    cases m with
    | zero =>
      have e10:VM.frame a k away=10:=by rw [hfe]; simp
      have hR:=hbad (by omega)
      rw [hR,e10]
      have w2:IntKind.i64.wrap (h - 1)=h - 1:=i64w (by omega)
      simp [zci,hf2,hK2]
    | succ m =>
    have h00:¬ ((m:Int)+1=0):=by omega
    have w2:IntKind.i64.wrap (h - 1)=h - 1:=i64w (by omega)
    have w3:IntKind.i64.wrap (m:Int)=m:=i64w (by omega)
    have hml':m < c.ins.length:=by omega
    obtain ⟨i,hi⟩:∃ i,c.ins[m]? = some i:=⟨_,List.getElem?_eq_getElem hml'⟩
    obtain ⟨_,hi'⟩:=List.getElem?_eq_some_iff.1 hi
    obtain ⟨q,hq⟩:∃ q,(VM.heights c.ins).1[m]? = some q:=⟨_,List.getElem?_eq_getElem (by omega)⟩
    obtain ⟨hqm,hq'⟩:=List.getElem?_eq_some_iff.1 hq
    have z1:nx ≠ nx+2:=by omega
    have z2:nx+1 ≠ nx+2:=by omega
    have z3:g ≠ nx+2:=by omega
    have hg3:(H1.put (nx+2) (some (.row 3 [.int .i64 i.op,.int .i64 i.a,.int .i64 i.b]))) g=some (.row 9 a.avs):=by rw [Heap.put_ne _ _ z3]; exact hg2
    have hf3:(H1.put (nx+2) (some (.row 3 [.int .i64 i.op,.int .i64 i.a,.int .i64 i.b]))) nx=some (.row 4 [.int .i64 n,.int .i64 ((m+1:Nat):Int),.ro (vs.map Val.avs),.ro (st.map Val.avs)]):=by rw [Heap.put_ne _ _ z1]; exact hf2
    have hi3:(H1.put (nx+2) (some (.row 3 [.int .i64 i.op,.int .i64 i.a,.int .i64 i.b]))) (nx+2)=some (.row 3 [.int .i64 i.op,.int .i64 i.a,.int .i64 i.b]):=Heap.put_at _ _ _
    have hK3:Keep n0 (H1.put (nx+2) (some (.row 3 [.int .i64 i.op,.int .i64 i.a,.int .i64 i.b]))) H0:=by rw [Keep.put (by omega)]; exact hK2
    have hbp:zqq a k c (VM.heights c.ins).1 (m+1)=((!decide (k+1=a.frames.length) && (decide (i.op ≠ 17) || decide (i.a ≠ ((a.frames[k+1]?).map (·.fn)).getD 0))) || (decide (k+1=a.frames.length) && decide (i.op ≠ 13)) || decide (q < 0)):=by
      unfold zqq
      simp only [Nat.add_sub_cancel,List.getD_eq_getElem?_getD,hi,hq,Option.getD_some]
    have hbadv:zqq a k c (VM.heights c.ins).1 (m+1)=true→R=10:=fun hb=>by
      have:VM.frame a k away=10:=by rw [hfe,if_pos (by simp [hb])]
      rw [hbad (by omega),this]
    have hfin:zqq a k c (VM.heights c.ins).1 (m+1)=false→zbt (fun v H' _=>Frz H' n0 v (.int .i64 R)∧Keep n0 H' H0) K [.bool away,.ptr g 0,.ptr nx 0,.int .i64 (h - 1),.ro (a.frames.map Frm.avs),.int .i64 a.frames.length,.int .i64 k] (H1.put (nx+2) (some (.row 3 [.int .i64 i.op,.int .i64 i.a,.int .i64 i.b]))) (nx+2+1):=by
      intro hb
      have e:VM.frame a k away=zdo a vs st (h - 1):=by rw [hfe,if_neg (by simp [hb]; omega)]
      rw [e] at hbad hgo
      exact zxl a k ⟨n,((m+1:Nat):Int),vs,st⟩ (h - 1) away _ _ _ H0 (nx+2+1) n0 g nx K R hg3 (by omega) hf3 (by omega) (by omega) hK3 hvl (by omega) (by omega) hbad fun h0 H' nx' q1 q2 q3=>hgo h0 H' nx' q1 q2 (by omega)
    rw [hbp] at hfin hbadv
    by_cases hlast:k+1=a.frames.length
    · simp [hlast] at hfin hbadv
      simp [zci,hf2,hc2,h00,w2,w3,hml',hi',Ins.avs,z1,z2,hqm,hq',hlast]
      refine ⟨fun hq0=>⟨fun h13=>⟨hbadv (.inl h13),hK3⟩,fun h13=>hfin h13 hq0⟩,fun hq0=>⟨hbadv (.inr hq0),hK3⟩⟩
    · have hk2:k+1 < a.frames.length:=by omega
      obtain ⟨f2,hf2'⟩:∃ f2,a.frames[k+1]? = some f2:=⟨_,List.getElem?_eq_getElem hk2⟩
      obtain ⟨_,hf2''⟩:=List.getElem?_eq_some_iff.1 hf2'
      rw [hf2'] at hfin hbadv
      simp [hlast] at hfin hbadv
      have w4:IntKind.i64.wrap ((k:Int)+1)=(k:Int)+1:=i64w (by omega)
      have hk2i:(k:Int)+1 < a.frames.length:=by omega
      have hk0:(0:Int)≤(k:Int)+1:=by omega
      have htn:((k:Int)+1).toNat=k+1:=by omega
      simp [zci,hf2,hc2,h00,w2,w3,w4,hml',hi',Ins.avs,z1,z2,z3,hqm,hq',hlast,hg2,Agt.avs,hk2i,hk0,htn,hk2,hf2'',Frm.avs]
      refine ⟨fun hq0=>⟨fun h17=>⟨fun ha=>⟨hbadv (.inl (.inr ha)),hK3⟩,fun ha=>hfin h17 ha hq0⟩,fun h17=>⟨hbadv (.inl (.inl h17)),hK3⟩⟩,fun hq0=>⟨hbadv (.inr hq0),hK3⟩⟩
  by_cases hlast:k+1=a.frames.length
  · have l2:(k:Int)=(a.frames.length:Int) - 1:=by omega
    simp [zil,l2]
    simp [hlast,l2] at key
    exact key
  · have l2:¬ (k:Int)=(a.frames.length:Int) - 1:=by omega
    simp [zil,l2]
    simp [hlast] at key
    exact key
end Go.Proofs.YtdmibdjokofclaaDoor
set_option maxRecDepth 8000
namespace Go.Proofs.YtdmibdjokofclaaDoor
open Go Go.RowKit
set_option maxHeartbeats 4000000 in
theorem zakz (a:Agt) (away:Bool) (ha:a.prog.ok) (hhl:a.heap.length≤4611686018427387904):QC Tryd.prog 14 [.agg a.avs,.bool away] (.int .i64 (VM.agent a away)):=by
  refine QC.of' fun H nx=>ztp _ _ H nx _ ?_
  simp [zoh,Agt.avs]
  refine QC.call (zxg a.prog ha) ?_
  have hg:(H.put nx (some (.row 9 [.int .i64 a.id,.int .i64 a.trip,.ro (a.prog.codes.map Cod.avs),.ro (a.prog.words.map fun w=>[.str w]),.ro (a.frames.map Frm.avs),.ro (a.heap.map Cl.avs),.int .i64 a.permit.fuel,.int .i64 a.permit.room,.int .i64 a.permit.hops]))) nx=some (.row 9 a.avs):=Heap.put_at _ _ _
  have hK:Keep nx (H.put nx (some (.row 9 [.int .i64 a.id,.int .i64 a.trip,.ro (a.prog.codes.map Cod.avs),.ro (a.prog.words.map fun w=>[.str w]),.ro (a.frames.map Frm.avs),.ro (a.heap.map Cl.avs),.int .i64 a.permit.fuel,.int .i64 a.permit.room,.int .i64 a.permit.hops]))) H:=by simp
  generalize (H.put nx (some (.row 9 [.int .i64 a.id,.int .i64 a.trip,.ro (a.prog.codes.map Cod.avs),.ro (a.prog.words.map fun w=>[.str w]),.ro (a.frames.map Frm.avs),.ro (a.heap.map Cl.avs),.int .i64 a.permit.fuel,.int .i64 a.permit.room,.int .i64 a.permit.hops])))=H1 at *
  by_cases hp:VM.program a.prog=0
  case neg =>
    have e:VM.agent a away=VM.program a.prog:=by unfold VM.agent; rw [if_pos hp]
    rw [e]
    simp [zik,hp,hK]
  simp [zik,hp,hg,Agt.avs]
  have e3:(a.id < 0∨1073741824 < a.id∨a.trip < 0∨1073741824 < a.trip∨a.permit.fuel < 0∨2000 < a.permit.fuel∨a.permit.room < 0∨60 < a.permit.room∨a.permit.hops < 0∨12 < a.permit.hops)→VM.agent a away=3:=fun h=>by
    unfold VM.agent; rw [if_neg (by simpa using hp),if_pos h]
  refine LP.mk (fun m xs H' nx'=>∃ i:Nat,i≤5∧m=5 - i∧xs=[.bool away,.ptr nx 0,.slc (nx+1) 0 5,.int .i64 5,.int .i64 i]∧H' nx=some (.row 9 a.avs) ∧
    H' (nx+1)=some (.row 2 [.int .i64 a.id,.int .i64 1073741824,.int .i64 a.trip,.int .i64 1073741824,.int .i64 a.permit.fuel,.int .i64 2000,.int .i64 a.permit.room,.int .i64 60,.int .i64 a.permit.hops,.int .i64 12])∧Keep nx H' H∧nx+1 < nx' ∧
    (1≤i→0≤a.id∧a.id≤1073741824)∧(2≤i→0≤a.trip∧a.trip≤1073741824)∧(3≤i→0≤a.permit.fuel∧a.permit.fuel≤2000)∧(4≤i→0≤a.permit.room∧a.permit.room≤60)∧(5≤i→0≤a.permit.hops∧a.permit.hops≤12)) 5
    ⟨0,by omega,by omega,by simp,by rw [Heap.put_ne _ _ (by omega)]; exact hg,by simp,by simp [hK],by omega,by omega,by omega,by omega,by omega,by omega⟩ ?_
  rintro m xs H2 n2 ⟨i,hi,rfl,rfl,hg2,hr2,hK2,hn2,i1,i2,i3,i4,i5⟩
  have z1:nx ≠ n2:=by omega
  have z2:nx+1 ≠ n2:=by omega
  have hKf:∀ o,Keep nx (H2.put n2 o) H:=fun o=>by rw [Keep.put (by omega)]; exact hK2
  have hic:i=5∨i=0∨i=1∨i=2∨i=3∨i=4:=by omega
  rcases hic with rfl | hic
  · have e0:VM.agent a away=if a.frames.length < 1∨12 < a.frames.length then 5 else if 60 - a.permit.room < a.heap.length then 4 else if VM.framesErr a away ≠ 0 then VM.framesErr a away else VM.firstErr (VM.cellErr a.heap.length) a.heap:=by
      unfold VM.agent; rw [if_neg (by simpa using hp),if_neg (by have:=i1 (by omega); have:=i2 (by omega); have:=i3 (by omega); have:=i4 (by omega); have:=i5 (by omega); omega)]
    have i4':=i4 (by omega)
    have w1:IntKind.i64.wrap ((a.heap.length:Int)+a.permit.room)=(a.heap.length:Int)+a.permit.room:=i64w (by omega)
    simp [zbs,hg2,Agt.avs,w1]
    refine ⟨fun h=>⟨by rw [e0,if_pos (by rw [h]; simp)],hK2⟩,fun f1 => ?_⟩
    have hpos:0 < a.frames.length:=List.length_pos_iff.2 f1
    refine ⟨fun h=>⟨by rw [e0,if_pos (by omega)],hK2⟩,fun f2=>⟨fun h=>⟨by rw [e0,if_neg (by omega),if_pos (by omega)],hK2⟩,fun f3 => ?_⟩⟩
    rw [if_neg (by omega),if_neg (by omega)] at e0
    refine LP.mk (fun m xs H' nx'=>∃ i:Nat,i≤a.frames.length∧m=a.frames.length - i∧xs=[.bool away,.ptr nx 0,.ro (a.frames.map Frm.avs),.int .i64 a.frames.length,.int .i64 i]∧H' nx=some (.row 9 a.avs)∧Keep nx H' H∧nx < nx'∧VM.framesErr a away=VM.firstErr (fun k=>VM.frame a k away) ((List.range a.frames.length).drop i)) a.frames.length
      ⟨0,by omega,by omega,by simp,hg2,hK2,by omega,rfl⟩ ?_
    rintro m xs H3 n3 ⟨k,hk,rfl,rfl,hg3,hK3,hn3,hfe⟩
    by_cases hlt:k < a.frames.length
    · have hr:(List.range a.frames.length)[k]? = some k:=by simp [hlt]
      rw [zew _ _ _ _ hr] at hfe
      refine zagk a k away H3 H n3 nx nx _ _ hg3 hn3 (by omega) hK3 hlt (by omega) hp (fun hz => ?_) fun hz H' nx' q1 q2 q3 => ?_
      · rw [if_pos hz] at hfe
        rw [e0,hfe,if_pos hz]
      · rw [if_neg (by simpa using hz)] at hfe
        exact ⟨a.frames.length - (k+1),by omega,k+1,by omega,rfl,rfl,q1,q2,by omega,hfe⟩
    obtain rfl:k=a.frames.length:=by omega
    have hz:VM.framesErr a away=0:=by rw [hfe,List.drop_of_length_le (by simp)]; rfl
    rw [if_neg (by simpa using hz)] at e0
    simp [zaz,hg3,Agt.avs]
    refine LP.mk (fun m xs H' nx'=>∃ i:Nat,i≤a.heap.length∧m=a.heap.length - i∧xs=[.ptr nx 0,.ro (a.heap.map Cl.avs),.int .i64 a.heap.length,.int .i64 i]∧H' nx=some (.row 9 a.avs)∧Keep nx H' H∧nx < nx'∧VM.agent a away=VM.firstErr (VM.cellErr a.heap.length) (a.heap.drop i)) a.heap.length
      ⟨0,by omega,by omega,by simp,hg3,hK3,by omega,e0⟩ ?_
    rintro m xs H4 n4 ⟨k,hk,rfl,rfl,hg4,hK4,hn4,hfe⟩
    by_cases hlt:k < a.heap.length
    case neg =>
      obtain rfl:k=a.heap.length:=by omega
      simp [zii,hK4]
      rw [hfe]; simp [VM.firstErr]
    obtain ⟨c,hc⟩:∃ c,a.heap[k]? = some c:=⟨_,List.getElem?_eq_getElem hlt⟩
    obtain ⟨_,hc'⟩:=List.getElem?_eq_some_iff.1 hc
    rw [zew _ _ _ _ hc] at hfe
    obtain ⟨l,r⟩:=c
    have m1:nx ≠ n4:=by omega
    have hce:VM.cellErr a.heap.length ⟨l,r⟩=if VM.wrong l a.heap.length ≠ 0 then VM.wrong l a.heap.length else VM.wrong r a.heap.length:=rfl
    rw [hce] at hfe
    have hg5:(H4.put n4 (some (.row 6 [.int .i64 l.kind,.int .i64 l.n,.str l.text,.int .i64 r.kind,.int .i64 r.n,.str r.text]))) nx=some (.row 9 a.avs):=by rw [Heap.put_ne _ _ m1]; exact hg4
    have hc5:(H4.put n4 (some (.row 6 [.int .i64 l.kind,.int .i64 l.n,.str l.text,.int .i64 r.kind,.int .i64 r.n,.str r.text]))) n4=some (.row 6 [.int .i64 l.kind,.int .i64 l.n,.str l.text,.int .i64 r.kind,.int .i64 r.n,.str r.text]):=Heap.put_at _ _ _
    have hK5:Keep nx (H4.put n4 (some (.row 6 [.int .i64 l.kind,.int .i64 l.n,.str l.text,.int .i64 r.kind,.int .i64 r.n,.str r.text]))) H:=by rw [Keep.put (by omega)]; exact hK4
    simp [zii,hlt,hc',Cl.avs,Val.avs,hg4,m1,Agt.avs]
    generalize (H4.put n4 (some (.row 6 [.int .i64 l.kind,.int .i64 l.n,.str l.text,.int .i64 r.kind,.int .i64 r.n,.str r.text])))=H5 at *
    refine QC.call (zow l _) ?_
    simp [zoi,hc5,hg5,Agt.avs]
    refine ⟨fun hz=>⟨by rw [hfe,if_pos hz,if_pos hz],hK5⟩,fun hz => ?_⟩
    refine QC.call (zow r _) ?_
    rw [hz] at hfe
    simp at hfe
    simp [zoj]
    refine ⟨fun hz2=>⟨by rw [hfe]; simp [hz2],hK5⟩,fun hz2 => ?_⟩
    rw [hz2] at hfe
    simp at hfe
    rw [i64w (by omega)]
    exact ⟨a.heap.length - (k+1),by omega,k+1,by omega,rfl,rfl,hg5,hK5,by omega,hfe⟩
  rcases hic with rfl | rfl | rfl | rfl | rfl
  · simp [zbs,hr2,hKf]
    refine ⟨fun h=>e3 (by omega),fun h=>⟨fun h'=>e3 (by omega),fun h' => ?_⟩⟩
    exact ⟨5 - 1,by omega,1,by omega,rfl,by rw [i64w (by omega)]; rfl,by simp [z1,hg2],by simp [z2],by omega,by omega,by omega,by omega,by omega,by omega⟩
  · simp [zbs,hr2,hKf]
    refine ⟨fun h=>e3 (by omega),fun h=>⟨fun h'=>e3 (by omega),fun h' => ?_⟩⟩
    exact ⟨5 - 2,by omega,2,by omega,rfl,by rw [i64w (by omega)]; rfl,by simp [z1,hg2],by simp [z2],by omega,by omega,by omega,by omega,by omega,by omega⟩
  · simp [zbs,hr2,hKf]
    refine ⟨fun h=>e3 (by omega),fun h=>⟨fun h'=>e3 (by omega),fun h' => ?_⟩⟩
    exact ⟨5 - 3,by omega,3,by omega,rfl,by rw [i64w (by omega)]; rfl,by simp [z1,hg2],by simp [z2],by omega,by omega,by omega,by omega,by omega,by omega⟩
  · simp [zbs,hr2,hKf]
    refine ⟨fun h=>e3 (by omega),fun h=>⟨fun h'=>e3 (by omega),fun h' => ?_⟩⟩
    exact ⟨5 - 4,by omega,4,by omega,rfl,by rw [i64w (by omega)]; rfl,by simp [z1,hg2],by simp [z2],by omega,by omega,by omega,by omega,by omega,by omega⟩
  · simp [zbs,hr2,hKf]
    refine ⟨fun h=>e3 (by omega),fun h=>⟨fun h'=>e3 (by omega),fun h' => ?_⟩⟩
    exact ⟨5,by omega,by omega,by rw [i64w (by omega)]; rfl,by simp [z1,hg2],by simp [z2],by omega,by omega,by omega,by omega,by omega,by omega⟩
end Go.Proofs.YtdmibdjokofclaaDoor
set_option maxRecDepth 8000
namespace Go.Proofs.YtdmibdjokofclaaDoor
open Go Go.RowKit
theorem zamu:eqsT 40=true:=by kernel_rfl
theorem VM.goS_lenT (l:List Spt):∀ (k:Nat) (a:Agt) (i:Nat) (said:List Str),(VM.goS l k a i said).1.length≤said.length+k
  | 0,_,_,said=>Nat.le_refl _
  | k + 1,a,i,said=>by
    rw [VM.goS_succ]
    split
    · have:=VM.goS_lenT l k (VM.step a (l.getD i VM.spt0)).1 i said; omega
    · split
      · have:=VM.goS_lenT l k (VM.step a (l.getD i VM.spt0)).1 i (said ++ [(VM.step a (l.getD i VM.spt0)).2.text])
        simp only [List.length_append,List.length_singleton] at this
        omega
      · split
        · have:=VM.goS_lenT l k (VM.landed l i (VM.step a (l.getD i VM.spt0)).1 (VM.step a (l.getD i VM.spt0)).2.text).1 (VM.landed l i (VM.step a (l.getD i VM.spt0)).1 (VM.step a (l.getD i VM.spt0)).2.text).2 said; omega
        · simp only; omega
theorem VM.alone_lenT (p:Prg) (m:Pmt) (l:List Spt) (at_:Int):(VM.alone p m l at_).1.1.length≤2001:=by
  unfold VM.alone
  split
  · simp
  · split
    · simp
    · rename_i h
      split
      · simp
      · have:=VM.goS_lenT l (m.fuel.toNat+1) (VM.newAgt 0 p m) at_.toNat []
        unfold VM.permitErr at h
        have hf:m.fuel≤2000:=by
          split at h
          · exact absurd (by decide) h
          · omega
        show (VM.goS l (m.fuel.toNat+1) _ _ _).1.length≤2001
        simp only [List.length_nil] at this
        omega
theorem VM.alone_spots {p:Prg} {m:Pmt} {l:List Spt} {at_:Int} (h:(VM.alone p m l at_).2=0):VM.OkSpots l:=by
  unfold VM.alone at h
  by_cases c1:(VM.spotsWrong l).1 ≠ 0
  · rw [if_pos c1] at h; exact absurd h c1
  · exact VM.spots_ok (Classical.not_not.1 c1)
theorem zalu {a:Agt} {fs:List Frm} {f:Frm} (g:VM.Gone a fs f) (s:Spt) (hs:0≤s.fuel):QC Tryd.prog 17 [.agg ((VM.letIn a s).getD VM.agt0).avs,.agg ((VM.letIn a s).getD VM.agt0).avs] (.bool true):=by
  cases hl:VM.letIn a s with
  | none=>exact zaea VM.agt0 (by decide) (by decide) (fun c hc=>by cases hc) (by decide) (by decide) (fun g hg=>by cases hg)
  | some y =>
    unfold VM.letIn at hl
    split at hl
    · cases hl
    · cases hl
      have gf:=g.fuel
      have gg:=VM.gone_fueled (VM.pack_gone g) (n:=min a.permit.fuel s.fuel) (by omega)
      have lv:=VM.answer_live gg (n:=1) (by omega)
      exact zajd lv (zaju lv)
set_option maxRecDepth 20000 in
set_option maxHeartbeats 4000000 in
theorem zadk (l:List Spt) (name:Str) (p:Prg) (m:Pmt) (at_:Int) (a:Agt) (hp:p.ok) (ha:a.prog.ok) (hhl:a.heap.length≤4611686018427387904) (hl:l.length≤4611686018427387903) (hfl:∀ s∈l,s.facts.length≤4611686018427387903) :
    QC Tryd.prog 3 [.ro (Ply l),.str name,.agg p.avs,.agg m.avs,.int .i64 at_,.agg a.avs] (.bool true):=by
  refine QC.of' fun H nx => ?_
  suffices main:∀ Q:AV→Heap→Nat→Prop,(∀ H' n',Keep nx H' H→Q (.bool true) H' n')→za Tryd.prog 3 [.ro (Ply l),.str name,.agg p.avs,.agg m.avs,.int .i64 at_,.agg a.avs] H nx Q from main _ fun H' n' h=>⟨zyl,h⟩
  intro Q hQ
  refine znv _ _ _ _ _ _ H nx _ ?_
  have hsp:(AV.agg p.avs).sure=true:=by simp [Prg.avs]
  have hsm:(AV.agg m.avs).sure=true:=by simp [Pmt.avs]
  have hsa:(AV.agg a.avs).sure=true:=by simp [Agt.avs]
  have pt:p.avs.take 2=p.avs∧p.avs.length=2:=⟨rfl,rfl⟩
  have mt:m.avs.take 3=m.avs∧m.avs.length=3:=⟨rfl,rfl⟩
  have mav:m.avs=[.int .i64 m.fuel,.int .i64 m.room,.int .i64 m.hops]:=rfl
  obtain ⟨_,at9,al⟩:=zap a
  have hpl:(Ply l).length=l.length:=by simp [Ply]
  simp only [zip,puth]
  refine ⟨hsp,hsm,hsa,?_⟩
  generalize hX:Heap.put _ (nx+2) _=X
  have x0:X nx=some (.row 2 p.avs):=by rw [← hX,Heap.put_ne _ _ (by omega),Heap.put_ne _ _ (by omega),Heap.put_at]; rfl
  have x1:X (nx+1)=some (.row 3 m.avs):=by rw [← hX,Heap.put_ne _ _ (by omega),Heap.put_at]; rfl
  have x2:X (nx+2)=some (.row 9 a.avs):=by rw [← hX,Heap.put_at]; rfl
  have xk:Keep nx X H:=fun y hy=>by rw [← hX]; repeat' first | rw [Heap.put_ne _ _ (by omega)] | rfl
  clear hX
  refine QC.call (zada l hfl) ?_
  simp [zhr]
  refine QC.call (zacl l hfl) ?_
  simp [zhs]
  refine zo.of_qc (zafq l name hl) (.int _ _) ?_
  simp [zht]
  refine zo.of_qc (zaef l name hl) (.int _ _) ?_
  simp [zhu,x1,mt,hsm]
  refine zo.of_qc (mav ▸ zaap m) (.int _ _) ?_
  simp [zhv,x1,mt,hsm]
  refine zo.of_qc (mav ▸ zzw m) (.int _ _) ?_
  simp [ziq,x0,pt,hsp]
  refine QC.call (zxg p hp) ?_
  by_cases hp0:VM.program p=0
  case neg =>
    simp [zeq,hp0]
    exact hQ _ _ xk
  simp [zeq,hp0,x0,x1,pt,mt,hsp,hsm]
  refine QC.call (zaps m l at_ hp0 (by omega) hfl) ?_
  have rq:=zajm m l at_ hp0 (by omega) hfl
  have len:=VM.alone_lenT p m l at_
  have spt:=fun h=>VM.alone_spots (p:=p) (m:=m) (l:=l) (at_:=at_) h
  generalize VM.alone p m l at_=r at *
  have z1:¬ nx=nx+3∧¬ nx+1=nx+3∧¬ nx+2=nx+3:=by omega
  have e0:(r.1.1.map fun w=>[AV.str w])=Txt r.1.1:=rfl
  unfold runV at rq ⊢
  rw [e0] at rq ⊢
  simp [zir,x0,x1,pt,mt,hsp,hsm,z1]
  refine QC.call rq ?_
  simp [zis,zamu]
  refine QC.call (zals _ (by omega)) ?_
  generalize hY:Heap.put _ (nx+3+1) _=Y
  have y2:Y (nx+2)=some (.row 9 a.avs):=by rw [← hY,Heap.put_ne _ _ (by omega),Heap.put_ne _ _ (by omega)]; exact x2
  have yk:Keep nx Y H:=fun y hy=>by rw [← hY,Heap.put_ne _ _ (by omega),Heap.put_ne _ _ (by omega)]; exact xk y hy
  clear hY
  simp [zit,y2,al,at9,hsa]
  refine QC.call (zakz a true ha hhl) ?_
  by_cases hg:VM.agent a true=0
  case neg =>
    simp [zco,hg]
    exact hQ _ _ yk
  by_cases he:r.2=0
  case neg =>
    simp [zco,hg,he]
    exact hQ _ _ yk
  have ok:=spt he
  obtain ⟨fs,f,g⟩:=VM.agent_gone hg
  have h0:0 < l.length:=by have:=ok.len; omega
  have hg0:(Ply l)[0]'(by rw [hpl]; exact h0)=(l.getD 0 VM.spt0).avs:=by simp [Ply,h0]
  have fu:=ok.fuel _ (VM.getD_spot h0)
  generalize l.getD 0 VM.spt0=s at *
  have ht:s.avs.take 4=s.avs∧s.avs.length=4:=⟨rfl,rfl⟩
  have aq:=zahk g s fu
  have bq:=zagv g s fu
  have sq:=zalu g s fu.1
  unfold letV at aq bq
  generalize (VM.letIn a s).getD VM.agt0=c at *
  generalize (VM.letIn a s).isSome=b at *
  obtain ⟨_,ct,cl⟩:=zap c
  have oc:=zck c
  have csu:(AV.agg c.avs).sure=true:=by simp [Agt.avs]
  simp [zco,hg,he,y2,al,at9,hsa,h0,hpl,hg0,ht]
  refine zo.of_qc aq (zjz (zgc _) (.bool _)) ?_
  simp [ziu,y2,al,at9,hsa,h0,hpl,hg0,ht,ct,cl,csu]
  refine ⟨oc,zo.of_qc bq (zjz (zgc _) (.bool _)) ?_⟩
  simp [ziv,ct,cl,csu]
  refine ⟨oc,QC.call sq ?_⟩
  simp [ziw]
  refine hQ _ _ fun y hy => ?_
  rw [Heap.put_ne _ _ (by omega),Heap.put_ne _ _ (by omega)]; exact yk y hy
end Go.Proofs.YtdmibdjokofclaaDoor
