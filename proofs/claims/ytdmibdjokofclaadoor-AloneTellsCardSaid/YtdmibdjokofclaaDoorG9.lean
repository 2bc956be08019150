/- Programs, and agents, as they lie in memory. Which kinds of things are compared whole. A call that changes what it is handed by address, where the order is drawn. Cells numbered as they are come to: the program's closure. Rows that are read: by value, or owned. Rows copied. Cells numbered as they are come to: plain laws. Cells numbered as they are come to: the closure, where the order is drawn. Cells numbered as they are come to: the program's function. Cells numbered as they are come to: what holds between the closure's calls. Cells numbered anew: what stays. Cells numbered as they are come to: the program's function. Cells numbered as they are come to: the program's function, all of it. Values that name no memory; cells that may be. Rows that are built by appending. What a call has made is read by value from now on, in part. The machine in memory: who owns what. -/
import Derived.Test.YtdmibdjokofclaaDoorG8
import Derived.Test.YtdmibdjokofclaaDoorG6
import Derived.Test.YtdmibdjokofclaaDoorG7
set_option linter.unusedSimpArgs false
set_option linter.unusedVariables false
set_option maxRecDepth 8000
namespace Go.Proofs.YtdmibdjokofclaaDoor
open Go Go.RowKit
end Go.Proofs.YtdmibdjokofclaaDoor
set_option maxRecDepth 8000
namespace Go.Proofs.YtdmibdjokofclaaDoor
open Go Go.RowKit
@[simp] theorem zauj:eqsT 55=true:=by kernel_rfl
@[simp] theorem zass:eqsT 82=true:=by kernel_rfl
end Go.Proofs.YtdmibdjokofclaaDoor
set_option maxRecDepth 8000
namespace Go.Proofs.YtdmibdjokofclaaDoor
open Go Go.RowKit
inductive Rn (R:Nat→Prop) (gn g0:Nat):AV→AV→Prop
  | same (v:AV):Bel R v→Rn R gn g0 v v
  | slc (off len:Nat):Rn R gn g0 (.slc gn off len) (.slc g0 off len)
  | ptr (off:Nat):Rn R gn g0 (.ptr gn off) (.ptr g0 off)
  | amap:Rn R gn g0 (.amap gn) (.amap g0)
  | agg (xs ys:List AV):ys.length=xs.length→(∀ (j:Nat) (v u:AV),xs[j]? = some v→ys[j]? = some u→Rn R gn g0 v u)→Rn R gn g0 (.agg xs) (.agg ys)
def RnO (R:Nat→Prop) (gn g0:Nat):AObj→AObj→Prop
  | .row s cs,.row s' ds=>s'=s∧ds.length=cs.length∧∀ (j:Nat) (v u:AV),cs[j]? = some v→ds[j]? = some u→Rn R gn g0 v u
  | .mp es,.mp fs=>fs.length=es.length∧∀ (j:Nat) (v u:AV×AV),es[j]? = some v→fs[j]? = some u→Rn R gn g0 v.1 u.1∧Rn R gn g0 v.2 u.2
  | _,_=>False
theorem VRel.rn {K:zab} {ρ ρ2:Nat→Loc} {A A2 R:Nat→Prop} {gn g0:Nat} {v u:AV} {c:Value} (h:VRel K ρ A v c) (hr:Rn R gn g0 v u) (hR:∀ g,R g→A g→ρ2 g=ρ g∧A2 g) (hA:∀ g,R g→A g) (hg:ρ2 g0=ρ gn∧A2 g0):VRel K ρ2 A2 u c:=by
  induction hr generalizing c with
  | same _ hb=>exact (h.restrict hb).mono (fun _ _ h=>h) fun g hg=>hR g hg (hA g hg)
  | slc off len =>
    cases h with
    | slc _ _ _ cap a h1 h2 h3=>exact .slc g0 off len cap a hg.2 h2 (by rw [hg.1]; exact h3)
  | ptr off =>
    cases h with
    | ptr _ _ a h1 h2=>exact .ptr g0 off a hg.2 (by rw [hg.1]; exact h2)
  | amap =>
    cases h with
    | amap _ r h1 h2=>exact .amap g0 r hg.2 (by rw [hg.1]; exact h2)
  | agg xs ys hl _ ih =>
    cases h with
    | agg _ cs h1 h2 =>
      exact .agg ys cs (by omega) fun j u c hu hc=>by
        have hlt:=(List.getElem?_eq_some_iff.1 hu).1
        have hx:xs[j]? = some (xs[j]'(by omega)):=List.getElem?_eq_getElem (by omega)
        exact ih j _ u hx hu (h2 j _ c hx hc)
theorem zay.rn {K:zab} {ρ ρ2:Nat→Loc} {A A2 R:Nat→Prop} {gn g0:Nat} {o o':AObj} {w:World} {l:Loc} (h:zay K ρ A w l o) (hr:RnO R gn g0 o o') (hR:∀ g,R g→A g→ρ2 g=ρ g∧A2 g) (hA:∀ g,R g→A g) (hg:ρ2 g0=ρ gn∧A2 g0):zay K ρ2 A2 w l o':=by
  cases o with
  | row s cs =>
    cases o' with
    | mp fs | it _ _ _=>exact hr.elim
    | row s' ds =>
      obtain ⟨rfl,hl,hc⟩:=hr
      obtain ⟨c,e,lo,hi,h1,h0,h2,h3,h4,h5⟩:=h
      refine ⟨c,e,lo,hi,h1,h0,h2,h3,by rw [hl]; exact h4,fun j u hu => ?_⟩
      have hj:j < cs.length:=by have:=(List.getElem?_eq_some_iff.1 hu).1; omega
      have hv:cs[j]? = some cs[j]:=List.getElem?_eq_getElem hj
      obtain ⟨cv,a1,a2⟩:=h5 j _ hv
      exact ⟨cv,a1,a2.rn (hc j _ u hv hu) hR hA hg⟩
  | mp es =>
    cases o' with
    | row s' ds | it _ _ _=>exact hr.elim
    | mp fs =>
      obtain ⟨hl,hc⟩:=hr
      obtain ⟨en,cl,h1,h2,h3,h4⟩:=h
      refine ⟨en,cl,h1,by rw [hl]; exact h2,fun j u e hu he => ?_,h4⟩
      have hj:j < es.length:=by have:=(List.getElem?_eq_some_iff.1 hu).1; omega
      have hv:es[j]? = some es[j]:=List.getElem?_eq_getElem hj
      obtain ⟨a1,a2⟩:=h3 j _ e hv he
      obtain ⟨b1,b2⟩:=hc j _ u hv hu
      exact ⟨a1.rn b1 hR hA hg,a2.rn b2 hR hA hg⟩
  | it _ _ _=>exact hr.elim
theorem zky {D:zq}:∀ {H:Heap} {g:Nat},g∉domD D→(H.apply D) g=H g:=by
  induction D with
  | nil=>intros; rfl
  | cons d r ih =>
    obtain ⟨g',o⟩:=d
    intro H g hg
    simp only [domD,List.map_cons,List.mem_cons,not_or] at hg
    show ((H.put g' o).apply r) g=H g
    rw [ih (by simpa [domD] using hg.2),Heap.put_ne _ _ hg.1]
theorem LC.of_calls1 {P:Program} {f:FuncId} {args:List AV} {r:AV} {H0:Heap} {rd:List Nat} {D:zq} {g0:Nat} (hrd:∀ g∈rd,(H0 g).isSome=true) (hdom:∀ g∈domD D,g∈rd∨g=g0)
    (h : ∀ H nx,(∀ g∈rd,H g=H0 g∧g < nx)→za P f args H nx fun v H' nx'=>∃ gn,nx≤gn∧gn < nx'∧Rn (fun x=>x∈rd) gn g0 v r∧(∀ g,g < nx→g∉domD D→H' g=H g) ∧
      (∀ g o,g∈domD D→g ≠ g0→(H.apply D) g=some o→∃ o',H' g=some o'∧RnO (fun x=>x∈rd) gn g0 o' o)∧(∃ o o',(H.apply D) g0=some o∧H' gn=some o'∧RnO (fun x=>x∈rd) gn g0 o' o)):LC P f args H0 rd [g0] D r:=by
  intro A ρ H w cargs ⟨N0,hN0⟩ s ha hag hfresh
  obtain ⟨N,hN,hg0N⟩:∃ N,(∀ g,A g→g < N)∧g0 < N:=⟨max N0 (g0+1),fun g hg=>by have:=hN0 g hg; omega,by omega⟩
  have hg0:¬ A g0:=hfresh g0 (by simp)
  have sN:Sim (· < N) ρ H w:=⟨fun g o ho=>hN g (s.live g o ho),fun g o ho=>(s.obj g o ho).mono rfl (fun _ _ h=>h) (fun g hg=>⟨rfl,hN g hg⟩),s.inj,s.lay⟩
  have aN:LRel (Kof ρ H w) ρ (· < N) args cargs.toList:=⟨ha.1,fun j v c hv hc=>(ha.2 j v c hv hc).mono (fun _ _ h=>h) (fun g hg=>⟨rfl,hN g hg⟩)⟩
  have hrdA:∀ g∈rd,A g:=fun g hg=>by
    obtain ⟨o,ho⟩:=Option.isSome_iff_exists.1 (hrd g hg)
    exact s.live g o ((hag g hg).trans ho)
  refine zan (h H N (fun g hg=>⟨hag g hg,hN g (hrdA g hg)⟩) ρ w cargs sN aN) fun cv w' ⟨v,H',nx',ρ',⟨gn,hgN,hgn,hv,hsame,hchg,onew,onew',hn1,hn2,hn3⟩,q3,q4,q5⟩ => ?_
  have hρ:∀ g,g < N→ρ' g=ρ g:=fun g hg=>(q5.agree g hg).1
  let ρ2:Nat→Loc:=fun g=>if g=g0 then ρ' gn else ρ' g
  have h20:ρ2 g0=ρ' gn:=if_pos rfl
  have h2:∀ g,g ≠ g0→ρ2 g=ρ' g:=fun g hg=>if_neg hg
  have hAne:∀ g,A g→g ≠ g0:=fun g hg e=>hg0 (e ▸ hg)
  have hR:∀ g,g∈rd→g < nx'→ρ2 g=ρ' g∧(A g∨g∈[g0]):=fun g hg _=>⟨h2 g (hAne g (hrdA g hg)),.inl (hrdA g hg)⟩
  have hRA:∀ g,g∈rd→g < nx':=fun g hg=>by have:=hN g (hrdA g hg); omega
  have hG:ρ2 g0=ρ' gn∧(A g0∨g0∈[g0]):=⟨h20,.inr (by simp)⟩
  -- who stands for whom
  have lv : ∀ g o,(H.apply D) g=some o→(A g∨g∈[g0])∧∃ g' o',H' g'=some o'∧ρ2 g=ρ' g'∧(g=g0→g'=gn)∧(g ≠ g0→g'=g∧A g) ∧
      (∀ K,zay K ρ' (· < nx') w' (ρ' g') o'→zay K ρ2 (fun x=>A x∨x∈[g0]) w' (ρ2 g) o):=fun g o ho=>by
    by_cases hgg:g=g0
    · subst hgg
      rw [hn1] at ho
      obtain rfl:=Option.some.inj ho
      exact ⟨.inr (by simp),gn,onew',hn2,h20,fun _=>rfl,fun h=>absurd rfl h,fun K hk=>by rw [h20]; exact hk.rn hn3 hR hRA hG⟩
    · by_cases hg:g∈domD D
      · obtain ⟨o',h1,h3⟩:=hchg g o hg hgg ho
        have hA:A g:=by
          rcases hdom g hg with h | h
          · exact hrdA g h
          · exact absurd h hgg
        exact ⟨.inl hA,g,o',h1,h2 g hgg,fun h=>absurd h hgg,fun _=>⟨rfl,hA⟩,fun K hk=>by rw [h2 g hgg]; exact hk.rn h3 hR hRA hG⟩
      · rw [zky hg] at ho
        have hA:=s.live g o ho
        refine ⟨.inl hA,g,o,by rw [hsame g (hN g hA) hg]; exact ho,h2 g hgg,fun h=>absurd h hgg,fun _=>⟨rfl,hA⟩,fun K hk => ?_⟩
        rw [h2 g hgg]
        exact (hk.restrict (s.obj g o ho).bel).mono rfl (fun _ _ h=>h) (fun x hx=>⟨h2 x (hAne x hx),.inl hx⟩)
  have hK:∀ b o,Kof ρ' H' w' b=some o→Kof ρ2 (H.apply D) w' b=some o:=fun b o hb=>by
    obtain ⟨k1,k2⟩:=zag.1 hb
    refine zag.2 ⟨fun g hg => ?_,k2⟩
    obtain ⟨o1,ho1⟩:=Option.isSome_iff_exists.1 hg
    obtain ⟨_,g',o',e1,e2,_⟩:=lv g o1 ho1
    rw [e2]
    exact k1 g' (by rw [e1]; rfl)
  refine ⟨ρ2,⟨fun g o ho=>(lv g o ho).1,fun g o ho => ?_,fun x y hx hy hxy => ?_,q3.lay.mono hK⟩,?_,⟨fun g hg=>⟨(h2 g (hAne g hg)).trans (hρ g (hN g hg)),.inl hg⟩,fun b o hb=>hK b o (q5.k b o hb),q5.os,q5.tape,q5.output,q5.size⟩⟩
  · obtain ⟨_,g',o',e1,_,_,_,e4⟩:=lv g o ho
    exact (e4 _ (q3.obj g' o' e1)).mono rfl hK (fun _ h=>⟨rfl,h⟩)
  · obtain ⟨o1,ho1⟩:=Option.isSome_iff_exists.1 hx
    obtain ⟨o2,ho2⟩:=Option.isSome_iff_exists.1 hy
    obtain ⟨_,x',p1,e1,e2,e3,e4,_⟩:=lv x o1 ho1
    obtain ⟨_,y',p2,f1,f2,f3,f4,_⟩:=lv y o2 ho2
    rw [e2,f2] at hxy
    have hxy':=q3.inj x' y' (by rw [e1]; rfl) (by rw [f1]; rfl) hxy
    by_cases hx0:x=g0
    · by_cases hy0:y=g0
      · rw [hx0,hy0]
      · have:=(f4 hy0).1
        have hAy:=hN y (f4 hy0).2
        have:=e3 hx0
        omega
    · by_cases hy0:y=g0
      · have:=(e4 hx0).1
        have hAx:=hN x (e4 hx0).2
        have:=f3 hy0
        omega
      · rw [← (e4 hx0).1,← (f4 hy0).1]; exact hxy'
  · exact (q4.rn hv hR hRA hG).mono hK (fun g hg=>⟨rfl,hg⟩)
end Go.Proofs.YtdmibdjokofclaaDoor
set_option maxRecDepth 8000
namespace Go.Proofs.YtdmibdjokofclaaDoor
open Go Go.RowKit
def zbn:Nat→List Nat→List (AV×AV)
  | _,[]=>[]
  | k,n :: r=>(.int .i64 n,.int .i64 k) :: zbn (k+1) r
def zfq (o:List Nat):List (AV×AV):=zbn 0 o
def zbb (o:List Nat):List AV:=o.map fun (n:Nat)=>AV.int .i64 (n:Int)
@[simp] theorem zarj (o:List Nat):(zbb o).length=o.length:=by simp [zbb]
theorem zxh (o:List Nat) (n:Nat):zfq (o ++ [n])=zfq o ++ [(.int .i64 n,.int .i64 o.length)]:=by
  have:∀ k,zbn k (o ++ [n])=zbn k o ++ [(.int .i64 n,.int .i64 (k+o.length:Nat))]:=by
    induction o with
    | nil=>intro k; rfl
    | cons a r ih=>intro k; simp only [List.cons_append,zbn,ih (k+1),List.length_cons]; rw [show k+1+r.length=k+(r.length+1) by omega]
  simpa [zfq] using this 0
theorem zpr (o:List Nat) (n:Nat):zbd (.int .i64 n) (zfq o)=some (if n∈o then some (o.idxOf n,.int .i64 (o.idxOf n:Nat)) else none):=by
  have : ∀ k,zbd (.int .i64 n) (zbn k o)=some (if n∈o then some (o.idxOf n,.int .i64 (k+o.idxOf n:Nat)) else none):=by
    induction o with
    | nil=>intro k; simp [zbn]
    | cons a r ih =>
      intro k
      rw [zbn,zku]
      by_cases h:n=a
      · subst h; simp
      · have h1:¬ ((n:Int)=a):=by omega
        have h2:¬ (a=n):=fun e=>h e.symm
        rw [if_neg h1,ih (k+1)]
        by_cases hm:n∈r
        · simp [hm,h]
          have hb:(a == n)=false:=by simpa using h2
          rw [List.idxOf_cons,hb,cond_false]
          omega
        · simp [hm,h]
  simpa [zfq] using this 0
structure zfj (H:Heap) (g1 g2 gm gr:Nat) (o:List Nat):Prop where
  m1:H g1=some (.row 1 [.amap gm])
  mm:H gm=some (.mp (zfq o))
  m2:H g2=some (.row 1 [if o=[] then .nils else .slc gr 0 o.length])
  mr:o ≠ []→H gr=some (.row 1 (zbb o))
  d12:g1 ≠ g2
  d1m:g1 ≠ gm
  d2m:g2 ≠ gm
  dr:o ≠ []→gr ≠ g1∧gr ≠ g2∧gr ≠ gm
theorem zju {o:List Nat} {v:Val} (h:v.kind=2∧v.n.toNat∉o):VM.meet o v=o ++ [v.n.toNat]:=if_pos h
theorem znh {o:List Nat} {v:Val} (h:¬ (v.kind=2∧v.n.toNat∉o)):VM.meet o v=o:=if_neg h
set_option maxHeartbeats 2000000 in
theorem zus (v:Val) (o:List Nat) (hv:v.kind=2→0≤v.n) (ho:(o.length+1)*8≤140737488355328) {H:Heap} {nx g1 g2 gm gr:Nat} (st:zfj H g1 g2 gm gr o) (l1:g1 < nx) (l2:g2 < nx) (lm:gm < nx) (lr:o ≠ []→gr < nx) :
    za Tryd.prog 69 [.agg v.avs,.ptr g1 0,.ptr g2 0] H nx fun r H' nx'=>r=.agg (VM.put (VM.meet o v) v).avs∧nx≤nx' ∧
      (¬ (v.kind=2∧v.n.toNat∉o)→∀ g,g < nx→H' g=H g) ∧
      ((v.kind=2∧v.n.toNat∉o)→∃ gn,nx≤gn∧gn < nx'∧H' gm=some (.mp (zfq (o ++ [v.n.toNat])))∧H' g2=some (.row 1 [.slc gn 0 (o.length+1)])∧H' gn=some (.row 1 (zbb (o ++ [v.n.toNat])))∧(o ≠ []→H' gr=none) ∧
        ∀ g,g < nx→g ≠ gm→g ≠ g2→(o ≠ []→g ≠ gr)→H' g=H g):=by
  refine zvf _ _ _ H nx _ ?_
  obtain ⟨k,n,s⟩:=v
  obtain ⟨m1,mm,m2,mr,d12,d1m,d2m,dr⟩:=st
  have n1:g1 ≠ nx:=by omega
  have n1':g1 ≠ nx+1:=by omega
  have n2:g2 ≠ nx:=by omega
  have n2':g2 ≠ nx+1:=by omega
  have n2'':g2 ≠ nx+2:=by omega
  have nm:gm ≠ nx:=by omega
  have nm':gm ≠ nx+1:=by omega
  have keep2:∀ (a b:Option AObj) g,g < nx→((H.put nx a).put (nx+1) b) g=H g:=fun a b g hg=>by
    rw [Heap.put_ne _ _ (by omega),Heap.put_ne _ _ (by omega)]
  by_cases hk:k=2
  case neg =>
    have e:VM.put (VM.meet o ⟨k,n,s⟩) ⟨k,n,s⟩=⟨k,n,s⟩:=if_neg hk
    simp [zdp,Val.avs,hk,e]
    intro g hg
    repeat rw [if_neg (by omega)]
  subst hk
  obtain ⟨m,rfl⟩:∃ m:Nat,n=m:=⟨n.toNat,by have:=hv rfl; simp only at this; omega⟩
  simp only [Int.toNat_natCast,true_and] at *
  by_cases hmo:m∈o
  · have e1:VM.meet o ⟨2,m,s⟩=o:=znh (by simp [hmo])
    have e:VM.put (VM.meet o ⟨2,m,s⟩) ⟨2,m,s⟩=⟨2,(o.idxOf m:Nat),s⟩:=by rw [e1]; rfl
    simp [zdp,Val.avs,e,n1,n1',nm,nm',m1,mm,zpr,hmo]
    intro g hg
    repeat rw [if_neg (by omega)]
  · have e1:VM.meet o ⟨2,m,s⟩=o ++ [m]:=zju (by simp [hmo])
    have e:VM.put (VM.meet o ⟨2,m,s⟩) ⟨2,m,s⟩=⟨2,o.length,s⟩:=by
      rw [e1]; unfold VM.put; simp only [if_true,Int.toNat_natCast]
      rw [List.idxOf_append,if_neg hmo]; simp
    by_cases h0:o=[]
    · subst h0
      simp at m2
      have ne_0:g1 ≠ g2∧g2 ≠ g1∧g1 ≠ gm∧gm ≠ g1∧g2 ≠ gm∧gm ≠ g2∧g1 ≠ nx∧nx ≠ g1∧g1 ≠ nx+1∧nx+1 ≠ g1∧g1 ≠ nx+2∧nx+2 ≠ g1∧g1 ≠ nx+3∧nx+3 ≠ g1∧g2 ≠ nx∧nx ≠ g2∧g2 ≠ nx+1∧nx+1 ≠ g2∧g2 ≠ nx+2∧nx+2 ≠ g2∧g2 ≠ nx+3∧nx+3 ≠ g2∧gm ≠ nx∧nx ≠ gm∧gm ≠ nx+1∧nx+1 ≠ gm∧gm ≠ nx+2∧nx+2 ≠ gm∧gm ≠ nx+3∧nx+3 ≠ gm:=⟨by omega,by omega,by omega,by omega,by omega,by omega,by omega,by omega,by omega,by omega,by omega,by omega,by omega,by omega,by omega,by omega,by omega,by omega,by omega,by omega,by omega,by omega,by omega,by omega,by omega,by omega,by omega,by omega,by omega,by omega⟩
      simp [zdp,Val.avs,e,m1,mm,m2,zpr,ne_0]
      refine ⟨by omega,nx+3,by omega,by omega,by simpa using (zxh [] m).symm,rfl,?_,fun g hg h1 h2 => ?_⟩
      · simp [zbb,ne_0]
      · repeat rw [if_neg (by omega)]
    · obtain ⟨r1,r2,r3⟩:=dr h0
      have mr':=mr h0
      have lr':=lr h0
      simp [h0] at m2
      have ne_1:g1 ≠ g2∧g2 ≠ g1∧g1 ≠ gm∧gm ≠ g1∧g1 ≠ gr∧gr ≠ g1∧g2 ≠ gm∧gm ≠ g2∧g2 ≠ gr∧gr ≠ g2∧gm ≠ gr∧gr ≠ gm∧g1 ≠ nx∧nx ≠ g1∧g1 ≠ nx+1∧nx+1 ≠ g1∧g1 ≠ nx+2∧nx+2 ≠ g1∧g1 ≠ nx+3∧nx+3 ≠ g1∧g2 ≠ nx∧nx ≠ g2∧g2 ≠ nx+1∧nx+1 ≠ g2∧g2 ≠ nx+2∧nx+2 ≠ g2∧g2 ≠ nx+3∧nx+3 ≠ g2∧gm ≠ nx∧nx ≠ gm∧gm ≠ nx+1∧nx+1 ≠ gm∧gm ≠ nx+2∧nx+2 ≠ gm∧gm ≠ nx+3∧nx+3 ≠ gm∧gr ≠ nx∧nx ≠ gr∧gr ≠ nx+1∧nx+1 ≠ gr∧gr ≠ nx+2∧nx+2 ≠ gr∧gr ≠ nx+3∧nx+3 ≠ gr:=⟨by omega,by omega,by omega,by omega,by omega,by omega,by omega,by omega,by omega,by omega,by omega,by omega,by omega,by omega,by omega,by omega,by omega,by omega,by omega,by omega,by omega,by omega,by omega,by omega,by omega,by omega,by omega,by omega,by omega,by omega,by omega,by omega,by omega,by omega,by omega,by omega,by omega,by omega,by omega,by omega,by omega,by omega,by omega,by omega⟩
      simp [zdp,Val.avs,e,m1,mm,m2,mr',zpr,hmo,ne_1]
      have htk:List.take o.length (zbb o)=zbb o:=List.take_of_length_le (by simp)
      refine ⟨ho,by omega,nx+3,by omega,by omega,(zxh o m).symm,rfl,?_,fun g hg h1 h2 h3 => ?_⟩
      · simp [htk,ne_1]
        simp [zbb]
      · have h3':=h3 h0
        repeat rw [if_neg (by omega)]
end Go.Proofs.YtdmibdjokofclaaDoor
set_option maxRecDepth 8000
namespace Go.Proofs.YtdmibdjokofclaaDoor
open Go Go.RowKit
theorem zbf {sz:Nat}:∀ {xs:List (List AV)},(∀ x∈xs,x.length=sz)→xs.flatten.length=xs.length*sz
  | [],_=>by simp
  | y :: r,hs=>by rw [List.flatten_cons,List.length_append,zbf fun z hz=>hs z (by simp [hz]),hs y (by simp),List.length_cons,Nat.succ_mul,Nat.add_comm]
theorem zgb {sz:Nat}:∀ {xs:List (List AV)},(∀ x∈xs,x.length=sz)→∀ {i:Nat} {x:List AV},xs[i]? = some x→(xs.flatten.drop (i*sz)).take sz=x
  | [],_,i,x,hx=>by simp at hx
  | y :: r,hs,0,x,hx=>by
    simp at hx; subst hx
    rw [Nat.zero_mul,List.drop_zero,List.flatten_cons,List.take_append_of_le_length (by rw [hs y (by simp)]; omega),List.take_of_length_le (by rw [hs y (by simp)]; omega)]
  | y :: r,hs,i+1,x,hx=>by
    have hy:y.length=sz:=hs y (by simp)
    rw [List.flatten_cons,Nat.succ_mul,List.drop_append,List.drop_of_length_le (by omega),List.nil_append,show i*sz+sz - y.length=i*sz by omega]
    exact zgb (fun z hz=>hs z (by simp [hz])) (by simpa using hx)
inductive zau (H:Heap) (nx sz:Nat) (xs:List (List AV)):AV→Prop
  | ro:zau H nx sz xs (.ro xs)
  | slc (g:Nat):g < nx→H g=some (.row sz xs.flatten)→zau H nx sz xs (.slc g 0 xs.length)
  | nils:xs=[]→zau H nx sz xs .nils
theorem zau.keep {H H':Heap} {nx nx' sz:Nat} {xs:List (List AV)} {a:AV} (h:zau H nx sz xs a) (hk:∀ g,g < nx→H' g=H g) (hn:nx≤nx'):zau H' nx' sz xs a:=by
  cases h with
  | ro=>exact .ro
  | slc g h1 h2=>exact .slc g (by omega) (by rw [hk g h1]; exact h2)
  | nils h=>exact .nils h
theorem zau.len {H:Heap} {nx sz:Nat} {xs:List (List AV)} {a:AV} (h:zau H nx sz xs a) {k:AV→Prop}:LNL a k=k (.int .i64 xs.length):=by
  cases h with
  | ro=>simp
  | slc g h1 h2=>simp
  | nils h=>subst h; simp
theorem zau.ld {H:Heap} {nx sz:Nat} {xs:List (List AV)} {a:AV} (h:zau H nx sz xs a) (hs:∀ x∈xs,x.length=sz) {ki:IntKind} {i:Nat} {x:List AV} (hx:xs[i]? = some x) {k:AV→Prop} (hk:k (.agg x)):IA sz a (.int ki i) fun p=>LD true sz p H k:=by
  obtain ⟨hi,hx'⟩:=List.getElem?_eq_some_iff.1 hx
  have hxl:x.length=sz:=hs x (List.mem_of_getElem? hx)
  cases h with
  | ro =>
    rw [zaob]
    have e:xs.getD i []=x:=by simp [List.getD_eq_getElem?_getD,hx]
    simp only [Int.toNat_natCast,e,zaid]
    refine ⟨by omega,by omega,hxl,by omega,?_⟩
    rw [List.drop_zero,List.take_of_length_le (by omega)]
    exact hk
  | slc g h1 h2 =>
    rw [zaqn]
    simp only [Int.toNat_natCast,zamh,h2,rowk]
    refine ⟨by omega,by omega,?_,?_⟩
    · rw [zbf hs]
      have:(i+1)*sz≤xs.length*sz:=Nat.mul_le_mul_right _ hi
      rw [Nat.succ_mul] at this; omega
    · rw [Nat.zero_add,zgb hs hx]; exact hk
  | nils h=>subst h; simp at hx
theorem zau.src {H:Heap} {nx sz:Nat} {xs:List (List AV)} {a:AV} (h:zau H nx sz xs a) (hs:∀ x∈xs,x.length=sz):∃ rd,zm sz H a=some (xs.length,xs.flatten,rd):=by
  cases h with
  | ro=>exact ⟨[],zcw hs⟩
  | slc g h1 h2 =>
    refine ⟨[g],?_⟩
    have hl:=zbf hs
    simp only [zm,h2,Nat.zero_add,List.drop_zero]
    rw [if_pos (by omega),List.take_of_length_le (by omega)]
  | nils h=>subst h; exact ⟨[],rfl⟩
theorem zau.frz {H:Heap} {nx sz:Nat} {xs:List (List AV)} {a:AV} (h:zau H nx sz xs a) (hs:∀ x∈xs,x.length=sz) (hf:∀ x∈xs,∀ v∈x,flat v=true∧Bel (fun _=>False) v) (hro:Bel (fun _=>False) (.ro xs)):Frz H 0 a (.ro xs):=by
  have hb:∀ c∈xs.flatten,Bel (fun x=>x < 0) c:=by
    intro c hc
    obtain ⟨x,hx,hcx⟩:=List.mem_flatten.1 hc
    exact (hf x hx c hcx).2.mono fun _ h=>h.elim
  cases h with
  | ro=>exact .same _ (hro.mono fun _ h=>h.elim)
  | slc g h1 h2=>exact Frz.row (Nat.zero_le _) h2 rfl hs rfl hb
  | nils h=>subst h; exact .nils
end Go.Proofs.YtdmibdjokofclaaDoor
set_option maxRecDepth 8000
namespace Go.Proofs.YtdmibdjokofclaaDoor
open Go Go.RowKit
def rowV (l:List Val):List AV:=(l.map Val.avs).flatten
def rowC (h:List Cl):List AV:=(h.map Cl.avs).flatten
theorem zbw (l:List Val):∀ x∈l.map Val.avs,x.length=3:=by intro x hx; obtain ⟨v,_,rfl⟩:=List.mem_map.1 hx; rfl
theorem zbj (l:List Cl):∀ x∈l.map Cl.avs,x.length=6:=by intro x hx; obtain ⟨v,_,rfl⟩:=List.mem_map.1 hx; rfl
@[simp] theorem zatx (l:List Val):(rowV l).length=l.length*3:=by rw [rowV,zbf (zbw l)]; simp
@[simp] theorem zaty (l:List Cl):(rowC l).length=l.length*6:=by rw [rowC,zbf (zbj l)]; simp
theorem zat (v:Val):∀ c∈v.avs,scal c=true:=by intro c hc; simp [Val.avs] at hc; rcases hc with rfl | rfl | rfl <;> rfl
theorem zabf (c:Cl):∀ x∈c.avs,scal x=true:=by
  intro x hx
  rcases List.mem_append.1 hx with h | h
  · exact zat _ _ h
  · exact zat _ _ h
theorem zbq (l:List Val):∀ c∈rowV l,scal c=true:=by
  intro c hc
  obtain ⟨x,hx,hcx⟩:=List.mem_flatten.1 hc
  obtain ⟨v,_,rfl⟩:=List.mem_map.1 hx
  exact zat v c hcx
theorem zby (l:List Cl):∀ c∈rowC l,scal c=true:=by
  intro c hc
  obtain ⟨x,hx,hcx⟩:=List.mem_flatten.1 hc
  obtain ⟨v,_,rfl⟩:=List.mem_map.1 hx
  exact zabf v c hcx
theorem zae {c:AV} (h:scal c=true):c.one=true:=by cases c <;> first | (cases h; done) | rfl
theorem zacj {c:AV} (h:scal c=true):flat c=true:=by cases c <;> first | (cases h; done) | simp
theorem zbo {c:AV} {A:Nat→Prop} (h:scal c=true):Bel A c:=by cases c <;> first | (cases h; done) | exact .int _ _ | exact .str _ | exact .bool _
theorem zaek (l:List Val):(rowV l).all AV.one=true:=List.all_eq_true.2 fun c hc=>zae (zbq l c hc)
theorem zamc (l:List Cl):(rowC l).all AV.one=true:=List.all_eq_true.2 fun c hc=>zae (zby l c hc)
theorem zcn {xs:List (List AV)} {A:Nat→Prop} (h:∀ x∈xs,∀ c∈x,scal c=true):Bel A (.ro xs):=.ro xs fun i x j v hx hv=>zbo (h x (List.mem_of_getElem? hx) v (List.mem_of_getElem? hv))
theorem zek (l:List Val):∀ x∈l.map Val.avs,∀ c∈x,scal c=true:=by intro x hx; obtain ⟨v,_,rfl⟩:=List.mem_map.1 hx; exact zat v
theorem zao (l:List Cl):∀ x∈l.map Cl.avs,∀ c∈x,scal c=true:=by intro x hx; obtain ⟨v,_,rfl⟩:=List.mem_map.1 hx; exact zabf v
theorem zau.frzV {H:Heap} {nx:Nat} {l:List Val} {a:AV} (h:zau H nx 3 (l.map Val.avs) a):Frz H 0 a (.ro (l.map Val.avs)) :=
  h.frz (zbw l) (fun x hx v hv=>⟨zacj (zek l x hx v hv),zbo (zek l x hx v hv)⟩) (zcn (zek l))
theorem zau.frzC {H:Heap} {nx:Nat} {l:List Cl} {a:AV} (h:zau H nx 6 (l.map Cl.avs) a):Frz H 0 a (.ro (l.map Cl.avs)) :=
  h.frz (zbj l) (fun x hx v hv=>⟨zacj (zao l x hx v hv),zbo (zao l x hx v hv)⟩) (zcn (zao l))
theorem zmb {esz bytes:Nat} {xs:List (List AV)} {a:AV} {H:Heap} {nx:Nat} (ha:zau H nx esz xs a) (hs:∀ x∈xs,x.length=esz) (ho:xs.flatten.all AV.one=true) (hb:xs.length*bytes≤140737488355328)
    {Q:AV→Heap→Nat→Prop} (h0:xs=[]→Q .nils H nx) (h1:∀ H',H' (nx+1)=some (.row esz xs.flatten)→(∀ g,g < nx→H' g=H g)→Q (.slc (nx+1) 0 xs.length) H' (nx+2)) :
    BL BinOp.eql a AV.nils fun v1=>CNDC v1 (Q AV.nils H nx) (APP esz bytes (AV.slc nx 0 0) a (H.put nx (some (AObj.row esz []))) (nx+1) fun v2 H3 nx4=>Q v2 H3 nx4):=by
  have app:APP esz bytes (AV.slc nx 0 0) a (H.put nx (some (AObj.row esz []))) (nx+1) fun v2 H3 nx4=>Q v2 H3 nx4:=by
    obtain ⟨rd,hsrc⟩:=(ha.keep (H':=H.put nx (some (AObj.row esz []))) (nx':=nx+1) (fun g hg=>Heap.put_ne _ _ (by omega)) (by omega)).src hs
    rw [zib,hsrc]
    simp only [optk,Heap.put_at,rowk,Nat.zero_mul,Nat.zero_add,List.length_nil,List.drop_zero,List.take_nil,List.nil_append]
    refine ⟨trivial,ho,by omega,by omega,?_⟩
    refine h1 _ (Heap.put_at _ _ _) fun g hg => ?_
    rw [Heap.put_ne _ _ (by omega),Heap.put_ne _ _ (by omega),Heap.put_ne _ _ (by omega)]
  cases ha with
  | ro =>
    rw [zarz]
    refine ⟨fun h => ?_,fun h => ?_⟩
    · rw [zaff]; exact ⟨h0 h,app⟩
    · rw [zaak]; exact app
  | slc g g1 g2 =>
    rw [zaqr]
    refine ⟨fun h => ?_,fun h => ?_⟩
    · rw [zaff]; exact ⟨h0 (List.eq_nil_of_length_eq_zero h),app⟩
    · rw [zaak]; exact app
  | nils h=>rw [zaqs,zafe]; exact h0 h
theorem zakn {l:List Val} (hl:l.length*32≤140737488355328) {a:AV} {H:Heap} {nx:Nat} (ha:zau H nx 3 (l.map Val.avs) a) {Q:AV→Heap→Nat→Prop}
    (h0:l.map Val.avs=[]→Q .nils H nx) (h1:∀ H',H' (nx+1)=some (.row 3 (l.map Val.avs).flatten)→(∀ g,g < nx→H' g=H g)→Q (.slc (nx+1) 0 (l.map Val.avs).length) H' (nx+2)):zec a H nx Q:=by
  unfold zec
  exact zmb (Q:=Q) ha (zbw l) (zaek l) (by simpa using hl) h0 h1
theorem zacu (l:List Val) (hl:l.length*32≤140737488355328) {a:AV} {H:Heap} {nx:Nat} (ha:zau H nx 3 (l.map Val.avs) a) :
    za Tryd.prog 51 [a] H nx fun v H' nx'=>nx≤nx'∧Keep nx H' H∧((l=[]∧v=.nils)∨∃ g,nx≤g∧g < nx'∧v=.slc g 0 l.length∧H' g=some (.row 3 (rowV l))):=by
  refine znc _ H nx _ ?_
  refine zakn hl ha (fun h => ?_) fun H' h1 h2 => ?_
  · exact ⟨by omega,by simp,.inl ⟨by simpa using h,rfl⟩⟩
  · exact ⟨by omega,h2,.inr ⟨nx+1,by omega,by omega,by simp,h1⟩⟩
end Go.Proofs.YtdmibdjokofclaaDoor
set_option maxRecDepth 8000
namespace Go.Proofs.YtdmibdjokofclaaDoor
namespace VM
def OkV (N:Nat) (v:Val):Prop:=v.kind=2→0≤v.n∧v.n.toNat < N
def OkH (h:List Cl):Prop:=∀ (n:Nat) (c:Cl),h[n]? = some c→OkV h.length c.left∧OkV h.length c.right
structure Good (N:Nat) (o:List Nat):Prop where
  nd:o.Nodup
  lt:∀ n∈o,n < N
theorem Good.len {N:Nat} {o:List Nat} (h:Good N o):o.length≤N:=by
  have:=h.nd.length_le_of_subset (l₂:=List.range N) (fun n hn=>List.mem_range.2 (h.lt n hn))
  simpa using this
theorem Good.nil {N:Nat}:Good N []:=⟨List.nodup_nil,fun n h=>by simp at h⟩
theorem Good.meet {N:Nat} {o:List Nat} {v:Val} (h:Good N o) (hv:OkV N v):Good N (meet o v):=by
  unfold VM.meet
  split
  · rename_i hc
    refine ⟨?_,fun n hn => ?_⟩
    · rw [List.nodup_append]
      exact ⟨h.nd,by simp,fun a ha b hb e=>hc.2 (by simp at hb; rw [← hb,← e]; exact ha)⟩
    · rcases List.mem_append.1 hn with h' | h'
      · exact h.lt n h'
      · simp at h'; rw [h']; exact (hv hc.1).2
  · exact h
theorem meet_pre (o:List Nat) (v:Val):o <+: meet o v:=by
  unfold meet; split
  · exact List.prefix_append _ _
  · exact List.prefix_refl _
theorem mem_meet (o:List Nat) (v:Val) (h:v.kind=2):v.n.toNat∈meet o v:=by
  unfold meet; split
  · simp
  · rename_i hc; exact Classical.byContradiction fun hn=>hc ⟨h,hn⟩
theorem drain_pre (h:List Cl):∀ (f:Nat) (o:List Nat) (d:Nat),o <+: drain h f o d
  | 0,o,d=>List.prefix_refl _
  | f + 1,o,d=>by
    unfold drain
    split
    · exact List.prefix_refl _
    · split
      · exact List.prefix_refl _
      · exact ((meet_pre _ _).trans (meet_pre _ _)).trans (drain_pre h f _ _)
theorem drain_good {h:List Cl} (hh:OkH h):∀ (f:Nat) (o:List Nat) (d:Nat),Good h.length o→Good h.length (drain h f o d)
  | 0,o,d,g=>g
  | f + 1,o,d,g=>by
    unfold drain
    split
    · exact g
    · split
      · exact g
      · rename_i c hc
        exact drain_good hh f _ _ ((g.meet (hh _ c hc).1).meet (hh _ c hc).2)
theorem orderGo_pre (h:List Cl):∀ (l:List Val) (o:List Nat),o <+: orderGo h l o
  | [],o=>List.prefix_refl _
  | v :: r,o=>((meet_pre o v).trans (drain_pre h _ _ _)).trans (orderGo_pre h r _)
theorem orderGo_good {h:List Cl} (hh:OkH h):∀ (l:List Val) (o:List Nat),(∀ v∈l,OkV h.length v)→Good h.length o→Good h.length (orderGo h l o)
  | [],o,_,g=>g
  | v :: r,o,hl,g=>orderGo_good hh r _ (fun x hx=>hl x (by simp [hx])) (drain_good hh _ _ _ (g.meet (hl v (by simp))))
theorem drain_step {h:List Cl} {f:Nat} {o:List Nat} {d n:Nat} {c:Cl} (hn:o[d]? = some n) (hc:h[n]? = some c):drain h (f+1) o d=drain h f (meet (meet o c.left) c.right) (d+1):=by
  rw [drain]; simp only [hn,hc]
theorem drain_end {h:List Cl} {f:Nat} {o:List Nat} {d:Nat} (hd:o.length≤d):drain h f o d=o:=by
  cases f with
  | zero=>rfl
  | succ f=>rw [drain,List.getElem?_eq_none hd]
theorem idx_pre {o F:List Nat} (h:o <+: F) {n:Nat} (hn:n∈o):o.idxOf n=F.idxOf n:=by
  obtain ⟨t,rfl⟩:=h
  rw [List.idxOf_append,if_pos hn]
theorem put_pre {o F:List Nat} (h:o <+: F) {v:Val} (hv:v.kind=2→v.n.toNat∈o):put o v=put F v:=by
  unfold put
  split
  · rename_i hk; rw [idx_pre h (hv hk)]
  · rfl
theorem drain_more {h:List Cl}:∀ (f:Nat) (o:List Nat) (d:Nat),(drain h f o d).length≤d+f→∀ f',f≤f'→drain h f' o d=drain h f o d
  | 0,o,d,hl,f',_=>drain_end (by simpa [drain] using hl)
  | f + 1,o,d,hl,f',hf=>by
    obtain ⟨f'',rfl⟩:∃ f'',f'=f''+1:=⟨f' - 1,by omega⟩
    cases hn:o[d]? with
    | none=>rw [drain_end (List.getElem?_eq_none_iff.1 hn),drain_end (List.getElem?_eq_none_iff.1 hn)]
    | some n =>
      cases hc:h[n]? with
      | none=>rw [drain,drain]; simp only [hn,hc]
      | some c =>
        rw [drain_step hn hc] at hl ⊢
        rw [drain_step hn hc]
        exact drain_more f _ _ (by omega) f'' (by omega)
def In (o:List Nat) (v:Val):Prop:=v.kind=2→v.n.toNat∈o
def Shut (h:List Cl) (o:List Nat) (d:Nat):Prop:=∀ (j n:Nat) (c:Cl),j < d→o[j]? = some n→h[n]? = some c→In o c.left∧In o c.right
theorem In.pre {o F:List Nat} {v:Val} (h:In o v) (p:o <+: F):In F v:=fun hk=>p.subset (h hk)
theorem drain_shut {h:List Cl}:∀ (f:Nat) (o:List Nat) (d:Nat),(∀ n∈drain h f o d,n < h.length)→d≤o.length→Shut h o d→(drain h f o d).length≤d+f→Shut h (drain h f o d) (drain h f o d).length
  | 0,o,d,_,hd,hs,hl=>by
    have:o.length=d:=by have:(drain h 0 o d).length=o.length:=rfl; omega
    show Shut h o o.length
    rw [this]; exact hs
  | f + 1, o,d,hlt,hd,hs,hl=>by
    cases hn:o[d]? with
    | none =>
      have e:drain h (f+1) o d=o:=by rw [drain,hn]
      have:o.length=d:=by have:=List.getElem?_eq_none_iff.1 hn; omega
      rw [e,this]; exact hs
    | some n =>
      cases hc:h[n]? with
      | none =>
        have e:drain h (f+1) o d=o:=by rw [drain]; simp only [hn,hc]
        rw [e] at hlt
        have:=hlt n (List.mem_of_getElem? hn)
        rw [List.getElem?_eq_getElem this] at hc; cases hc
      | some c =>
        have e:=drain_step (f:=f) hn hc
        rw [e] at hlt hl ⊢
        have p:=(meet_pre o c.left).trans (meet_pre (meet o c.left) c.right)
        have hd':=(List.getElem?_eq_some_iff.1 hn).1
        refine drain_shut f _ _ hlt (by have:=p.length_le; omega) (fun j n' c' hj hj' hc' => ?_) (by omega)
        have hjo:o[j]? = some n':=by
          obtain ⟨t,ht⟩:=p
          rw [← ht,List.getElem?_append_left (by omega)] at hj'
          exact hj'
        by_cases hjd:j=d
        · subst hjd
          rw [hn] at hjo
          obtain rfl:=Option.some.inj hjo
          rw [hc] at hc'
          obtain rfl:=Option.some.inj hc'
          exact ⟨fun hk=>(meet_pre _ _).subset (mem_meet o _ hk),fun hk=>mem_meet _ _ hk⟩
        · obtain ⟨a,b⟩:=hs j n' c' (by omega) hjo hc'
          exact ⟨a.pre p,b.pre p⟩
theorem orderGo_shut {h:List Cl} (hh:OkH h):∀ (l:List Val) (o:List Nat),(∀ v∈l,OkV h.length v)→Good h.length o→Shut h o o.length→Shut h (orderGo h l o) (orderGo h l o).length∧∀ v∈l,In (orderGo h l o) v
  | [],o,_,_,hs=>⟨hs,fun v hv=>by simp at hv⟩
  | v :: r,o,hl,g,hs=>by
    have g1:=g.meet (hl v (by simp))
    have g2:=drain_good hh (h.length - o.length) (meet o v) o.length g1
    have hlen:=g.len
    have p:=meet_pre o v
    have s2:Shut h (drain h (h.length - o.length) (meet o v) o.length) _:=drain_shut (h.length - o.length) (meet o v) o.length g2.lt p.length_le (fun j n c hj hn hc=>by
      have hjo:o[j]? = some n:=by
        obtain ⟨t,ht⟩:=p
        rw [← ht,List.getElem?_append_left hj] at hn
        exact hn
      obtain ⟨a,b⟩:=hs j n c hj hjo hc
      exact ⟨a.pre p,b.pre p⟩) (by have:=g2.len; omega)
    obtain ⟨q1,q2⟩:=orderGo_shut hh r _ (fun x hx=>hl x (by simp [hx])) g2 s2
    refine ⟨q1,fun x hx => ?_⟩
    rcases List.mem_cons.1 hx with rfl | hx
    · exact fun hk=>(orderGo_pre h r _).subset ((drain_pre h _ _ _).subset (mem_meet o _ hk))
    · exact q2 x hx
def ren (π:Nat→Nat) (v:Val):Val:=if v.kind=2 then { v with n:=(π v.n.toNat:Nat) } else v
theorem ren_kind (π:Nat→Nat) (v:Val):(ren π v).kind=v.kind:=by unfold ren; split <;> rfl
structure Turn (h g:List Cl) (π:Nat→Nat) (D:Nat→Prop):Prop where
  inj:∀ a b,D a→D b→π a=π b→a=b
  cell:∀ n,D n→∃ c,h[n]? = some c∧g[π n]? = some ⟨ren π c.left,ren π c.right⟩∧(c.left.kind=2→D c.left.n.toNat)∧(c.right.kind=2→D c.right.n.toNat)
theorem meet_turn {h g:List Cl} {π:Nat→Nat} {D:Nat→Prop} (t:Turn h g π D) {o:List Nat} {v:Val} (ho:∀ n∈o,D n) (hv:v.kind=2→D v.n.toNat):meet (o.map π) (ren π v)=(meet o v).map π∧∀ n∈meet o v,D n:=by
  by_cases hk:v.kind=2
  · have e:(ren π v).n.toNat=π v.n.toNat:=by unfold ren; rw [if_pos hk]; simp
    have hm:π v.n.toNat∈o.map π↔v.n.toNat∈o:=by
      constructor
      · intro h
        obtain ⟨a,ha,he⟩:=List.mem_map.1 h
        rw [← t.inj a _ (ho a ha) (hv hk) he]; exact ha
      · exact fun h=>List.mem_map_of_mem h
    unfold meet
    rw [ren_kind,e]
    by_cases hi:v.n.toNat∈o
    · rw [if_neg (fun h=>h.2 (hm.2 hi)),if_neg (fun h=>h.2 hi)]; exact ⟨rfl,ho⟩
    · rw [if_pos ⟨hk,fun h=>hi (hm.1 h)⟩,if_pos ⟨hk,hi⟩]
      refine ⟨by simp,fun n hn => ?_⟩
      rcases List.mem_append.1 hn with h' | h'
      · exact ho n h'
      · simp at h'; rw [h']; exact hv hk
  · unfold meet
    rw [ren_kind,if_neg (fun h=>hk h.1),if_neg (fun h=>hk h.1)]; exact ⟨rfl,ho⟩
theorem drain_turn {h g:List Cl} {π:Nat→Nat} {D:Nat→Prop} (t:Turn h g π D):∀ (f:Nat) (o:List Nat) (d:Nat),(∀ n∈o,D n)→drain g f (o.map π) d=(drain h f o d).map π∧∀ n∈drain h f o d,D n
  | 0,o,d,ho=>⟨rfl,ho⟩
  | f + 1,o,d,ho=>by
    cases hn:o[d]? with
    | none =>
      have e1:drain h (f+1) o d=o:=by rw [drain,hn]
      have e2:drain g (f+1) (o.map π) d=o.map π:=by rw [drain,List.getElem?_map,hn]; rfl
      rw [e1,e2]; exact ⟨rfl,ho⟩
    | some n =>
      obtain ⟨c,hc,hg,dl,dr⟩:=t.cell n (ho n (List.mem_of_getElem? hn))
      have hn':(o.map π)[d]? = some (π n):=by rw [List.getElem?_map,hn]; rfl
      rw [drain_step hn hc,drain_step hn' hg]
      obtain ⟨m1,m2⟩:=meet_turn t ho dl
      obtain ⟨m3,m4⟩:=meet_turn t m2 dr
      rw [m1,m3]
      exact drain_turn t f _ _ m4
theorem orderGo_turn {h g:List Cl} {π:Nat→Nat} {D:Nat→Prop} (t:Turn h g π D) (hh:OkH h) (hg:OkH g):∀ (l:List Val) (o:List Nat),(∀ v∈l,OkV h.length v)→(∀ v∈l,v.kind=2→D v.n.toNat)→(∀ v∈l,OkV g.length (ren π v)) →
    Good h.length o→Good g.length (o.map π)→(∀ n∈o,D n)→orderGo g (l.map (ren π)) (o.map π)=(orderGo h l o).map π∧∀ n∈orderGo h l o,D n
  | [],o,_,_,_,_,_,ho=>⟨rfl,ho⟩
  | v :: r,o,hl,hd,hl',g1,g2,ho=>by
    obtain ⟨m1,m2⟩:=meet_turn t ho (hd v (by simp))
    have e1:=drain_good hh (h.length - o.length) (meet o v) o.length (g1.meet (hl v (by simp)))
    have e2:=drain_good hg (g.length - (o.map π).length) (meet (o.map π) (ren π v)) (o.map π).length (g2.meet (hl' v (by simp)))
    have l1:=g1.len
    have l2:=g2.len
    obtain ⟨F,f1,f2⟩:∃ F,h.length - o.length≤F∧g.length - (o.map π).length≤F:=⟨max (h.length - o.length) (g.length - (o.map π).length),by omega,by omega⟩
    have x1:=drain_more (h:=h) (h.length - o.length) (meet o v) o.length (by have:=e1.len; omega) F f1
    have x2:=drain_more (h:=g) (g.length - (o.map π).length) (meet (o.map π) (ren π v)) (o.map π).length (by have:=e2.len; omega) F f2
    have x3:=drain_turn t F (meet o v) o.length m2
    have key:drain g (g.length - (o.map π).length) (meet (o.map π) (ren π v)) (o.map π).length=(drain h (h.length - o.length) (meet o v) o.length).map π:=by
      rw [← x1,← x2,m1,List.length_map,x3.1]
    show orderGo g (r.map (ren π)) (drain g (g.length - (o.map π).length) (meet (o.map π) (ren π v)) (o.map π).length)=(orderGo h r (drain h (h.length - o.length) (meet o v) o.length)).map π∧∀ n∈orderGo h r (drain h (h.length - o.length) (meet o v) o.length),D n
    rw [key]
    refine orderGo_turn t hh hg r _ (fun x hx=>hl x (by simp [hx])) (fun x hx=>hd x (by simp [hx])) (fun x hx=>hl' x (by simp [hx])) e1 ?_ ?_
    · rw [← key]; exact e2
    · rw [← x1]; exact x3.2
end VM
end Go.Proofs.YtdmibdjokofclaaDoor
set_option maxRecDepth 8000
namespace Go.Proofs.YtdmibdjokofclaaDoor
open Go Go.RowKit
theorem zagh (o:List Nat):∀ (j:Nat) (kv:AV×AV),(zfq o)[j]? = some kv→scal kv.1=true∧scal kv.2=true:=by
  have : ∀ k (j:Nat) (kv:AV×AV),(zbn k o)[j]? = some kv→scal kv.1=true∧scal kv.2=true:=by
    induction o with
    | nil=>intro k j kv h; simp [zbn] at h
    | cons a r ih =>
      intro k j kv h
      cases j with
      | zero=>simp [zbn] at h; subst h; exact ⟨rfl,rfl⟩
      | succ j=>exact ih (k+1) j kv (by simpa [zbn] using h)
  exact this 0
theorem zagg (o:List Nat):∀ (j:Nat) (v:AV),(zbb o)[j]? = some v→scal v=true:=by
  intro j v h
  unfold zbb at h
  rw [List.getElem?_map] at h
  obtain ⟨a,_,rfl⟩:=Option.map_eq_some_iff.1 h
  rfl
theorem zabg {R:Nat→Prop} {gn g0:Nat} {v u:AV} (h:scal v=true) (e:u=v):Rn R gn g0 v u:=by subst e; exact .same _ (zbo h)
theorem zaem (v:Val) (o:List Nat) (hv:v.kind=2→0≤v.n) (ho:(o.length+1)*8≤140737488355328) (hne:o ≠ []) {H:Heap} {nx g1 g2 gm gr:Nat} (st:zfj H g1 g2 gm gr o) (l1:g1 < nx) (l2:g2 < nx) (lm:gm < nx) (lr:gr < nx) {k:Kt}
    (h0:¬ (v.kind=2∧v.n.toNat∉o)→k (.agg (VM.put (VM.meet o v) v).avs) [g1,g2,gm,gr] [] [])
    (h1:v.kind=2∧v.n.toNat∉o→k (.agg (VM.put (VM.meet o v) v).avs) [g1,g2,gm,gr] [nx] [(gm,some (.mp (zfq (o ++ [v.n.toNat])))),(gr,none),(g2,some (.row 1 [.slc nx 0 (o.length+1)])),(nx,some (.row 1 (zbb (o ++ [v.n.toNat]))))]) :
    zo Tryd.prog (.clo 69 [.ptr g1 0,.ptr g2 0]) [.agg v.avs] H nx k:=by
  have hsome:∀ g∈[g1,g2,gm,gr],(H g).isSome=true:=by
    intro g hg
    simp at hg
    rcases hg with rfl | rfl | rfl | rfl
    · rw [st.m1]; rfl
    · rw [st.m2]; rfl
    · rw [st.mm]; rfl
    · rw [st.mr hne]; rfl
  have move:∀ H':Heap,(∀ g∈[g1,g2,gm,gr],H' g=H g)→zfj H' g1 g2 gm gr o:=fun H' ha =>
    ⟨by rw [ha g1 (by simp)]; exact st.m1,by rw [ha gm (by simp)]; exact st.mm,by rw [ha g2 (by simp)]; exact st.m2,fun h=>by rw [ha gr (by simp)]; exact st.mr h,st.d12,st.d1m,st.d2m,st.dr⟩
  obtain ⟨r1,r2,r3⟩:=st.dr hne
  by_cases hnew:v.kind=2∧v.n.toNat∉o
  · refine ⟨_,[g1,g2,gm,gr],[nx],_,.inr (.inl rfl),LC.of_calls1 hsome ?_ ?_,h1 hnew⟩
    · intro g hg
      simp at hg ⊢
      rcases hg with rfl | rfl | rfl | rfl <;> simp
    · intro H' n' ha
      have st':=move H' fun g hg=>(ha g hg).1
      refine (zus v o hv ho st' (ha g1 (by simp)).2 (ha g2 (by simp)).2 (ha gm (by simp)).2 (fun _=>(ha gr (by simp)).2)).mono fun w H'' n'' ⟨q1,q2,_,q4⟩ => ?_
      obtain ⟨gn,p1,p2,p3,p4,p5,p6,p7⟩:=q4 hnew
      have a2:=st.d2m
      subst q1
      refine ⟨gn,p1,p2,.same _ (.agg _ fun j x hx=>zbo (zat _ x (List.mem_of_getElem? hx))),fun g hg hd => ?_,fun g ob hg hne0 hap => ?_,?_⟩
      · simp at hd
        exact p7 g hg hd.1 hd.2.2.1 fun _=>hd.2.1
      · have b1:nx ≠ gm:=by omega
        have b2:nx ≠ g2:=by omega
        have b3:nx ≠ gr:=by omega
        simp at hg
        rcases hg with rfl | rfl | rfl | rfl
        · simp [Ne.symm a2,Ne.symm b1,Ne.symm r3] at hap
          subst hap
          exact ⟨_,p3,rfl,fun j x u hx hu=>by
            rw [hx] at hu; cases hu
            obtain ⟨s1,s2⟩:=zagh _ j x hx
            exact ⟨zabg s1 rfl,zabg s2 rfl⟩⟩
        · simp [r2,Ne.symm b3] at hap
        · simp [Ne.symm b2] at hap
          subst hap
          refine ⟨_,p4,rfl,rfl,fun j x u hx hu => ?_⟩
          match j,hx,hu with
          | 0,hx,hu=>cases hx; cases hu; exact .slc 0 _
        · exact absurd rfl hne0
      · refine ⟨.row 1 (zbb (o ++ [v.n.toNat])),_,by simp,p5,rfl,rfl,fun j x u hx hu => ?_⟩
        rw [hx] at hu; cases hu
        exact zabg (zagg _ j x hx) rfl
  · refine zo.of_qcr [g1,g2,gm,gr] hsome (fun H' n' ha => ?_) ?_ (h0 hnew)
    · have st':=move H' fun g hg=>(ha g hg).1
      refine za.pure ((zus v o hv ho st' (ha g1 (by simp)).2 (ha g2 (by simp)).2 (ha gm (by simp)).2 (fun _=>(ha gr (by simp)).2)).mono fun w H'' n'' ⟨q1,q2,q3,_⟩ => ?_)
      subst q1
      exact ⟨by simp,q3 hnew⟩
    · exact .agg _ fun j x hx=>zbo (zat _ x (List.mem_of_getElem? hx))
end Go.Proofs.YtdmibdjokofclaaDoor
set_option maxRecDepth 8000
namespace Go.Proofs.YtdmibdjokofclaaDoor
open Go Go.RowKit
theorem zvw {L:List Val} {i:Nat} {v:Val} (h:L[i]? = some v):((rowV L).drop (i*3)).take 3=v.avs:=zgb (zbw L) (by rw [List.getElem?_map,h]; rfl)
theorem zagu {L:List Cl} {i:Nat} {v:Cl} (h:L[i]? = some v):((rowC L).drop (i*6)).take 6=v.avs:=zgb (zbj L) (by rw [List.getElem?_map,h]; rfl)
theorem zhy (v:Val) (L:List Val):rowV (v :: L)=v.avs ++ rowV L:=by simp [rowV]
theorem zacn (v:Cl) (L:List Cl):rowC (v :: L)=v.avs ++ rowC L:=by simp [rowC]
theorem zun (L:List Cl) (c:Cl):rowC (L ++ [c])=rowC L ++ c.avs:=by simp [rowC]
theorem zel (L:List Val) (c:Val):rowV (L ++ [c])=rowV L ++ c.avs:=by simp [rowV]
theorem zyg:∀ {L:List Val} {i:Nat} {v:Val},i < L.length→(rowV L).take (i*3) ++ v.avs ++ (rowV L).drop (i*3+3)=rowV (L.set i v)
  | [],i,v,h=>by simp at h
  | w :: L,0,v,h=>by simp [zhy,List.drop_append,List.drop_of_length_le]
  | w :: L,i+1,v,h=>by
    have ih:=zyg (L:=L) (i:=i) (v:=v) (by simpa using h)
    rw [List.set_cons_succ,zhy,zhy,← ih,Nat.succ_mul,List.take_append,List.drop_append,List.take_of_length_le (by simp),List.drop_of_length_le (by simp)]
    simp [List.append_assoc]
def zbv (F:List Nat) (h:List Cl) (n:Nat):Cl:=VM.putC F ((h[n]?).getD ⟨VM.vzero,VM.vzero⟩)
theorem zacw {h:List Cl} {l:List Val} (hF:∀ n∈VM.order h l,n < h.length):VM.canonC h l=(VM.order h l).map (zbv (VM.order h l) h):=by
  unfold VM.canonC
  generalize VM.order h l=F at *
  have : ∀ o:List Nat,(∀ n∈o,n < h.length)→(o.filterMap fun n=>(h[n]?).map (VM.putC F))=o.map (zbv F h):=by
    intro o
    induction o with
    | nil=>intro _; rfl
    | cons n r ih =>
      intro ho
      have hn:=ho n (by simp)
      rw [List.filterMap_cons,List.getElem?_eq_getElem hn]
      simp only [Option.map_some,List.map_cons]
      rw [ih fun x hx=>ho x (by simp [hx])]
      simp [zbv,hn]
  exact this F hF
theorem zfj.keep {H H':Heap} {g1 g2 gm gr nx:Nat} {o:List Nat} (h:zfj H g1 g2 gm gr o) (l1:g1 < nx) (l2:g2 < nx) (lm:gm < nx) (lr:o ≠ []→gr < nx) (hk:∀ g,g < nx→H' g=H g):zfj H' g1 g2 gm gr o :=
  ⟨by rw [hk g1 l1]; exact h.m1,by rw [hk gm lm]; exact h.mm,by rw [hk g2 l2]; exact h.m2,fun ho=>by rw [hk gr (lr ho)]; exact h.mr ho,h.d12,h.d1m,h.d2m,h.dr⟩
theorem zfj.next {H H':Heap} {g1 g2 gm gr gn nx:Nat} {o:List Nat} {n:Nat} (h:zfj H g1 g2 gm gr o) (l1:g1 < nx) (l2:g2 < nx) (lm:gm < nx) (lr:o ≠ []→gr < nx) (hgn:nx≤gn) (p3:H' gm=some (.mp (zfq (o ++ [n])))) (p4:H' g2=some (.row 1 [.slc gn 0 (o.length+1)]))
    (p5:H' gn=some (.row 1 (zbb (o ++ [n])))) (p7:H' g1=H g1):zfj H' g1 g2 gm gn (o ++ [n]) :=
  ⟨by rw [p7]; exact h.m1,p3,by rw [p4]; simp,fun _=>p5,h.d12,h.d1m,h.d2m,fun _=>⟨by omega,by omega,by omega⟩⟩
theorem zaaa (v:Val) (o:List Nat) (hv:v.kind=2→0≤v.n) (ho:(o.length+1)*8≤140737488355328) {H:Heap} {nx g1 g2 gm gr:Nat} (st:zfj H g1 g2 gm gr o) (l1:g1 < nx) (l2:g2 < nx) (lm:gm < nx) (lr:o ≠ []→gr < nx) :
    za Tryd.prog 69 [.agg v.avs,.ptr g1 0,.ptr g2 0] H nx fun r H' nx'=>r=.agg (VM.put (VM.meet o v) v).avs∧nx≤nx'∧∃ gr',zfj H' g1 g2 gm gr' (VM.meet o v)∧(VM.meet o v ≠ []→gr' < nx'∧((o ≠ []∧gr'=gr)∨nx≤gr')) ∧
      ∀ g,g < nx→g ≠ gm→g ≠ g2→(o ≠ []→g ≠ gr)→H' g=H g:=by
  refine (zus v o hv ho st l1 l2 lm lr).mono fun w H' nx' ⟨q1,q2,q3,q4⟩=>⟨q1,q2,?_⟩
  by_cases hnew:v.kind=2∧v.n.toNat∉o
  · obtain ⟨gn,p1,p2,p3,p4,p5,_,p7⟩:=q4 hnew
    rw [zju hnew]
    exact ⟨gn,st.next l1 l2 lm lr p1 p3 p4 p5 (p7 g1 l1 st.d1m st.d12 fun h=>Ne.symm (st.dr h).1),fun _=>⟨p2,.inr p1⟩,p7⟩
  · rw [znh hnew]
    have k:=q3 hnew
    exact ⟨gr,st.keep l1 l2 lm lr k,fun h=>⟨by have:=lr h; omega,.inl ⟨h,rfl⟩⟩,fun g hg _ _ _=>k g hg⟩
end Go.Proofs.YtdmibdjokofclaaDoor
set_option maxRecDepth 8000
namespace Go.Proofs.YtdmibdjokofclaaDoor
open Go Go.RowKit
structure zce (h:List Cl) (l:List Val) (F:List Nat) (H0:Heap) (nx i d:Nat) (o:List Nat) (a2:AV) (H:Heap) (n gr go gv:Nat):Prop where
  num:zfj H (nx+1) (nx+2) nx gr o
  lr:o ≠ []→nx+3≤gr∧gr < n∧gv ≠ gr
  out:(d=0∧a2=.nils)∨(0 < d∧a2=.slc go 0 d∧H go=some (.row 6 (rowC ((o.take d).map (zbv F h))))∧nx+3≤go∧go < n∧go ≠ gv∧go ≠ gr)
  vs:H gv=some (.row 3 (rowV ((l.take i).map (VM.put F) ++ l.drop i)))
  lv:nx+3≤gv∧gv < n
  keep:Keep nx H H0
  good:VM.Good h.length o
  dle:d≤o.length
theorem zce.more {h:List Cl} {l:List Val} {F:List Nat} {H0:Heap} {nx i d:Nat} {o:List Nat} {a2:AV} {H:Heap} {n gr go gv:Nat} (st:zce h l F H0 nx i d o a2 H n gr go gv) {H1:Heap} {n1:Nat} (hn:n≤n1) (hk:∀ g,g < n→H1 g=H g):zce h l F H0 nx i d o a2 H1 n1 gr go gv:=by
  have l1:=st.lv
  refine ⟨st.num.keep (nx:=n) (by omega) (by omega) (by omega) (fun ho=>(st.lr ho).2.1) hk,fun ho => ?_,?_,by rw [hk gv l1.2]; exact st.vs,by omega,fun g hg=>by rw [hk g (by omega)]; exact st.keep g hg,st.good,st.dle⟩
  · have:=st.lr ho; omega
  · rcases st.out with h | ⟨p1,p2,p3,p4,p5,p6⟩
    · exact .inl h
    · exact .inr ⟨p1,p2,by rw [hk go p5]; exact p3,p4,by omega,p6⟩
theorem zalm {o o':List Nat} (h:o <+: o') {d:Nat} (hd:d≤o.length):o'.take d=o.take d:=by
  obtain ⟨t,rfl⟩:=h
  rw [List.take_append_of_le_length hd]
theorem zce.meet {h:List Cl} {l:List Val} {F:List Nat} {H0:Heap} {nx i d:Nat} {o:List Nat} {a2:AV} {H:Heap} {n gr go gv:Nat} (st:zce h l F H0 nx i d o a2 H n gr go gv) {v:Val} (hv:VM.OkV h.length v) {H':Heap} {n' gr':Nat} (hn:n≤n')
    (q1:zfj H' (nx+1) (nx+2) nx gr' (VM.meet o v)) (q2:VM.meet o v ≠ []→gr' < n'∧((o ≠ []∧gr'=gr)∨n≤gr')) (q3:∀ g,g < n→g ≠ nx→g ≠ nx+2→(o ≠ []→g ≠ gr)→H' g=H g):zce h l F H0 nx i d (VM.meet o v) a2 H' n' gr' go gv:=by
  have l1:=st.lv
  have p:=VM.meet_pre o v
  have hgv:H' gv=H gv:=q3 gv l1.2 (by omega) (by omega) fun ho=>(st.lr ho).2.2
  refine ⟨q1,fun ho => ?_,?_,by rw [hgv]; exact st.vs,by omega,fun g hg => ?_,st.good.meet hv,Nat.le_trans st.dle p.length_le⟩
  · obtain ⟨a,b⟩:=q2 ho
    rcases b with ⟨b1,rfl⟩ | b
    · have:=st.lr b1; omega
    · omega
  · rcases st.out with h | ⟨p1,p2,p3,p4,p5,p6,p7⟩
    · exact .inl h
    · have ho:o ≠ []:=by intro e; subst e; have:=st.dle; simp at this; omega
      refine .inr ⟨p1,p2,?_,p4,by omega,p6,?_⟩
      · rw [q3 go p5 (by omega) (by omega) fun _=>p7,zalm p st.dle]; exact p3
      · have hm:VM.meet o v ≠ []:=by
          intro e; rw [e] at p; exact ho (List.prefix_nil.1 p)
        rcases (q2 hm).2 with ⟨_,rfl⟩ | b
        · exact p7
        · omega
  · rw [q3 g (by omega) (by omega) (by omega) fun ho=>by have:=st.lr ho; omega]; exact st.keep g hg
theorem zvy {o:List Nat} {gr:Nat} {k:AV→Prop}:LNL (if o=[] then AV.nils else .slc gr 0 o.length) k=k (.int .i64 o.length):=by
  by_cases h:o=[]
  · subst h; simp
  · rw [if_neg h]; simp
theorem zpc {o:List Nat} {d n:Nat} (h:o[d]? = some n):(zbb o)[d]? = some (.int .i64 n):=by simp [zbb,h]
theorem zbi {A:Prop} {m:List Nat}:∀ {l:List Nat},(∀ g∈l,g∉m)→A→zb l m A
  | [],_,a=>by rw [zakl]; exact a
  | g :: r,h,a=>by rw [zair]; exact ⟨h g (by simp),zbi (fun x hx=>h x (by simp [hx])) a⟩
theorem zce.outs {h:List Cl} {l:List Val} {F:List Nat} {H0:Heap} {nx i d:Nat} {o:List Nat} {a2:AV} {H:Heap} {n gr go gv:Nat} (st:zce h l F H0 nx i d o a2 H n gr go gv) {H':Heap} {gn n':Nat} (hd:d < o.length) (hgn:n≤gn) (hn':gn < n')
    (h1:H' gn=some (.row 6 (rowC ((o.take (d+1)).map (zbv F h))))) (h2:∀ g,g < n→(0 < d→g ≠ go)→H' g=H g):zce h l F H0 nx i (d+1) o (.slc gn 0 (d+1)) H' n' gr gn gv:=by
  have l1:=st.lv
  have ho:o ≠ []:=by intro e; subst e; simp at hd
  obtain ⟨r1,r2,r3⟩:=st.lr ho
  have go1:0 < d→nx+3≤go∧go < n∧go ≠ gv∧go ≠ gr:=fun h0=>by
    rcases st.out with ⟨p,_⟩ | ⟨_,_,_,p⟩
    · omega
    · exact p
  have e1:=h2 (nx+1) (by omega) (fun h0=>by have:=go1 h0; omega)
  have e2:=h2 (nx+2) (by omega) (fun h0=>by have:=go1 h0; omega)
  have e3:=h2 nx (by omega) (fun h0=>by have:=go1 h0; omega)
  have e4:=h2 gr (by omega) (fun h0=>by have:=go1 h0; omega)
  have e5:=h2 gv (by omega) (fun h0=>by have:=go1 h0; omega)
  refine ⟨⟨by rw [e1]; exact st.num.m1,by rw [e3]; exact st.num.mm,by rw [e2]; exact st.num.m2,fun _=>by rw [e4]; exact st.num.mr ho,by omega,by omega,by omega,fun _=>by omega⟩,fun _=>by omega,.inr ⟨by omega,rfl,h1,by omega,hn',by omega,by omega⟩,by rw [e5]; exact st.vs,by omega,fun g hg => ?_,st.good,by omega⟩
  rw [h2 g (by omega) (fun h0=>by have:=go1 h0; omega)]
  exact st.keep g hg
theorem zdn {α:Type} {l:List α} {i:Nat} {v:α} (h:l[i]? = some v):l.take (i+1)=l.take i ++ [v]:=by
  rw [List.take_add_one,h]; rfl
theorem zaoz {α:Type} (a:List α) (v u:α) (b:List α):(a ++ v :: b).set a.length u=a ++ u :: b:=by simp
theorem zapa {l:List Val} {F:List Nat} {i:Nat} {v:Val} (h:l[i]? = some v):((l.take i).map (VM.put F) ++ l.drop i).set i (VM.put F v)=(l.take (i+1)).map (VM.put F) ++ l.drop (i+1):=by
  obtain ⟨hi,hv⟩:=List.getElem?_eq_some_iff.1 h
  have e:l.drop i=v :: l.drop (i+1):=by rw [← hv]; exact List.drop_eq_getElem_cons hi
  have hlen:((l.take i).map (VM.put F)).length=i:=by simp; omega
  have:=zaoz ((l.take i).map (VM.put F)) v (VM.put F v) (l.drop (i+1))
  rw [hlen] at this
  rw [e,this,zdn h,List.map_append]; simp
theorem zamk {l:List Val} {F:List Nat} {i:Nat} {v:Val} (h:l[i]? = some v):((l.take i).map (VM.put F) ++ l.drop i)[i]? = some v:=by
  obtain ⟨hi,hv⟩:=List.getElem?_eq_some_iff.1 h
  rw [List.getElem?_append_right (by simp; omega)]
  have e3:i - ((l.take i).map (VM.put F)).length=0:=by simp; omega
  rw [e3,List.getElem?_drop]; simpa using h
theorem zanp {h:List Cl} {F o:List Nat} {n:Nat} {c:Cl} (hc:h[n]? = some c) (hp:VM.meet (VM.meet o c.left) c.right <+: F):(⟨VM.put (VM.meet o c.left) c.left,VM.put (VM.meet (VM.meet o c.left) c.right) c.right⟩:Cl)=zbv F h n:=by
  unfold zbv VM.putC
  rw [hc,VM.put_pre ((VM.meet_pre _ _).trans hp) (VM.mem_meet o c.left),VM.put_pre hp (VM.mem_meet _ c.right)]
  rfl
theorem zsn {o:List Nat} {d n:Nat} (f:Nat→Cl) (h:o[d]? = some n):(o.take (d+1)).map f=(o.take d).map f ++ [f n]:=by
  rw [zdn h,List.map_append]; rfl
end Go.Proofs.YtdmibdjokofclaaDoor
set_option maxRecDepth 8000
namespace Go.Proofs.YtdmibdjokofclaaDoor
namespace VM
theorem fm_congr {α β:Type} {f g:α→Option β}:∀ {l:List α},(∀ x∈l,f x=g x)→l.filterMap f=l.filterMap g
  | [],_=>rfl
  | a :: r,h=>by rw [List.filterMap_cons,List.filterMap_cons,h a (by simp),fm_congr fun x hx=>h x (by simp [hx])]
theorem vshow_int {h:List Cl} {d:Nat} {v:Val} (k:v.kind=0):vshow h d v=Lib.itoa v.n:=by cases d <;> simp [vshow,k]
theorem vshow_text {h:List Cl} {d:Nat} {v:Val} (k:v.kind=1):vshow h d v=v.text:=by cases d <;> simp [vshow,k]
theorem vshow_dots {h:List Cl} {v:Val} (k:v.kind=2):vshow h 0 v=[46,46]:=by simp [vshow,k]
theorem vshow_cell {h:List Cl} {d:Nat} {v:Val} {c:Cl} (k:v.kind=2) (hn:0≤v.n) (hc:h[v.n.toNat]? = some c):vshow h (d+1) v=[40] ++ vshow h d c.left ++ [32] ++ vshow h d c.right ++ [41]:=by simp [vshow,k,hn,hc]
theorem idx_map {π:Nat→Nat} {D:Nat→Prop} (inj:∀ a b,D a→D b→π a=π b→a=b):∀ {o:List Nat} {x:Nat},(∀ n∈o,D n)→D x→(o.map π).idxOf (π x)=o.idxOf x
  | [],x,_,_=>rfl
  | a :: r,x,ho,hx=>by
    rw [List.map_cons,List.idxOf_cons,List.idxOf_cons]
    by_cases e:a=x
    · subst e; simp
    · have e':π a ≠ π x:=fun h=>e (inj a x (ho a (by simp)) hx h)
      have e1:(a == x)=false:=by simp [e]
      have e2:(π a == π x)=false:=by simp [e']
      rw [e1,e2]
      simp only [cond_false]
      rw [idx_map inj (fun n hn=>ho n (by simp [hn])) hx]
theorem put_turn {h g:List Cl} {π:Nat→Nat} {D:Nat→Prop} (t:Turn h g π D) {F:List Nat} (hF:∀ n∈F,D n) {v:Val} (hv:v.kind=2→D v.n.toNat):put (F.map π) (ren π v)=put F v:=by
  by_cases hk:v.kind=2
  · unfold put
    rw [ren_kind,if_pos hk,if_pos hk]
    unfold ren
    rw [if_pos hk]
    simp only [Int.toNat_natCast]
    rw [idx_map t.inj hF (hv hk)]
  · unfold put
    rw [ren_kind,if_neg hk,if_neg hk]
    unfold ren
    rw [if_neg hk]
theorem canon_turn {h g:List Cl} {π:Nat→Nat} {D:Nat→Prop} (t:Turn h g π D) (hh:OkH h) (hg:OkH g) {l:List Val} (hl:∀ v∈l,OkV h.length v) (hd:∀ v∈l,v.kind=2→D v.n.toNat) (hl':∀ v∈l,OkV g.length (ren π v)) :
    canonV g (l.map (ren π))=canonV h l∧canonC g (l.map (ren π))=canonC h l:=by
  obtain ⟨e,hF⟩:=orderGo_turn t hh hg l [] hl hd hl' Good.nil Good.nil (fun n hn=>by simp at hn)
  have e':order g (l.map (ren π))=(order h l).map π:=e
  unfold canonV canonC
  rw [e']
  have hF':∀ n∈order h l,D n:=hF
  generalize order h l=F at *
  refine ⟨?_,?_⟩
  · rw [List.map_map]
    exact List.map_congr_left fun v hv=>put_turn t hF' (hd v hv)
  · rw [List.filterMap_map]
    refine fm_congr fun n hn => ?_
    obtain ⟨c,hc,hgc,dl,dr⟩:=t.cell n (hF' n hn)
    simp only [Function.comp,hc,hgc,Option.map_some]
    unfold putC
    rw [put_turn t hF' dl,put_turn t hF' dr]
theorem right_okV {h:List Cl} {l:List Val} (hr:right h l=true):∀ v∈l,WrongOk v h.length:=by
  unfold right at hr
  simp only [Bool.and_eq_true,List.all_eq_true,decide_eq_true_eq] at hr
  exact fun v hv=>wrong_ok (hr.1 v hv)
theorem right_okC {h:List Cl} {l:List Val} (hr:right h l=true):∀ c∈h,WrongOk c.left h.length∧WrongOk c.right h.length:=by
  unfold right at hr
  simp only [Bool.and_eq_true,List.all_eq_true,decide_eq_true_eq] at hr
  exact fun c hc=>⟨wrong_ok (hr.2 c hc).1,wrong_ok (hr.2 c hc).2⟩
theorem ok_right {h:List Cl} {l:List Val} (h1:∀ v∈l,WrongOk v h.length) (h2:∀ c∈h,WrongOk c.left h.length∧WrongOk c.right h.length):right h l=true:=by
  unfold right
  simp only [Bool.and_eq_true,List.all_eq_true,decide_eq_true_eq]
  exact ⟨fun v hv=>ok_wrong (h1 v hv),fun c hc=>⟨ok_wrong (h2 c hc).1,ok_wrong (h2 c hc).2⟩⟩
theorem WrongOk.okV {v:Val} {N:Nat} (h:WrongOk v N):OkV N v:=fun hk=>by have:=h.cell hk; omega
theorem okH {h:List Cl} (hc:∀ c∈h,WrongOk c.left h.length∧WrongOk c.right h.length):OkH h:=fun n c hn=>by
  obtain ⟨a,b⟩:=hc c (List.mem_of_getElem? hn)
  exact ⟨a.okV,b.okV⟩
theorem WrongOk.ren {v:Val} {N M:Nat} {π:Nat→Nat} (h:WrongOk v N) (hp:v.kind=2→π v.n.toNat < M):WrongOk (ren π v) M:=by
  unfold VM.ren
  by_cases hk:v.kind=2
  · rw [if_pos hk]
    exact ⟨h.kind,fun h0=>by simp only at h0; omega,h.len,fun _=>⟨by simp,by have:=hp hk; simp only; omega⟩,fun h1=>by simp only at h1; omega,h.non⟩
  · rw [if_neg hk]
    exact ⟨h.kind,h.int,h.len,fun h2=>absurd h2 hk,h.txt,h.non⟩
theorem order_turn {h:List Cl} {l:List Val} (hr:right h l=true):Turn h (canonC h l) (order h l).idxOf (· ∈ order h l)∧(∀ v∈l,In (order h l) v)∧(∀ n∈order h l,n < h.length)∧(order h l).Nodup∧(canonC h l).length=(order h l).length:=by
  have hh:=okH (right_okC hr)
  have hl:∀ v∈l,OkV h.length v:=fun v hv=>(right_okV hr v hv).okV
  have g:Good h.length (order h l):=orderGo_good hh l [] hl Good.nil
  obtain ⟨s,hin⟩:=orderGo_shut hh l [] hl Good.nil (fun j n c hj=>by simp at hj)
  have s':Shut h (order h l) (order h l).length:=s
  have hin':∀ v∈l,In (order h l) v:=hin
  have fm:∀ (F o:List Nat),(∀ n∈o,n < h.length)→(o.filterMap fun n=>(h[n]?).map (putC F))=o.map fun n=>putC F ((h[n]?).getD ⟨vzero,vzero⟩):=by
    intro F o
    induction o with
    | nil=>intro _; rfl
    | cons n r ih =>
      intro ho
      have hn:=ho n (by simp)
      rw [List.filterMap_cons,List.getElem?_eq_getElem hn]
      simp only [Option.map_some,List.map_cons]
      rw [ih fun x hx=>ho x (by simp [hx])]
      simp [hn]
  have ck:canonC h l=(order h l).map fun n=>putC (order h l) ((h[n]?).getD ⟨vzero,vzero⟩):=fm _ _ g.lt
  refine ⟨⟨fun a b ha hb e => ?_,fun n hn => ?_⟩,hin',g.lt,g.nd,by rw [ck,List.length_map]⟩
  · have e1:=List.getElem_idxOf (List.idxOf_lt_length_iff.2 ha)
    have e2:=List.getElem_idxOf (List.idxOf_lt_length_iff.2 hb)
    rw [← e1,← e2]
    simp only [e]
  · have hlt:=g.lt n hn
    refine ⟨h[n],List.getElem?_eq_getElem hlt,?_,?_⟩
    · rw [ck,List.getElem?_map,List.getElem?_eq_getElem (List.idxOf_lt_length_iff.2 hn),List.getElem_idxOf]
      simp [hlt]; rfl
    · have hi:(order h l)[(order h l).idxOf n]? = some n:=by rw [List.getElem?_eq_getElem (List.idxOf_lt_length_iff.2 hn),List.getElem_idxOf]
      exact s' _ n h[n] (List.idxOf_lt_length_iff.2 hn) hi (List.getElem?_eq_getElem hlt)
theorem canonV_eq (h:List Cl) (l:List Val):canonV h l=l.map (ren (order h l).idxOf):=rfl
theorem vshow_turn {h g:List Cl} {π:Nat→Nat} {D:Nat→Prop} (t:Turn h g π D):∀ (d:Nat) {v:Val},(v.kind=0∨v.kind=1∨(v.kind=2∧0≤v.n∧D v.n.toNat))→(∀ (n:Nat) (c:Cl),h[n]? = some c→(c.left.kind=0∨c.left.kind=1∨(c.left.kind=2∧0≤c.left.n))∧(c.right.kind=0∨c.right.kind=1∨(c.right.kind=2∧0≤c.right.n)))→vshow g d (ren π v)=vshow h d v
  | d, v, hv,hh=>by
    rcases hv with hk | hk | ⟨hk,hn,hD⟩
    · have e:ren π v=v:=by unfold ren; rw [if_neg (by omega)]
      rw [e,vshow_int hk,vshow_int hk]
    · have e:ren π v=v:=by unfold ren; rw [if_neg (by omega)]
      rw [e,vshow_text hk,vshow_text hk]
    · obtain ⟨c,hc,hgc,dl,dr⟩:=t.cell _ hD
      obtain ⟨k1,k2⟩:=hh _ _ hc
      have hk':(ren π v).kind=2:=by rw [ren_kind]; exact hk
      cases d with
      | zero=>rw [vshow_dots hk',vshow_dots hk]
      | succ d =>
        have i1:=vshow_turn t d (v:=c.left) (by rcases k1 with a | a | ⟨a,b⟩; exact .inl a; exact .inr (.inl a); exact .inr (.inr ⟨a,b,dl a⟩)) hh
        have i2:=vshow_turn t d (v:=c.right) (by rcases k2 with a | a | ⟨a,b⟩; exact .inl a; exact .inr (.inl a); exact .inr (.inr ⟨a,b,dr a⟩)) hh
        have en:(ren π v).n=(π v.n.toNat:Nat):=by unfold ren; rw [if_pos hk]
        rw [vshow_cell hk hn hc,vshow_cell hk' (by rw [en]; omega) (by rw [en,Int.toNat_natCast]; exact hgc),i1,i2]
theorem canon_law {h:List Cl} {l:List Val} (hr:right h l=true):(canonV h l).length=l.length∧(canonC h l).length≤h.length∧right (canonC h l) (canonV h l)=true ∧
    (∀ (d i:Nat) (v:Val),l[i]? = some v→∃ u,(canonV h l)[i]? = some u∧vshow (canonC h l) d u=vshow h d v)∧canonV (canonC h l) (canonV h l)=canonV h l∧canonC (canonC h l) (canonV h l)=canonC h l:=by
  obtain ⟨t,hin,hlt,hnd,hlen⟩:=order_turn hr
  have hv:=right_okV hr
  have hc:=right_okC hr
  have hle:(order h l).length≤h.length:=(show Good h.length (order h l) from ⟨hnd,hlt⟩).len
  have hV:∀ v∈l,WrongOk (ren (order h l).idxOf v) (canonC h l).length:=fun v hx=>(hv v hx).ren fun hk=>by rw [hlen]; exact List.idxOf_lt_length_iff.2 (hin v hx hk)
  have hC:∀ c∈canonC h l,WrongOk c.left (canonC h l).length∧WrongOk c.right (canonC h l).length:=by
    intro c hx
    unfold canonC at hx
    obtain ⟨n,hn,he⟩:=List.mem_filterMap.1 hx
    obtain ⟨c0,h0,_,dl,dr⟩:=t.cell n hn
    rw [h0] at he
    simp only [Option.map_some,Option.some.injEq] at he
    subst he
    obtain ⟨w1,w2⟩:=hc c0 (List.mem_of_getElem? h0)
    refine ⟨show WrongOk (ren (order h l).idxOf c0.left) _ from w1.ren (M:=(canonC h l).length) fun hk => ?_,show WrongOk (ren (order h l).idxOf c0.right) _ from w2.ren (M:=(canonC h l).length) fun hk => ?_⟩
    · rw [hlen]; exact List.idxOf_lt_length_iff.2 (dl hk)
    · rw [hlen]; exact List.idxOf_lt_length_iff.2 (dr hk)
  have hR:right (canonC h l) (canonV h l)=true:=ok_right (fun v hx=>by
    rw [canonV_eq] at hx
    obtain ⟨u,hu,rfl⟩:=List.mem_map.1 hx
    exact hV u hu) hC
  obtain ⟨q1,q2⟩:=canon_turn t (okH hc) (okH hC) (fun v hx=>(hv v hx).okV) (fun v hx hk=>hin v hx hk) (fun v hx=>(hV v hx).okV)
  refine ⟨by rw [canonV_eq,List.length_map],by omega,hR,fun d i v hi=>⟨ren (order h l).idxOf v,by rw [canonV_eq,List.getElem?_map,hi]; rfl,?_⟩,q1,q2⟩
  have hvl:=List.mem_of_getElem? hi
  refine vshow_turn t d ?_ fun n c hn => ?_
  · have w:=hv v hvl
    rcases w.kind with a | a | a
    · exact .inl a
    · exact .inr (.inl a)
    · exact .inr (.inr ⟨a,(w.cell a).1,hin v hvl a⟩)
  · obtain ⟨w1,w2⟩:=hc c (List.mem_of_getElem? hn)
    refine ⟨?_,?_⟩
    · rcases w1.kind with a | a | a
      · exact .inl a
      · exact .inr (.inl a)
      · exact .inr (.inr ⟨a,(w1.cell a).1⟩)
    · rcases w2.kind with a | a | a
      · exact .inl a
      · exact .inr (.inl a)
      · exact .inr (.inr ⟨a,(w2.cell a).1⟩)
end VM
end Go.Proofs.YtdmibdjokofclaaDoor
set_option maxRecDepth 8000
namespace Go.Proofs.YtdmibdjokofclaaDoor
open Go Go.RowKit
set_option maxRecDepth 20000 in
theorem zafh {h:List Cl} {l:List Val} {F:List Nat} {H0:Heap} {nx i j d:Nat} {o:List Nat} {a0 a2 a3 a4 a5:AV} {H37:Heap} {nx36 gr go gv c0:Nat} {rd fr:List Nat} {D:zq} (S4:zce h l F H0 nx j d o a2 (H37.apply D) (nx36+1+fr.length) gr go gv) (hs:h.length*64≤140737488355328)
    (hd:o[d]? = some c0) {p q:Val} (hcell:(⟨p,q⟩:Cl)=zbv F h c0) (hdis:nx36∉domD D) {K18:J3} (hK18:∀ a2 H n gr go,zce h l F H0 nx j (d+1) o a2 H n gr go gv→K18 [a0,.ptr (nx+2) 0,a2,a3,a4,a5,.int .i64 i] H n) :
    zhj (.agg p.avs) [a0,.ptr (nx+2) 0,a2,a3,a4,a5,.int .i64 i] nx36 H37 [nx36] K18 (.agg q.avs) rd fr D:=by
  have hlt:=(List.getElem?_eq_some_iff.1 hd).1
  have hol:=S4.good.len
  have hrow:(o.take (d+1)).map (zbv F h)=(o.take d).map (zbv F h) ++ [⟨p,q⟩]:=by rw [zsn _ hd,hcell]
  have S5:=S4.out
  rcases S5 with ⟨e0,e2⟩ | ⟨h0,e2,h1,h2,h3,h4⟩
  · subst e2
    simp [zhj,Val.avs]
    subst e0
    refine zbi (by simp) (zbi (by rintro g hg; simp; rintro rfl; exact hdis hg) (hK18 _ _ _ _ _ (S4.outs hlt (gn:=nx36+1+fr.length+1) (by omega) (by omega) ?_ fun g hg _ => ?_)))
    · rw [Heap.put_at,hrow]
      simp [rowC,Cl.avs,Val.avs]
    · rw [Heap.put_ne _ _ (by omega),Heap.put_ne _ _ (by omega)]
  · subst e2
    simp [zhj,Val.avs,h1]
    rw [if_neg (by omega)]
    simp
    rw [List.take_of_length_le (by simp; omega)]
    refine ⟨by rw [Nat.min_eq_left (by omega)]; exact Nat.le_refl _,by omega,zbi (by simp) (zbi (by rintro g hg; simp; rintro rfl; exact hdis hg) (hK18 _ _ _ _ _ (S4.outs hlt (gn:=nx36+1+fr.length+1) (by omega) (by omega) ?_ fun g hg hg2 => ?_)))⟩
    · rw [Heap.put_at,hrow]
      simp [rowC,Cl.avs,Val.avs]
    · rw [Heap.put_ne _ _ (by omega),Heap.put_ne _ _ (hg2 h0),Heap.put_ne _ _ (by omega)]
set_option maxHeartbeats 2000000 in
set_option maxRecDepth 20000 in
theorem zagn (h:List Cl) (l:List Val) (hr:VM.right h l=true) (hs:h.length*64≤140737488355328) {a0:AV} {H0:Heap} {nx i:Nat} (hi:i < l.length) (hl:l.length*32≤140737488355328) (ha0:zau H0 nx 6 (h.map Cl.avs) a0) (K6:J3) (gv:Nat)
    (hK:∀ a2 H n gr go o,zce h l (VM.order h l) H0 nx (i+1) o.length o a2 H n gr go gv→VM.orderGo h (l.drop (i+1)) o=VM.order h l →
      K6 [a0,.ptr (nx+2) 0,a2,.clo 69 [.ptr (nx+1) 0,.ptr (nx+2) 0],.slc gv 0 l.length,.int .i64 l.length,.int .i64 (i+1:Nat)] H n)
    (a2:AV) (H:Heap) (n gr go:Nat) (o:List Nat) (d:Nat) (st:zce h l (VM.order h l) H0 nx (i+1) d o a2 H n gr go gv) (hF:VM.orderGo h (l.drop (i+1)) (VM.drain h (h.length - d) o d)=VM.order h l) :
    LP (zex K6) [a0,.ptr (nx+2) 0,a2,.clo 69 [.ptr (nx+1) 0,.ptr (nx+2) 0],.slc gv 0 l.length,.int .i64 l.length,.int .i64 i] H n:=by
  refine LP.mk (fun m xs H n=>∃ d a2 gr go o,m=h.length - d∧xs=[a0,.ptr (nx+2) 0,a2,.clo 69 [.ptr (nx+1) 0,.ptr (nx+2) 0],.slc gv 0 l.length,.int .i64 l.length,.int .i64 i]∧zce h l (VM.order h l) H0 nx (i+1) d o a2 H n gr go gv ∧
    VM.orderGo h (l.drop (i+1)) (VM.drain h (h.length - d) o d)=VM.order h l) (h.length - d) ⟨d,a2,gr,go,o,rfl,rfl,st,hF⟩ ?_
  clear st hF
  rintro m xs H n ⟨d,a2,gr,go,o,rfl,rfl,st,hF⟩
  have hlenA:∀ k:AV→Prop,LNL a2 k=k (.int .i64 d):=by
    intro k
    rcases st.out with ⟨rfl,rfl⟩ | ⟨_,rfl,_⟩ <;> simp
  have hOrd:(AV.int .i64 (o.length:Nat):AV)=.int .i64 o.length:=rfl
  by_cases hd:d < o.length
  case neg =>
    obtain rfl:d=o.length:=by have:=st.dle; omega
    simp [zex,hlenA,st.num.m2,zvy]
    rw [i64w (by omega)]
    rw [VM.drain_end (Nat.le_refl _)] at hF
    exact hK a2 H n gr go o st hF
  obtain ⟨c0,hc0⟩:∃ n0,o[d]? = some n0:=⟨_,List.getElem?_eq_getElem hd⟩
  have hc0l:c0 < h.length:=st.good.lt c0 (List.mem_of_getElem? hc0)
  obtain ⟨c,hc⟩:∃ c,h[c0]? = some c:=⟨_,List.getElem?_eq_getElem hc0l⟩
  have ho:o ≠ []:=by intro e; subst e; simp at hd
  have hok:=VM.okH (VM.right_okC hr) c0 c hc
  obtain ⟨r1,r2,r3⟩:=st.lr ho
  have hol:=st.good.len
  have m2:=st.num.m2
  rw [if_neg ho] at m2
  have hrow:(zbb o)[d]? = some (.int .i64 c0):=zpc hc0
  obtain ⟨hdr,hrow'⟩:=List.getElem?_eq_some_iff.1 hrow
  suffices key:∀ K18:J3,(∀ a2 H n gr go o,zce h l (VM.order h l) H0 nx (i+1) (d+1) o a2 H n gr go gv→VM.orderGo h (l.drop (i+1)) (VM.drain h (h.length - (d+1)) o (d+1))=VM.order h l →
      K18 [a0,.ptr (nx+2) 0,a2,.clo 69 [.ptr (nx+1) 0,.ptr (nx+2) 0],.slc gv 0 l.length,.int .i64 l.length,.int .i64 i] H n) →
      zex K6 K18 [a0,.ptr (nx+2) 0,a2,.clo 69 [.ptr (nx+1) 0,.ptr (nx+2) 0],.slc gv 0 l.length,.int .i64 l.length,.int .i64 i] H n from
    key _ fun a2 H n gr go o st' hF'=>⟨_,by omega,d+1,a2,gr,go,o,rfl,rfl,st',hF'⟩
  intro K18 hK18
  have hdr0:VM.drain h (h.length - d) o d=VM.drain h (h.length - (d+1)) (VM.meet (VM.meet o c.left) c.right) (d+1):=by
    rw [show h.length - d=(h.length - (d+1))+1 by omega]; exact VM.drain_step hc0 hc
  rw [hdr0] at hF
  have g1:=st.good.meet hok.1
  have pre:VM.meet (VM.meet o c.left) c.right <+: VM.order h l:=by
    rw [← hF]; exact (VM.drain_pre h _ _ _).trans (VM.orderGo_pre h _ _)
  have cput:=zanp hc pre
  simp [zex,hlenA,m2,hd,st.num.mr ho,hrow']
  refine (ha0.keep (H':=H) (nx':=n) st.keep (by have:=st.lv; omega)).ld (zbj h) (x:=c.avs) (by rw [List.getElem?_map,hc]; rfl) ?_
  obtain ⟨cl,cr⟩:=c
  simp [Cl.avs,Val.avs,CALL]
  have st1:=st.more (H1:=H.put n (some (AObj.row 6 (cl.avs ++ cr.avs)))) (n1:=n+1) (by omega) (fun g hg=>Heap.put_ne _ _ (by omega))
  have lv:=st.lv
  have wl:=VM.right_okC hr _ (List.mem_of_getElem? hc)
  refine (zaaa cl o (fun hk=>(wl.1.cell hk).1) (by omega) st1.num (by omega) (by omega) (by omega) (fun _=>by omega)).mono ?_
  rintro r H2 n2 ⟨rfl,hn2,gr2,st2,q2,q3⟩
  have S2:=st1.meet hok.1 hn2 st2 q2 q3
  have hcell:H2 n=some (AObj.row 6 (cl.avs ++ cr.avs)):=by
    rw [q3 n (by omega) (by omega) (by omega) fun _=>by omega]; exact Heap.put_at _ _ _
  have ho1:VM.meet o cl ≠ []:=by
    intro e; have:=(VM.meet_pre o cl).length_le; rw [e] at this; simp at this; exact ho this
  have ol2:(VM.meet o cl).length≤h.length:=S2.good.len
  have hlt0:0 < (VM.meet o cl).length:=List.length_pos_iff.2 ho1
  obtain ⟨lr1,lr2,lr3⟩:=S2.lr ho1
  have lv2:=S2.lv
  simp [zta,hcell,Cl.avs,Val.avs]
  have S3:=S2.more (H1:=H2.put n2 (some (AObj.row 3 (VM.put (VM.meet o cl) cl).avs))) (n1:=n2+1) (by omega) (fun g hg=>Heap.put_ne _ _ (by omega))
  have hn0:n ≠ n2:=by omega
  simp only [hn0,if_false,hcell,Cl.avs,Val.avs]
  simp
  have hd2:(VM.meet (VM.meet o cl) cr)[d]? = some c0:=by
    obtain ⟨t,ht⟩:=(VM.meet_pre o cl).trans (VM.meet_pre (VM.meet o cl) cr)
    rw [← ht,List.getElem?_append_left hd]; exact hc0
  refine zaem cr (VM.meet o cl) (fun hk=>(wl.2.cell hk).1) (by omega) ho1 S3.num (by omega) (by omega) (by omega) (by omega) (fun hno => ?_) (fun hnew => ?_)
  · have S4:zce h l (VM.order h l) H0 nx (i+1) d (VM.meet (VM.meet o cl) cr) a2 (Heap.apply (H2.put n2 (some (AObj.row 3 (VM.put (VM.meet o cl) cl).avs))) []) (n2+1+([]:List Nat).length) gr2 go gv:=by
      rw [znh hno]; exact S3
    exact zafh S4 hs hd2 cput (by simp) fun a2 H n gr go st'=>hK18 a2 H n gr go _ st' hF
  · have n1:nx ≠ gr2:=by omega
    have ne_0:nx ≠ nx+1∧nx+1 ≠ nx∧nx ≠ nx+2∧nx+2 ≠ nx∧nx ≠ gr2∧gr2 ≠ nx∧nx+1 ≠ nx+2∧nx+2 ≠ nx+1∧nx+1 ≠ gr2∧gr2 ≠ nx+1∧nx+2 ≠ gr2∧gr2 ≠ nx+2∧nx ≠ n2∧n2 ≠ nx∧nx ≠ n2+1∧n2+1 ≠ nx∧nx+1 ≠ n2∧n2 ≠ nx+1∧nx+1 ≠ n2+1∧n2+1 ≠ nx+1∧nx+2 ≠ n2∧n2 ≠ nx+2∧nx+2 ≠ n2+1∧n2+1 ≠ nx+2∧gr2 ≠ n2∧n2 ≠ gr2∧gr2 ≠ n2+1∧n2+1 ≠ gr2:=⟨by omega,by omega,by omega,by omega,by omega,by omega,by omega,by omega,by omega,by omega,by omega,by omega,by omega,by omega,by omega,by omega,by omega,by omega,by omega,by omega,by omega,by omega,by omega,by omega,by omega,by omega,by omega,by omega⟩
    have st4:zfj (Heap.apply (H2.put n2 (some (AObj.row 3 (VM.put (VM.meet o cl) cl).avs))) [(nx,some (.mp (zfq (VM.meet o cl ++ [cr.n.toNat])))),(gr2,none),(nx+2,some (.row 1 [.slc (n2+1) 0 ((VM.meet o cl).length+1)])),(n2+1,some (.row 1 (zbb (VM.meet o cl ++ [cr.n.toNat]))))]) (nx+1) (nx+2) nx (n2+1) (VM.meet o cl ++ [cr.n.toNat]):=by
      refine S3.num.next (nx:=n2+1) (by omega) (by omega) (by omega) (fun _=>by omega) (Nat.le_refl _) ?_ ?_ ?_ ?_
      · simp [ne_0]
      · simp [ne_0]
      · simp [ne_0]
      · simp [ne_0]
    rw [← zju hnew] at st4
    have S4:=S3.meet (v:=cr) hok.2 (n':=n2+1 + [n2+1].length) (by omega) st4 (fun _=>⟨by simp,.inr (Nat.le_refl _)⟩) fun g hg a1 a2 a3=>by
      have a4:=a3 ho1
      have a5:g ≠ n2+1:=by omega
      simp only [Heap.apply]
      rw [Heap.put_ne _ _ a5,Heap.put_ne _ _ a2,Heap.put_ne _ _ a4,Heap.put_ne _ _ a1]
    rw [zju hnew] at S4 ⊢
    rw [zju hnew] at hd2 cput hF
    exact zafh S4 hs hd2 cput (by simp; omega) fun a2 H n gr go st'=>hK18 a2 H n gr go _ st' hF
end Go.Proofs.YtdmibdjokofclaaDoor
set_option maxRecDepth 8000
namespace Go.Proofs.YtdmibdjokofclaaDoor
open Go Go.RowKit
theorem zce.setv {h:List Cl} {l:List Val} {F:List Nat} {H0:Heap} {nx i d:Nat} {o:List Nat} {a2:AV} {H:Heap} {n gr go gv:Nat} (st:zce h l F H0 nx i d o a2 H n gr go gv) (c:Option AObj) (hc:c=some (.row 3 (rowV ((l.take (i+1)).map (VM.put F) ++ l.drop (i+1))))):zce h l F H0 nx (i+1) d o a2 (H.put gv c) n gr go gv:=by
  have l1:=st.lv
  have hk:∀ g,g ≠ gv→(H.put gv c) g=H g:=fun g hg=>Heap.put_ne _ _ hg
  refine ⟨⟨?_,?_,?_,fun ho => ?_,st.num.d12,st.num.d1m,st.num.d2m,st.num.dr⟩,st.lr,?_,by rw [Heap.put_at,hc],l1,fun g hg=>by rw [hk g (by omega)]; exact st.keep g hg,st.good,st.dle⟩
  · rw [hk _ (by omega)]; exact st.num.m1
  · rw [hk _ (by omega)]; exact st.num.mm
  · rw [hk _ (by omega)]; exact st.num.m2
  · rw [hk _ (fun e=>(st.lr ho).2.2 e.symm)]; exact st.num.mr ho
  · rcases st.out with h | ⟨p1,p2,p3,p4,p5,p6,p7⟩
    · exact .inl h
    · exact .inr ⟨p1,p2,by rw [hk _ p6]; exact p3,p4,p5,p6,p7⟩
set_option maxHeartbeats 2000000 in
set_option maxRecDepth 20000 in
theorem zanr (h:List Cl) (l:List Val) (hr:VM.right h l=true) (hs:h.length*64≤140737488355328) (hl:l.length*32≤140737488355328) {a0 a1:AV} {H:Heap} {nx:Nat} (ha0:zau H nx 6 (h.map Cl.avs) a0) (ha1:zau H nx 3 (l.map Val.avs) a1) :
    za Tryd.prog 47 [a0,a1] H nx fun v H' _=>Frz H' nx v (.tup [.ro ((VM.canonV h l).map Val.avs),.ro ((VM.canonC h l).map Cl.avs)])∧Keep nx H' H:=by
  refine zyq _ _ H nx _ ?_
  simp [zsy]
  generalize hH1:((H.put nx (some (AObj.mp []))).put (nx+1) (some (AObj.row 1 [AV.amap nx]))).put (nx+2) (some (AObj.row 1 [AV.nils]))=H1
  have k1:∀ g,g < nx→H1 g=H g:=fun g hg=>by
    subst hH1; rw [Heap.put_ne _ _ (by omega),Heap.put_ne _ _ (by omega),Heap.put_ne _ _ (by omega)]
  refine (zacu l hl (ha1.keep (nx':=nx+3) k1 (by omega))).mono ?_
  rintro v H2 n2 ⟨hn2,hk2,hv⟩
  have k2:Keep nx H2 H:=fun g hg=>(hk2 g (by omega)).trans (k1 g hg)
  rcases hv with ⟨rfl,rfl⟩ | ⟨gv,v1,v2,rfl,v3⟩
  · simp [zlf]
    refine LP.mk (fun _ xs H' n'=>H'=H2∧xs=[a0,.ptr (nx+2) 0,.nils,.clo 69 [.ptr (nx+1) 0,.ptr (nx+2) 0],.nils,.int .i64 0,.int .i64 0]) 0 ⟨rfl,rfl⟩ ?_
    rintro m xs H' n' ⟨rfl,rfl⟩
    simp [zhi]
    exact ⟨⟨.nils,.nils⟩,k2⟩
  have st0:zce h l (VM.order h l) H nx 0 0 [] .nils H2 n2 0 0 gv:=by
    refine ⟨⟨?_,?_,?_,fun ho=>absurd rfl ho,by omega,by omega,by omega,fun ho=>absurd rfl ho⟩,fun ho=>absurd rfl ho,.inl ⟨rfl,rfl⟩,by simpa using v3,by omega,k2,VM.Good.nil,Nat.le_refl _⟩
    · rw [hk2 _ (by omega),← hH1,Heap.put_ne _ _ (by omega),Heap.put_at]
    · rw [hk2 _ (by omega),← hH1,Heap.put_ne _ _ (by omega),Heap.put_ne _ _ (by omega),Heap.put_at]; rfl
    · rw [hk2 _ (by omega),← hH1,Heap.put_at]; rfl
  simp [zlf]
  refine LP.mk (fun m xs H' n'=>∃ i a2 gr go o,m=l.length - i∧i≤l.length∧xs=[a0,.ptr (nx+2) 0,a2,.clo 69 [.ptr (nx+1) 0,.ptr (nx+2) 0],.slc gv 0 l.length,.int .i64 l.length,.int .i64 i] ∧
    zce h l (VM.order h l) H nx i o.length o a2 H' n' gr go gv∧VM.orderGo h (l.drop i) o=VM.order h l) l.length ⟨0,.nils,0,0,[],by omega,by omega,rfl,st0,rfl⟩ ?_
  rintro m xs H' n' ⟨i,a2,gr,go,o,rfl,hi,rfl,st,hF⟩
  have hll:l.length < 4611686018427387904:=by omega
  by_cases hil:i < l.length
  case neg =>
    obtain rfl:i=l.length:=by omega
    simp [zhi]
    have hFo:VM.order h l=o:=by rw [← hF,List.drop_length]; rfl
    have hFlt:∀ n∈VM.order h l,n < h.length:=by rw [hFo]; exact st.good.lt
    refine ⟨⟨?_,?_⟩,st.keep⟩
    · refine Frz.row (sz:=3) (g:=gv) (cells:=rowV (VM.canonV h l)) (by have:=st.lv; omega) (by rw [st.vs]; simp [VM.canonV]) (by simp [VM.canonV]) (zbw _) rfl fun c hc=>zbo (zbq _ c hc)
    · rw [zacw hFlt]
      rcases st.out with ⟨h0,rfl⟩ | ⟨h0,rfl,h1,h2,h3,h4⟩
      · have:VM.order h l=[]:=by rw [hFo]; exact List.eq_nil_of_length_eq_zero h0
        rw [this]; exact .nils
      · refine Frz.row (sz:=6) (g:=go) (cells:=rowC ((VM.order h l).map (zbv (VM.order h l) h))) (by omega) (by rw [h1,List.take_length,hFo]) (by simp [hFo]) (zbj _) rfl fun c hc=>zbo (zby _ c hc)
  obtain ⟨v,hv⟩:∃ v,l[i]? = some v:=⟨_,List.getElem?_eq_getElem hil⟩
  have wv:=VM.right_okV hr v (List.mem_of_getElem? hv)
  have hol:=st.good.len
  have lv:=st.lv
  have hdrop:l.drop i=v :: l.drop (i+1):=by
    obtain ⟨hi',hv'⟩:=List.getElem?_eq_some_iff.1 hv
    rw [← hv']; exact List.drop_eq_getElem_cons hi'
  rw [hdrop] at hF
  have hF':VM.orderGo h (l.drop (i+1)) (VM.drain h (h.length - o.length) (VM.meet o v) o.length)=VM.order h l:=hF
  have pre:VM.meet o v <+: VM.order h l:=by
    rw [← hF']; exact (VM.drain_pre h _ _ _).trans (VM.orderGo_pre h _ _)
  have hput:VM.put (VM.meet o v) v=VM.put (VM.order h l) v:=VM.put_pre pre (VM.mem_meet o v)
  have hmix:=zvw (zamk (F:=VM.order h l) hv)
  have hset:=zyg (L:=(l.take i).map (VM.put (VM.order h l)) ++ l.drop i) (i:=i) (v:=VM.put (VM.order h l) v) (by simp; omega)
  rw [zapa hv] at hset
  simp only [List.map_take] at hmix hset
  simp [zhi,hil,st.vs,CALL]
  refine ⟨by rw [Nat.min_eq_left (by omega)]; omega,?_⟩
  rw [hmix]
  refine (zaaa v o (fun hk=>(wv.cell hk).1) (by omega) st.num (by omega) (by omega) (by omega) (fun ho=>(st.lr ho).2.1)).mono ?_
  rintro r H3 n3 ⟨rfl,hn3,gr3,st3,q2,q3⟩
  have S3:=st.meet wv.okV hn3 st3 q2 q3
  have hvs:=S3.vs
  simp only [List.map_take] at hvs
  simp [zsz,hvs,hput]
  refine ⟨hil,by rw [Nat.min_eq_left (by omega)]; omega,fun x hx=>zae (zat _ x hx),?_⟩
  refine zagn h l hr hs hil hl ha0 _ gv (fun a2' H4 n4 gr4 go4 o4 st4 hF4 => ?_) a2 _ _ gr3 go (VM.meet o v) o.length (S3.setv _ ?_) hF'
  · exact ⟨l.length - (i+1),by omega,i+1,rfl,by omega,a2',rfl,gr4,go4,o4,st4,hF4⟩
  · rw [List.append_assoc] at hset
    simp only [List.map_take]
    rw [hset]
end Go.Proofs.YtdmibdjokofclaaDoor
set_option maxRecDepth 8000
namespace Go.Proofs.YtdmibdjokofclaaDoor
open Go Go.RowKit
theorem zfo (v:Val) {A:Nat→Prop}:Bel A (.agg v.avs):=.agg _ fun j x hx=>zbo (zat _ x (List.mem_of_getElem? hx))
def zdc (h:List Cl):Prop:=∀ c∈h,VM.WrongOk c.left h.length∧VM.WrongOk c.right h.length
end Go.Proofs.YtdmibdjokofclaaDoor
set_option maxRecDepth 8000
namespace Go.Proofs.YtdmibdjokofclaaDoor
open Go Go.RowKit
def Grow (H:Heap) (lo n sz k:Nat) (cells:List AV) (a:AV):Prop:=(k=0∧a=.nils)∨(0 < k∧∃ g,lo≤g∧g < n∧a=.slc g 0 k∧H g=some (.row sz cells))
theorem Grow.zero {H:Heap} {lo n sz:Nat} {cells:List AV}:Grow H lo n sz 0 cells .nils:=.inl ⟨rfl,rfl⟩
theorem Grow.more {H H':Heap} {lo n n' sz k:Nat} {cells:List AV} {a:AV} (h:Grow H lo n sz k cells a) (hn:n≤n') (hk:∀ g,lo≤g→g < n→H' g=H g):Grow H' lo n' sz k cells a:=by
  rcases h with h | ⟨h0,g,h1,h2,h3,h4⟩
  · exact .inl h
  · exact .inr ⟨h0,g,h1,by omega,h3,by rw [hk g h1 h2]; exact h4⟩
theorem Grow.len {H:Heap} {lo n sz k:Nat} {cells:List AV} {a:AV} (h:Grow H lo n sz k cells a) {q:AV→Prop}:LNL a q=q (.int .i64 k):=by
  rcases h with ⟨rfl,rfl⟩ | ⟨h0,g,h1,h2,rfl,h4⟩ <;> simp
theorem Grow.app {H:Heap} {lo n sz k bytes t nx:Nat} {cells new:List AV} {a:AV} {kk:AV→Heap→Nat→Prop} (hg:Grow H lo n sz k cells a) (hlen:cells.length=k*sz) (ht:H t=some (.row sz new)) (hnl:new.length=sz) (hone:new.all AV.one=true)
    (hb:(k+1)*bytes≤140737488355328) (hn:n≤nx) (hlo:lo≤nx) (hk:∀ H',Keep lo H' H→Grow H' lo (nx+1) sz (k+1) (cells ++ new) (.slc nx 0 (k+1))→kk (.slc nx 0 (k+1)) H' (nx+1)):APP sz bytes a (.slc t 0 1) H nx kk:=by
  have hs:zm sz H (.slc t 0 1)=some (1,new,[t]):=by
    simp only [zm,ht]
    rw [if_pos (by omega)]
    simp [← hnl]
  rcases hg with ⟨rfl,rfl⟩ | ⟨h0,g,h1,h2,rfl,h4⟩
  · rw [zanu,hs,optk]
    have hc:cells=[]:=List.eq_nil_of_length_eq_zero (by omega)
    subst hc
    refine ⟨hone,fun h=>absurd h Nat.one_ne_zero,fun _ => ?_⟩
    exact ⟨by simpa using hb,hk _ (fun x hx=>Heap.put_ne _ _ (by omega)) (.inr ⟨by omega,nx,hlo,by omega,rfl,by rw [Heap.put_at]; rfl⟩)⟩
  · rw [zib,hs,optk,h4,rowk]
    refine ⟨rfl,hone,by omega,Nat.le_add_right_of_le hb,hk _ (fun x hx => ?_) (.inr ⟨by omega,nx,hlo,by omega,rfl,?_⟩)⟩
    · rw [Heap.put_ne _ _ (by omega),Heap.put_ne _ _ (by omega)]
    · rw [Heap.put_at,List.drop_zero,List.take_of_length_le (by omega)]
theorem Grow.append {H:Heap} {lo n sz k bytes t nx:Nat} {cells new:List AV} {a:AV} {kt:Kt} (hg:Grow H lo n sz k cells a) (hlen:cells.length=k*sz) (ht:H t=some (.row sz new)) (hnl:new.length=sz) (hone:new.all AV.one=true)
    (hb:(k+1)*bytes≤140737488355328) (hn:n≤nx) (hlo:lo≤nx) (hk:∀ rd D,(∀ g∈domD D,lo≤g)→Keep lo (H.apply D) H→Grow (H.apply D) lo (nx+1) sz (k+1) (cells ++ new) (.slc nx 0 (k+1))→kt (.slc nx 0 (k+1)) rd [nx] D):zam sz bytes a (.slc t 0 1) H nx kt:=by
  have hs:zm sz H (.slc t 0 1)=some (1,new,[t]):=by
    simp only [zm,ht]
    rw [if_pos (by omega)]
    simp [← hnl]
  rcases hg with ⟨rfl,rfl⟩ | ⟨h0,g,h1,h2,rfl,h4⟩
  · rw [zpu,hs,optk]
    have hc:cells=[]:=List.eq_nil_of_length_eq_zero (by omega)
    subst hc
    refine ⟨hone,fun h=>absurd h Nat.one_ne_zero,fun _ => ?_⟩
    exact ⟨by simpa using hb,hk _ _ (by simpa using hlo) (fun x hx=>Heap.put_ne _ _ (by omega)) (.inr ⟨by omega,nx,hlo,by omega,rfl,by simp only [zaw,zbg,Heap.put_at]; rfl⟩)⟩
  · rw [zrx,hs,optk,h4,rowk]
    refine ⟨rfl,hone,by omega,Nat.le_add_right_of_le hb,hk _ _ (by simp; omega) (fun x hx => ?_) (.inr ⟨by omega,nx,hlo,by omega,rfl,?_⟩)⟩
    · simp only [zaw,zbg]; rw [Heap.put_ne _ _ (by omega),Heap.put_ne _ _ (by omega)]
    · simp only [zaw,zbg]; rw [Heap.put_at,List.drop_zero,List.take_of_length_le (by omega)]
theorem Grow.frz {H:Heap} {lo n sz k nx:Nat} {cells:List AV} {a:AV} {xs:List (List AV)} (h:Grow H lo n sz k cells a) (hnx:nx≤lo) (hl:xs.length=k) (hs:∀ x∈xs,x.length=sz) (hc:xs.flatten=cells) (hb:∀ c∈cells,Bel (· < nx) c):Frz H nx a (.ro xs):=by
  rcases h with ⟨rfl,rfl⟩ | ⟨h0,g,h1,h2,rfl,h4⟩
  · rw [List.eq_nil_of_length_eq_zero hl]; exact .nils
  · exact Frz.row (by omega) h4 hl hs hc hb
end Go.Proofs.YtdmibdjokofclaaDoor
set_option maxRecDepth 8000
namespace Go.Proofs.YtdmibdjokofclaaDoor
open Go Go.RowKit
inductive FrzP (H:Heap) (G:Nat→Prop):AV→AV→Prop
  | same (v:AV):FrzP H G v v
  | nils:FrzP H G .nils (.ro [])
  | zs:FrzP H G .zs (.ro [])
  | slc (g off len sz:Nat) (cells:List AV) (xs:List (List AV)):G g→H g=some (.row sz cells)→off+len*sz≤cells.length→xs.length=len→(∀ x∈xs,x.length=sz) →
      (U:Nat→Nat→AV)→(∀ (i:Nat) (x:List AV) (j:Nat) (v:AV),xs[i]? = some x→x[j]? = some v→cells[off+i*sz+j]? = some (U i j)) →
      (∀ (i:Nat) (x:List AV) (j:Nat) (v:AV),xs[i]? = some x→x[j]? = some v→FrzP H G (U i j) v)→FrzP H G (.slc g off len) (.ro xs)
  | agg (xs ys:List AV):ys.length=xs.length→(∀ (j:Nat) (v u:AV),xs[j]? = some v→ys[j]? = some u→FrzP H G v u)→FrzP H G (.agg xs) (.agg ys)
theorem FrzP.rel {A:Nat→Prop} {ρ:Nat→Loc} {H H0:Heap} {w:World} {G:Nat→Prop} (s:Sim A ρ H w) (h0:∀ g o,H0 g=some o→¬ G g∧H g=some o) {v u:AV} (h:FrzP H G v u) :
    ∀ (c:Value),VRel (Kof ρ H w) ρ A v c→VRel (Kof ρ H0 w) ρ A u c:=by
  have hK:∀ b o,Kof ρ H w b=some o→Kof ρ H0 w b=some o:=fun b o hb=>by
    obtain ⟨h1,h2⟩:=zag.1 hb
    refine zag.2 ⟨fun g hg => ?_,h2⟩
    obtain ⟨o',ho'⟩:=Option.isSome_iff_exists.1 hg
    exact h1 g (by rw [(h0 g o' ho').2]; rfl)
  induction h with
  | same v=>exact fun c hc=>hc.mono hK (fun _ h=>⟨rfl,h⟩)
  | nils =>
    intro c hc
    cases hc
    exact .ro [] none 0 0 0 0 0 (fun _ _=>undef) rfl (Nat.le_refl _) (fun h=>absurd rfl h) (fun x hx=>by cases hx) (fun i x j v hx=>by simp at hx) (fun i x j v hx=>by simp at hx)
  | zs =>
    intro c hc
    cases hc with
    | zs a=>exact .ro [] a 0 0 0 0 0 (fun _ _=>undef) rfl (Nat.le_refl _) (fun h=>absurd rfl h) (fun x hx=>by cases hx) (fun i x j v hx=>by simp at hx) (fun i x j v hx=>by simp at hx)
  | slc g off len sz cells xs hg hH hle hl hsz U hU _ ih =>
    intro c hc
    cases hc with
    | slc _ _ _ cap a hA hcl hcap =>
      obtain ⟨cc,el,lo,hi,q1,q2,q3,q4,q5,q6⟩:=s.obj g _ hH
      have hKb:Kof ρ H0 w (ρ g).block=some (.cells cc el (lo,hi)):=by
        refine zag.2 ⟨fun x hx e => ?_,q1⟩
        obtain ⟨o',ho'⟩:=Option.isSome_iff_exists.1 hx
        obtain ⟨h1,h2⟩:=h0 x o' ho'
        have:=s.inj x g (by rw [h2]; rfl) (by rw [hH]; rfl) e
        subst this
        exact h1 hg
      have hex:∀ (i:Nat) (x:List AV) (j:Nat) (v:AV),xs[i]? = some x→x[j]? = some v→∃ cv,cc[(ρ g).base+(off+i*sz+j)]? = some cv∧VRel (Kof ρ H w) ρ A (U i j) cv:=fun i x j v hx hv=>q6 _ _ (hU i x j v hx hv)
      refine .ro xs a len cap sz (ρ g).block ((ρ g).base+off) (fun i j=>(cc[(ρ g).base+(off+i*sz+j)]?).getD undef) hl.symm hcl (fun hne => ?_) hsz (fun i x j v hx hv => ?_) (fun i x j v hx hv => ?_)
      · have hpos:0 < xs.length:=List.length_pos_iff.2 hne
        exact (hcap (by omega)).2
      · obtain ⟨cv,h1,h2⟩:=hex i x j v hx hv
        unfold zhg
        rw [hKb]
        simp only [h1,Option.getD_some]
        rw [← h1]; congr 1; omega
      · obtain ⟨cv,h1,h2⟩:=hex i x j v hx hv
        rw [h1]
        exact ih i x j v hx hv cv h2
  | agg xs ys hl _ ih =>
    intro c hc
    cases hc with
    | agg _ cs h1 h2 =>
    exact .agg ys cs (by omega) fun j v c hv hc=>by
        have hlt:=(List.getElem?_eq_some_iff.1 hv).1
        have hx:xs[j]? = some (xs[j]'(by omega)):=List.getElem?_eq_getElem (by omega)
        exact ih j _ v hx hv c (h2 j _ c hx hc)
theorem za.freeze {P:Program} {f:FuncId} {args:List AV} {H:Heap} {nx:Nat} {Q R:AV→Heap→Nat→Prop} (h:za P f args H nx Q)
    (hq:∀ v H' nx',Q v H' nx'→∃ (r:AV) (H0:Heap) (G:Nat→Prop),R r H0 nx'∧FrzP H' G v r∧(∀ g o,H0 g=some o→¬ G g∧H' g=some o)):za P f args H nx R:=by
  intro ρ w cargs s ha
  refine zan (h ρ w cargs s ha) fun cv w' ⟨v,H',nx',ρ',q1,q2,q3,q4⟩ => ?_
  obtain ⟨r,H0,G,hR,hF,h0⟩:=hq v H' nx' q1
  obtain ⟨s0,f0⟩:=q2.drop (H':=H0) fun g o ho=>(h0 g o ho).2
  exact ⟨r,H0,nx',ρ',hR,s0,hF.rel q2 h0 cv q3,q4.trans f0⟩
theorem FrzP.row {H:Heap} {G:Nat→Prop} {g sz len:Nat} {cells:List AV} {xs:List (List AV)} (hg:G g) (hH:H g=some (.row sz cells)) (hl:xs.length=len) (hs:∀ x∈xs,x.length=sz) (hc:∀ (i:Nat) (x:List AV) (j:Nat) (v:AV),xs[i]? = some x→x[j]? = some v→∃ u,cells[i*sz+j]? = some u∧FrzP H G u v) (hle:len*sz≤cells.length):FrzP H G (.slc g 0 len) (.ro xs):=by
  refine .slc g 0 len sz cells xs hg hH (by omega) hl hs (fun i j=>(cells[i*sz+j]?).getD .junk) (fun i x j v hx hv => ?_) fun i x j v hx hv => ?_
  · obtain ⟨u,h1,h2⟩:=hc i x j v hx hv
    rw [Nat.zero_add,h1]; rfl
  · obtain ⟨u,h1,h2⟩:=hc i x j v hx hv
    rw [h1]; exact h2
end Go.Proofs.YtdmibdjokofclaaDoor
set_option maxRecDepth 8000
namespace Go.Proofs.YtdmibdjokofclaaDoor
open Go Go.RowKit
@[simp] theorem zaul:AV.zs.cells=[AV.zs]:=rfl
@[simp] theorem zaup:AV.zs.sure=true:=rfl
@[simp] theorem zawe:AV.zs.one=true:=rfl
@[simp ↓] theorem zadb {esz bytes nx:Nat} {x:AV} {H:Heap} {kt:Kt}:zam esz bytes .zs x H nx kt=OPTK (zm esz H x) fun p=>p.2.1.all AV.one=true ∧
    (p.1=0→kt .zs p.2.2 [] [])∧(p.1 ≠ 0→p.1*bytes≤140737488355328∧kt (.slc nx 0 p.1) p.2.2 [nx] [(nx,some (.row esz p.2.1))]):=by
  simp only [zam,OPTK]
  cases hs:zm esz H x with
  | none=>simp
  | some p=>obtain ⟨m,news,rd⟩:=p; simp
def Slot (H:Heap) (sz k:Nat) (cells:List AV) (a:AV):Prop:=(k=0∧(a=.nils∨a=.zs))∨∃ g cs,a=.slc g 0 k∧H g=some (.row sz cs)∧cs.take (k*sz)=cells∧k*sz≤cs.length
def own:AV→List Nat
  | .slc g _ _=>[g]
  | _=>[]
theorem Slot.keep {H H':Heap} {sz k:Nat} {cells:List AV} {a:AV} (h:Slot H sz k cells a) (hk:∀ g∈own a,H' g=H g):Slot H' sz k cells a:=by
  rcases h with h | ⟨g,cs,rfl,h1,h2,h3⟩
  · exact .inl h
  · exact .inr ⟨g,cs,rfl,by rw [hk g (by simp [own])]; exact h1,h2,h3⟩
theorem Slot.len {H:Heap} {sz k:Nat} {cells:List AV} {a:AV} (h:Slot H sz k cells a) {q:AV→Prop}:LNL a q=q (.int .i64 k):=by
  rcases h with ⟨rfl,rfl | rfl⟩ | ⟨g,cs,rfl,_⟩ <;> simp
theorem Slot.cut {H:Heap} {sz k j:Nat} {cells:List AV} {g off:Nat} (h:Slot H sz k cells (.slc g off k)) (hj:j≤k):Slot H sz j (cells.take (j*sz)) (.slc g off j):=by
  rcases h with ⟨_,h | h⟩ | ⟨g',cs,h0,h1,h2,h3⟩
  · cases h
  · cases h
  · cases h0
    have:j*sz≤k*sz:=Nat.mul_le_mul_right _ hj
    exact .inr ⟨g,cs,rfl,h1,by rw [← h2,List.take_take,Nat.min_eq_left this],by omega⟩
theorem Slot.src {H:Heap} {sz k:Nat} {cells:List AV} {a:AV} (h:Slot H sz k cells a) (h0:k=0→cells=[]):∃ rd,zm sz H a=some (k,cells,rd):=by
  rcases h with ⟨rfl,rfl | rfl⟩ | ⟨g,cs,rfl,h1,h2,h3⟩
  · exact ⟨[],by rw [h0 rfl]; rfl⟩
  · exact ⟨[],by rw [h0 rfl]; rfl⟩
  · refine ⟨[g],?_⟩
    simp only [zm,h1,Nat.zero_add,List.drop_zero]
    rw [if_pos h3,h2]
theorem Slot.append {H:Heap} {sz k bytes t nx:Nat} {cells new:List AV} {a:AV} {kt:Kt} (hg:Slot H sz k cells a) (hlen:cells.length=k*sz) (ht:H t=some (.row sz new)) (hnl:new.length=sz) (hone:new.all AV.one=true)
    (hb:(k+1)*bytes≤140737488355328) (hk:∀ rd D,(∀ g∈domD D,g∈own a∨g=nx)→(H.apply D) nx=some (.row sz (cells ++ new))→(∀ g,g∉own a→g ≠ nx→(H.apply D) g=H g)→kt (.slc nx 0 (k+1)) rd [nx] D):zam sz bytes a (.slc t 0 1) H nx kt:=by
  have hs:zm sz H (.slc t 0 1)=some (1,new,[t]):=by
    simp only [zm,ht]
    rw [if_pos (by omega)]
    simp [← hnl]
  rcases hg with ⟨rfl,rfl | rfl⟩ | ⟨g,cs,rfl,h1,h2,h3⟩
  · rw [zpu,hs,optk]
    have hc:cells=[]:=List.eq_nil_of_length_eq_zero (by omega)
    subst hc
    refine ⟨hone,fun h=>absurd h Nat.one_ne_zero,fun _ => ?_⟩
    exact ⟨by simpa using hb,hk _ _ (by simp) (by simp only [zaw,zbg,Heap.put_at]; rfl) (fun x _ hx=>by simp only [zaw,zbg]; exact Heap.put_ne _ _ hx)⟩
  · rw [zadb,hs,optk]
    have hc:cells=[]:=List.eq_nil_of_length_eq_zero (by omega)
    subst hc
    refine ⟨hone,fun h=>absurd h Nat.one_ne_zero,fun _ => ?_⟩
    exact ⟨by simpa using hb,hk _ _ (by simp) (by simp only [zaw,zbg,Heap.put_at]; rfl) (fun x _ hx=>by simp only [zaw,zbg]; exact Heap.put_ne _ _ hx)⟩
  · rw [zrx,hs,optk,h1,rowk]
    refine ⟨rfl,hone,by omega,Nat.le_add_right_of_le hb,hk _ _ (by simp [own]) ?_ (fun x hx1 hx => ?_)⟩
    · simp only [zaw,zbg]; rw [Heap.put_at,List.drop_zero,h2]
    · simp only [zaw,zbg]; rw [Heap.put_ne _ _ hx,Heap.put_ne _ _ (by simpa [own] using hx1)]
theorem Slot.app {H:Heap} {sz k bytes t nx:Nat} {cells new:List AV} {a:AV} {kk:AV→Heap→Nat→Prop} (hg:Slot H sz k cells a) (hlen:cells.length=k*sz) (ht:H t=some (.row sz new)) (hnl:new.length=sz) (hone:new.all AV.one=true)
    (hb:(k+1)*bytes≤140737488355328) (hk:∀ H',H' nx=some (.row sz (cells ++ new))→(∀ g,g∉own a→g ≠ nx→H' g=H g)→kk (.slc nx 0 (k+1)) H' (nx+1)):APP sz bytes a (.slc t 0 1) H nx kk:=by
  have:=hg.append (bytes:=bytes) (t:=t) (nx:=nx) (new:=new) (kt:=fun v _ fr D=>kk v (H.apply D) (nx+fr.length)) hlen ht hnl hone hb fun rd D _ h1 h2=>hk _ h1 h2
  exact this
def frow:List Frm→List (AV×AV)→List AV
  | f :: fs,s :: ss=>.int .i64 f.fn :: .int .i64 f.at_ :: s.1 :: s.2 :: frow fs ss
  | _,_=>[]
theorem zav:∀ {fs:List Frm} {ss:List (AV×AV)},ss.length=fs.length→(frow fs ss).length=fs.length*4
  | [],[],_=>rfl
  | f :: fs,s :: ss,h=>by simp [frow,zav (fs:=fs) (ss:=ss) (by simpa using h)]; omega
  | [],s :: ss,h=>by simp at h
  | f :: fs,[],h=>by simp at h
theorem zcs:∀ {fs:List Frm} {ss:List (AV×AV)} {f:Frm} {s:AV×AV},ss.length=fs.length→frow (fs ++ [f]) (ss ++ [s])=frow fs ss ++ [.int .i64 f.fn,.int .i64 f.at_,s.1,s.2]
  | [],[],f,s,_=>rfl
  | g :: fs,t :: ss,f,s,h=>by simp [frow,zcs (fs:=fs) (ss:=ss) (f:=f) (s:=s) (by simpa using h)]
  | [],s :: ss,_,_,h=>by simp at h
  | f :: fs,[],_,_,h=>by simp at h
def owns (ss:List (AV×AV)):List Nat:=ss.flatMap fun s=>own s.1 ++ own s.2
def Spt.avs (s:Spt):List AV:=[.str s.name,.ro (s.facts.map fun x=>.str x.key :: x.val.avs),.int .i64 s.fuel,.int .i64 s.cells]
def Evt.avs (e:Evt):List AV:=[.int .i64 e.kind,.str e.text,.int .i64 e.err]
def zf (id trip:Int) (p:Prg) (fa ha:AV) (m:Pmt) (gs:Nat) (e:Evt):List AV :=
  [.int .i64 id,.int .i64 trip,.ro (p.codes.map Cod.avs),.ro (p.words.map fun w=>[.str w]),fa,ha,.int .i64 m.fuel,.int .i64 m.room,.int .i64 m.hops,.ptr gs 0,.int .i64 e.kind,.str e.text,.int .i64 e.err]
def zaq (H:Heap) (fs:List Frm) (ss:List (AV×AV)):Prop:=ss.length=fs.length∧∀ (k:Nat) (f:Frm) (s:AV×AV),fs[k]? = some f→ss[k]? = some s→Slot H 3 f.vars.length (rowV f.vars) s.1∧Slot H 3 f.stack.length (rowV f.stack) s.2
theorem zaq.keep {H H':Heap} {fs:List Frm} {ss:List (AV×AV)} (h:zaq H fs ss) (hk:∀ g∈owns ss,H' g=H g):zaq H' fs ss:=by
  refine ⟨h.1,fun k f s hf hs => ?_⟩
  obtain ⟨a,b⟩:=h.2 k f s hf hs
  have hm:=List.mem_of_getElem? hs
  exact ⟨a.keep fun g hg=>hk g (List.mem_flatMap.2 ⟨s,hm,List.mem_append_left _ hg⟩),b.keep fun g hg=>hk g (List.mem_flatMap.2 ⟨s,hm,List.mem_append_right _ hg⟩)⟩
theorem zaq.snoc {H:Heap} {fs:List Frm} {ss:List (AV×AV)} {f:Frm} {s:AV×AV} (h:zaq H fs ss) (h1:Slot H 3 f.vars.length (rowV f.vars) s.1) (h2:Slot H 3 f.stack.length (rowV f.stack) s.2):zaq H (fs ++ [f]) (ss ++ [s]):=by
  refine ⟨by simp [h.1],fun k f' s' hf hs => ?_⟩
  by_cases hk:k < fs.length
  · rw [List.getElem?_append_left hk] at hf
    rw [List.getElem?_append_left (by rw [h.1]; exact hk)] at hs
    exact h.2 k f' s' hf hs
  · have hk':k=fs.length:=by have:=(List.getElem?_eq_some_iff.1 hf).1; simp at this; omega
    subst hk'
    rw [List.getElem?_append_right (Nat.le_refl _)] at hf
    rw [List.getElem?_append_right (by rw [h.1]; exact Nat.le_refl _),h.1] at hs
    simp at hf hs
    subst hf; subst hs
    exact ⟨h1,h2⟩
theorem zaq.last {H:Heap} {fs:List Frm} {ss:List (AV×AV)} {f:Frm} {s:AV×AV} (h:zaq H (fs ++ [f]) (ss ++ [s])):zaq H fs ss∧Slot H 3 f.vars.length (rowV f.vars) s.1∧Slot H 3 f.stack.length (rowV f.stack) s.2:=by
  have hl:ss.length=fs.length:=by simpa using h.1
  refine ⟨⟨hl,fun k f' s' hf hs => ?_⟩,h.2 fs.length f s (by simp) (by rw [← hl]; simp)⟩
  have h1:=(List.getElem?_eq_some_iff.1 hf).1
  exact h.2 k f' s' (by rw [List.getElem?_append_left h1]; exact hf) (by rw [List.getElem?_append_left (by omega)]; exact hs)
structure RL (H0 H:Heap) (lo n gr gs gf:Nat) (id trip:Int) (p:Prg) (s:Spt) (fs:List Frm) (ss:List (AV×AV)) (f:Frm) (va sa:AV) (h:List Cl) (ha:AV) (m:Pmt) (e:Evt):Prop where
  run:H gr=some (.row 13 (zf id trip p (.slc gf 0 (fs.length+1)) ha m gs e))
  fr:∃ cs,H gf=some (.row 4 cs)∧cs.take ((fs.length+1)*4)=frow fs ss ++ [.int .i64 f.fn,.int .i64 f.at_,va,sa]∧(fs.length+1)*4≤cs.length
  frs:zaq H fs ss
  sv:Slot H 3 f.vars.length (rowV f.vars) va
  st:Slot H 3 f.stack.length (rowV f.stack) sa
  hp:Slot H 6 h.length (rowC h) ha
  spot:H gs=some (.row 4 s.avs)
  nd:(gr :: gs :: gf :: (own ha ++ (owns ss ++ (own va ++ own sa)))).Nodup
  gsn:gs < n
  bd:∀ g∈gr :: gf :: (own ha ++ (owns ss ++ (own va ++ own sa))),lo≤g∧g < n
  keep:Keep lo H H0
  le:lo≤n
end Go.Proofs.YtdmibdjokofclaaDoor
