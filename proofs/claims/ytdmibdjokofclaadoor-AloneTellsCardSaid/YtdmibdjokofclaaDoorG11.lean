/- The machine's small functions: push, where the order is drawn. The machine's step: one instruction. A copy of an agent: the program's part. A copy of an agent: the frames' part. A copy of an agent. Agents, by value. The machine goes on: Run. The machine goes on: Run. The machine: Answer. What a call is handed is read by value from then on, in part. -/
import Derived.Test.YtdmibdjokofclaaDoorG10
import Derived.Test.YtdmibdjokofclaaDoorG9
set_option linter.unusedSimpArgs false
set_option linter.unusedVariables false
set_option maxRecDepth 8000
namespace Go.Proofs.YtdmibdjokofclaaDoor
open Go Go.RowKit
section
variable {H0 H:Heap} {lo n gr gs gf:Nat} {id trip:Int} {p:Prg} {s:Spt} {fs:List Frm} {ss:List (AV×AV)} {f:Frm} {va sa:AV} {h:List Cl} {ha:AV} {m:Pmt} {e:Evt}
structure zaat (H:Heap) (gr gf k j:Nat) (cs cells:List AV) (sa:AV):Prop where
  run:∃ rc,H gr=some (.row 13 rc)∧rc[4]? = some (.slc gf 0 (k+1))
  fr:H gf=some (.row 4 cs)
  frl:(k+1)*4≤cs.length
  cell:cs[k*4+3]? = some sa
  st:Slot H 3 j cells sa
  len:cells.length=j*3
  kb:k≤4096
  jb:j≤4096
  of:gf∉own sa
def zed (cs:List AV) (k g j:Nat):List AV:=cs.take (k*4+3) ++ AV.slc g 0 (j+1) :: cs.drop (k*4+3+1)
set_option maxHeartbeats 1000000 in
theorem zahw {k j:Nat} {cs cells:List AV} (v:Val) (st:zaat H gr gf k j cs cells sa) (l1:gr < n) (l2:gf < n) (l3:∀ g∈own sa,g < n) {Q:AV→Heap→Nat→Prop}
    (hq:∀ H' n' g',n≤g'→g' < n'→H' gf=some (.row 4 (zed cs k g' j))→H' g'=some (.row 3 (cells ++ v.avs))→(∀ x,x < n→x ≠ gf→x∉own sa→H' x=H x)→Q (.tup []) H' n'):za Tryd.prog 54 [.ptr gr 0,.agg v.avs] H n Q:=by
  refine zix _ _ H n _ ?_
  simp [zgl]
  obtain ⟨rc,h1,h2⟩:=st.run
  have c1:=st.fr
  have c3:=st.frl
  have c7:=st.cell
  have rn0:gr ≠ n:=by omega
  have fn0:gf ≠ n:=by omega
  refine zacg (rc:=rc) (cs:=cs) (k:=k) (by rw [Heap.put_ne _ _ rn0]; exact h1) h2 (by rw [Heap.put_ne _ _ fn0]; exact c1) st.kb ?_
  have tv:v.avs.take 3=v.avs:=rfl
  have lv:v.avs.length=3:=rfl
  have fnn:gf ≠ n+1:=by omega
  have gn1:n ≠ n+1:=by omega
  have hlen:=st.len
  have hjb:=st.jb
  simp [zgm,c1,c7,tv,lv,fn0,gn1]
  have sa1:Slot ((H.put n (some (AObj.row 3 v.avs))).put (n+1) (some (AObj.row 3 v.avs))) 3 j cells sa:=st.st.keep fun g hg=>by
    have:=l3 g hg
    rw [Heap.put_ne _ _ (by omega),Heap.put_ne _ _ (by omega)]
  refine Slot.append (new:=v.avs) sa1 st.len (Heap.put_at _ _ _) rfl (List.all_eq_true.2 (zah v)) (by omega) fun rd D hD q1 q2 => ?_
  have hgf:(((H.put n (some (AObj.row 3 v.avs))).put (n+1) (some (AObj.row 3 v.avs))).apply D) gf=some (.row 4 cs):=by
    rw [q2 gf st.of (by omega),Heap.put_ne _ _ fnn,Heap.put_ne _ _ fn0]; exact c1
  have hold:∀ g,g < n→g∉own sa→(((H.put n (some (AObj.row 3 v.avs))).put (n+1) (some (AObj.row 3 v.avs))).apply D) g=H g:=fun g hg hs=>by
    rw [q2 g hs (by omega),Heap.put_ne _ _ (by omega),Heap.put_ne _ _ (by omega)]
  generalize ((H.put n (some (AObj.row 3 v.avs))).put (n+1) (some (AObj.row 3 v.avs))).apply D=HD at *
  simp [hgf]
  refine ⟨by omega,by omega,zbi (by simp) (hq _ _ (n+1+1) (by omega) (by omega) (by rw [Heap.put_at]; rfl) (by rw [Heap.put_ne _ _ (by omega)]; exact q1) fun x h1 h2 h3=>by rw [Heap.put_ne _ _ h2]; exact hold x h1 h3)⟩
theorem RL.pushAt (st:RL H0 H lo n gr gs gf id trip p s fs ss f va sa h ha m e) (hf:fs.length≤4096) (hb:f.stack.length≤4096) (v:Val):∃ cs,zaat H gr gf fs.length f.stack.length cs (rowV f.stack) sa∧(∀ g∈own sa,g < n) ∧
    ∀ H' n' g',n≤g'→g' < n'→H' gf=some (.row 4 (zed cs fs.length g' f.stack.length))→H' g'=some (.row 3 (rowV f.stack ++ v.avs))→(∀ x,x < n→x ≠ gf→x∉own sa→H' x=H x)→RL H0 H' lo n' gr gs gf id trip p s fs ss { f with stack:=f.stack ++ [v] } va (.slc g' 0 (f.stack.length+1)) h ha m e:=by
  obtain ⟨cs,c1,c2,c3,c4,c5,c6,c7⟩:=st.last
  have ap:=st.apart
  have lv:v.avs.length=3:=rfl
  refine ⟨cs,⟨⟨_,st.run,rfl⟩,c1,c3,c7,st.st,by simp,hf,hb,fun h=>(ap.t _ h).2.2.2.1 rfl⟩,fun g hg=>(ap.t g hg).1,fun H' n' g' h1 h2 q1 q2 old => ?_⟩
  obtain ⟨d1,d2⟩:=zkt (u:=AV.slc g' 0 (f.stack.length+1)) c2 (zav st.frs.1) c3 (j:=3) (by omega)
  refine st.upd (by omega) ?_ ⟨_,q1,by simpa [zed] using d1,d2⟩ ?_ ?_ ?_ ?_ (fun g hg=>.inl hg) (fun g hg=>.inl hg) ?_ ?_
  · rw [old gr ap.r ap.rf (fun h=>(ap.t _ h).2.1 rfl)]; exact st.run
  · exact st.sv.keep fun g hg=>old g (ap.v g hg).1 (ap.v g hg).2.2.2.1 (ap.v g hg).2.2.2.2.2.2
  · refine .inr ⟨g',rowV f.stack ++ v.avs,by simp,q2,?_,?_⟩
    · rw [zel,List.take_of_length_le (by simp [lv]; omega)]
    · simp [lv]; omega
  · exact st.hp.keep fun g hg=>old g (ap.h g hg).1 (ap.h g hg).2.2.2.1 (ap.h g hg).2.2.2.2.2.2
  · exact fun g hg _ h2 _ _ h3=>old g hg h2 h3
  · intro g hg; simp [own] at hg; subst hg; exact .inr ⟨by omega,by omega⟩
  · have := st.nd3
    simp only [List.nodup_append,List.mem_append] at this ⊢
    obtain ⟨z1,⟨z2,_,_⟩,z4⟩:=this
    refine ⟨z1,⟨z2,zpb _,?_⟩,?_⟩
    · rintro x hx y hy rfl
      simp [own] at hy
      have:=(ap.v x hx).1; omega
    · rintro x hx y (hy | hy) rfl
      · exact z4 x hx x (.inl hy) rfl
      · simp [own] at hy
        have:=(ap.h x hx).1; omega
def gone (sa:AV):zq:=(own sa).map fun g=>(g,none)
theorem zro {g':Nat} {o1 o2:Option AObj} (hne:∀ g,g∈own sa→g ≠ g'∧g ≠ gf) (hfn:gf ≠ g') (Hx:Heap):(Hx.apply (gone sa ++ [(gf,o1),(g',o2)])) gf=o1∧(Hx.apply (gone sa ++ [(gf,o1),(g',o2)])) g'=o2 ∧
    ∀ x,x∉own sa→x ≠ gf→x ≠ g'→(Hx.apply (gone sa ++ [(gf,o1),(g',o2)])) x=Hx x:=by
  have e:∀ (D1 D2:zq) (Hy:Heap),Hy.apply (D1 ++ D2)=(Hy.apply D1).apply D2:=fun D1 D2 Hy=>by
    induction D1 generalizing Hy with
    | nil=>rfl
    | cons d D1 ih=>obtain ⟨g,o⟩:=d; exact ih (Hy.put g o)
  rw [e]
  simp only [zaw,zbg]
  refine ⟨by rw [Heap.put_ne _ _ hfn,Heap.put_at],by rw [Heap.put_at],fun x hx h1 h2 => ?_⟩
  rw [Heap.put_ne _ _ h2,Heap.put_ne _ _ h1]
  cases sa
  case slc g o l=>simp [own] at hx; simp [gone,own,hx]
  all_goals rfl
theorem zo.push {k j:Nat} {cs cells:List AV} {v:Val} (st:zaat H gr gf k j cs cells sa) (hc:∀ c∈cells,scal c=true) {kt:Kt} (hne:∀ g,g∈own sa→g ≠ n∧g ≠ gf) (hfn:gf ≠ n) (hk:kt (.tup []) (gr :: gf :: own sa) [n] (gone sa ++ [(gf,some (.row 4 (zed cs k n j))),(n,some (.row 3 (cells ++ v.avs)))])) :
    zo Tryd.prog (.clo 54 []) [.ptr gr 0,.agg v.avs] H n kt:=by
  obtain ⟨rc,h1,h2⟩:=st.run
  have c1:=st.fr
  have dg:∀ x,x∈domD (gone sa)↔x∈own sa:=fun x=>by simp [gone,domD]
  have dD:∀ x,x∈domD (gone sa ++ [(gf,some (.row 4 (zed cs k n j))),(n,some (.row 3 (cells ++ v.avs)))])↔x∈own sa∨x=gf∨x=n:=fun x=>by simp [domD,gone]
  have app:∀ Hx:Heap,(Hx.apply (gone sa ++ [(gf,some (.row 4 (zed cs k n j))),(n,some (.row 3 (cells ++ v.avs)))])) gf=some (.row 4 (zed cs k n j))∧(Hx.apply (gone sa ++ [(gf,some (.row 4 (zed cs k n j))),(n,some (.row 3 (cells ++ v.avs)))])) n=some (.row 3 (cells ++ v.avs)) ∧
      ∀ x∈own sa,(Hx.apply (gone sa ++ [(gf,some (.row 4 (zed cs k n j))),(n,some (.row 3 (cells ++ v.avs)))])) x=none:=fun Hx=>by
    have e:∀ (D1 D2:zq) (Hy:Heap),Hy.apply (D1 ++ D2)=(Hy.apply D1).apply D2:=fun D1 D2 Hy=>by
      induction D1 generalizing Hy with
      | nil=>rfl
      | cons d D1 ih=>obtain ⟨g,o⟩:=d; exact ih (Hy.put g o)
    rw [e]
    simp only [zaw,zbg]
    refine ⟨by rw [Heap.put_ne _ _ hfn,Heap.put_at],by rw [Heap.put_at],fun x hx => ?_⟩
    obtain ⟨a,b⟩:=hne x hx
    rw [Heap.put_ne _ _ a,Heap.put_ne _ _ b]
    cases sa <;> simp [own] at hx
    subst hx
    simp [gone,own]
  refine ⟨_,gr :: gf :: own sa,[n],_,.inr (.inl rfl),LC.of_callsN (fun x hx => ?_) (fun x hx => ?_) (fun A hA hB H' n' hag => ?_),hk⟩
  · simp at hx
    rcases hx with rfl | rfl | hx
    · rw [h1]; rfl
    · rw [c1]; rfl
    · rcases st.st with ⟨_,rfl | rfl⟩ | ⟨g,gcs,rfl,g1,_⟩
      · simp [own] at hx
      · simp [own] at hx
      · simp [own] at hx; subst hx; rw [g1]; rfl
  · rcases (dD x).1 hx with h | h | h
    · exact .inl (by simp [h])
    · exact .inl (by simp [h])
    · exact .inr h
  · obtain ⟨a1,a2⟩:=hag gr (by simp)
    obtain ⟨a3,a4⟩:=hag gf (by simp)
    have st':zaat H' gr gf k j cs cells sa:=⟨⟨rc,by rw [a1]; exact h1,h2⟩,by rw [a3]; exact c1,st.frl,st.cell,st.st.keep fun g hg=>(hag g (by simp [hg])).1,st.len,st.kb,st.jb,st.of⟩
    refine zahw v st' a2 a4 (fun g hg=>(hag g (by simp [hg])).2) fun H'' n'' g' hg1 hg2 q1 q2 old => ?_
    obtain ⟨p1,p2,p3⟩:=app H'
    have hb:=hB gf (by simp) _ c1
    refine ⟨g',hg1,hg2,.same _ (.tup _ fun j v hv=>by simp at hv),fun x hx hd => ?_,fun x o hx hxn ho => ?_,⟨_,_,p2,q2,rfl,rfl,fun j x u hx hu => ?_⟩⟩
    · have:=(not_congr (dD x)).1 hd
      simp only [not_or] at this
      exact old x hx this.2.1 this.1
    · rcases (dD x).1 hx with h | h | h
      · rw [p3 x h] at ho; cases ho
      · subst h
        rw [p1] at ho
        cases ho
        refine ⟨_,q1,rfl,by simp [zed],fun j x u hx hu => ?_⟩
        unfold zed at hx hu
        have hl:(cs.take (k*4+3)).length=k*4+3:=by have:=st.frl; simp; omega
        by_cases hj:j < k*4+3
        · rw [List.getElem?_append_left (by omega)] at hx hu
          rw [hx] at hu; cases hu
          rw [List.getElem?_take,if_pos hj] at hx
          exact .same _ (hb j x hx)
        · rw [List.getElem?_append_right (by omega)] at hx hu
          rw [hl] at hx hu
          cases hjj:j - (k*4+3) with
          | zero =>
            rw [hjj] at hx hu
            simp at hx hu; subst hx; subst hu
            exact .slc _ _
          | succ i =>
            rw [hjj] at hx hu
            simp only [List.getElem?_cons_succ] at hx hu
            rw [hx] at hu; cases hu
            rw [List.getElem?_drop] at hx
            exact .same _ (hb _ x hx)
      · exact absurd h hxn
    · rw [hx] at hu; cases hu
      have hm:=List.mem_of_getElem? hx
      refine .same _ (zbo ?_)
      rcases List.mem_append.1 hm with h | h
      · exact hc x h
      · exact zat v x h
theorem RL.pushD (v:Val) (st:RL H0 H lo n gr gs gf id trip p s fs ss f va sa h ha m e) (hf:fs.length≤4096) (hb:f.stack.length≤4096) {kt:Kt}
    (hk:∀ (H':Heap) sa' rd D,H'=H.apply D→RL H0 H' lo (n+1) gr gs gf id trip p s fs ss { f with stack:=f.stack ++ [v] } va sa' h ha m e→kt (.tup []) rd [n] D):zo Tryd.prog (.clo 54 []) [.ptr gr 0,.agg v.avs] H n kt:=by
  obtain ⟨cs,hp,hlt,hr⟩:=st.pushAt hf hb v
  have ap:=st.apart
  have hne:∀ g,g∈own sa→g ≠ n∧g ≠ gf:=fun g hg=>⟨by have:=hlt g hg; omega,(ap.t g hg).2.2.2.1⟩
  have hfn:gf ≠ n:=by have:=ap.f; omega
  refine zo.push hp (fun c hc=>zbq _ c hc) hne hfn (hk _ _ _ _ rfl (hr _ (n+1) n (Nat.le_refl _) (by omega) ?_ ?_ fun x hx h1 h2 => ?_))
  · exact (zro hne hfn H).1
  · exact (zro hne hfn H).2.1
  · exact (zro hne hfn H).2.2 x h2 h1 (by omega)
end
end Go.Proofs.YtdmibdjokofclaaDoor
set_option maxRecDepth 8000
namespace Go.Proofs.YtdmibdjokofclaaDoor
open Go Go.RowKit
def zahl (H0 H:Heap) (lo n gr gs:Nat) (s:Spt) (r:Agt×Evt):Prop:=(r.2=VM.ev0∧∃ gf fs ss f va sa ha,r.1.frames=fs ++ [f]∧RL H0 H lo n gr gs gf r.1.id r.1.trip r.1.prog s fs ss f va sa r.1.heap ha r.1.permit VM.ev0) ∨
  (r.2.kind ≠ 0∧Fin H0 H lo gr r.1.id r.1.trip r.1.prog r.1.frames r.1.heap r.1.permit r.2)
theorem zfm {st:List Val} (h:1≤st.length):st=VM.low 1 st ++ [VM.top1 st]:=by
  unfold VM.low VM.top1
  have:st[st.length - 1]? = some st[st.length - 1]:=List.getElem?_eq_getElem (by omega)
  rw [List.getD_eq_getElem?_getD,this]
  have e:=zdn this
  rw [show st.length - 1+1=st.length by omega,List.take_length] at e
  exact e
theorem zui {st:List Val} (h:2≤st.length):st=VM.low 2 st ++ [VM.top2 st,VM.top1 st]:=by
  have h1:=zfm (st:=st) (by omega)
  have:st[st.length - 2]? = some st[st.length - 2]:=List.getElem?_eq_getElem (by omega)
  have e:=zdn this
  rw [show st.length - 2+1=st.length - 1 by omega] at e
  have e2:VM.low 1 st=VM.low 2 st ++ [VM.top2 st]:=by
    unfold VM.low VM.top2
    rw [List.getD_eq_getElem?_getD,this]; exact e
  rw [e2] at h1
  simpa using h1
theorem zakr {p:Prg} {fs:List Frm} {fn:Int} (h:VM.WChain p fs fn):∀ g∈fs,∃ k,VM.Waits p g k:=by
  induction h with
  | nil=>intro g hg; simp at hg
  | snoc gs g0 fn _ w ih =>
    intro g hg
    rcases List.mem_append.1 hg with h | h
    · exact ih g h
    · simp at h; subst h; exact ⟨_,w⟩
theorem ztu {a:Agt} {fs:List Frm} {f:Frm} (l:VM.Live a fs f):∀ g∈fs,g.stack.length≤15:=by
  intro g hg
  obtain ⟨k,w⟩:=zakr l.chain g hg
  have ok:=l.ok g (by simp [hg])
  have pr:=(zad l.prog).1 _ (VM.code_mem ok.code)
  have hm:=(zcr pr.2.1 pr.2.2).2 _ (List.mem_of_getElem? w.hei)
  omega
theorem zso {p:Prg} (h:VM.program p=0):∀ w∈p.words,w.length≤12:=by
  unfold VM.program at h
  split at h
  · omega
  split at h
  · omega
  split at h
  · omega
  rename_i hw
  have hw':p.words.all VM.word=true:=by simpa using hw
  intro w hm
  have:=List.all_eq_true.1 hw' w hm
  unfold VM.word at this
  simp at this
  exact this.1
theorem zapt {cs:List AV} {vs:List Val} {i:Nat} {v:Val} (h1:cs.take (vs.length*3)=rowV vs) (h2:vs.length*3≤cs.length) (hi:i < vs.length) :
    (cs.take (i*3) ++ (v.avs ++ cs.drop (i*3+3))).take ((vs.set i v).length*3)=rowV (vs.set i v)∧(vs.set i v).length*3≤(cs.take (i*3) ++ (v.avs ++ cs.drop (i*3+3))).length:=by
  have e1:vs.set i v=vs.take i ++ ([v] ++ vs.drop (i+1)):=by rw [List.set_eq_take_append_cons_drop,if_pos hi]; rfl
  have ecs:cs=rowV vs ++ cs.drop (vs.length*3):=by rw [← h1,List.take_append_drop]
  have one:rowV [v]=v.avs:=by simp [rowV]
  have lv:v.avs.length=3:=rfl
  generalize cs.drop (vs.length*3)=T at ecs
  have t1:cs.take (i*3)=rowV (vs.take i):=by rw [ecs,List.take_append_of_le_length (by simp; omega),zacm]
  have t2:cs.drop (i*3+3)=rowV (vs.drop (i+1)) ++ T:=by
    rw [ecs,List.drop_append_of_le_length (by simp; omega),show i*3+3=(i+1)*3 by omega,zum]
  rw [t1,t2,List.length_set,e1,zhp,zhp,one]
  have hl:(rowV (vs.take i) ++ (v.avs ++ rowV (vs.drop (i+1)))).length=vs.length*3:=by simp [lv]; omega
  have e:rowV (vs.take i) ++ (v.avs ++ (rowV (vs.drop (i+1)) ++ T))=(rowV (vs.take i) ++ (v.avs ++ rowV (vs.drop (i+1)))) ++ T:=by simp
  rw [e]
  exact ⟨by rw [← hl,List.take_left],by rw [List.length_append,hl]; omega⟩
section
variable {H0 H:Heap} {lo n gr gs gf:Nat} {id trip:Int} {p:Prg} {s:Spt} {fs:List Frm} {ss:List (AV×AV)} {f:Frm} {va sa:AV} {h:List Cl} {ha:AV} {m:Pmt} {e:Evt}
theorem RL.setva (st:RL H0 H lo n gr gs gf id trip p s fs ss f va sa h ha m e) {vs:List Val} {g:Nat} {c:Option AObj} (hg:own va=[g]) (hs:Slot (H.put g c) 3 vs.length (rowV vs) va):RL H0 (H.put g c) lo n gr gs gf id trip p s fs ss { f with vars:=vs } va sa h ha m e:=by
  have ap:=st.apart
  obtain ⟨a1,a2,a3,a4,a5,a6,a7⟩:=ap.v g (by simp [hg])
  obtain ⟨cs,c1,c2⟩:=st.fr
  have hk:∀ x,x ≠ g→(H.put g c) x=H x:=fun x hx=>Heap.put_ne _ _ hx
  exact st.upd (Nat.le_refl _) (by rw [hk _ (Ne.symm a2)]; exact st.run) ⟨cs,by rw [hk _ (Ne.symm a4)]; exact c1,c2⟩ hs (st.st.keep fun x hx=>hk x fun e=>a7 (e ▸ hx)) (st.hp.keep fun x hx=>hk x fun e=>a5 (e ▸ hx)) (fun x _ _ _ _ hx _=>hk x fun e=>hx (by rw [hg,e]; simp)) (fun g hg=>.inl hg) (fun g hg=>.inl hg) (fun g hg=>.inl hg) st.nd3
theorem RL.setat (st:RL H0 H lo n gr gs gf id trip p s fs ss f va sa h ha m e) {cs:List AV} (k:Int) (c1:H gf=some (.row 4 cs)) (c2:cs.take ((fs.length+1)*4)=frow fs ss ++ [.int .i64 f.fn,.int .i64 f.at_,va,sa]) (c3:(fs.length+1)*4≤cs.length) :
    RL H0 (H.put gf (some (.row 4 (cs.take (fs.length*4+1) ++ AV.int .i64 k :: cs.drop (fs.length*4+1+1))))) lo n gr gs gf id trip p s fs ss { f with at_:=k } va sa h ha m e:=by
  obtain ⟨d1,d2⟩:=zkt (u:=AV.int .i64 k) c2 (zav st.frs.1) c3 (j:=1) (by omega)
  exact st.setfr (f':={ f with at_:=k }) ⟨_,rfl,by simpa using d1,d2⟩ st.sv st.st rfl rfl
end
section
variable {H0 H:Heap} {lo n gr gs gf:Nat} {a:Agt} {s:Spt} {fs:List Frm} {ss:List (AV×AV)} {f:Frm} {va sa:AV} {ha:AV}
set_option maxHeartbeats 16000000 in
set_option maxRecDepth 20000 in
theorem zaow (l:VM.Live a fs f) (hfu:a.permit.fuel ≠ 0) (st:RL H0 H lo n gr gs gf a.id a.trip a.prog s fs ss f va sa a.heap ha a.permit VM.ev0) (hname:s.name.length≤maxLen) (hfacts:s.facts.length≤4611686018427387903) {Q:AV→Heap→Nat→Prop}
    (hq:∀ H' n',n≤n'→zahl H0 H' lo n' gr gs s (VM.opDo { a with permit:={ a.permit with fuel:=a.permit.fuel - 1 } } s fs { f with at_:=f.at_+1 } (VM.insAt a.prog f))→Q (.tup []) H' n') :
    za Tryd.prog 40 [.ptr gr 0] H n Q:=by
  refine zqy _ H n _ ?_
  unfold zlm
  have flen:=l.flen
  refine zadv st (by omega) ?_
  have ok:=l.ok f (by simp)
  have nw:=l.now
  generalize VM.insAt a.prog f=i at *
  obtain ⟨iop,ia,ib⟩:=i
  have hins:=nw.at_
  obtain ⟨o1,o2,o3,o4⟩:=VM.numbers_ok nw.num
  have pops:=nw.pops
  have most:=nw.most
  obtain ⟨cs,c1,c2,c3,c4,c5,c6,c7⟩:=st.last
  have ap:=st.apart
  have hr:=st.run
  have hcode:=zmj ok.code
  have fn0:gf ≠ n:=by have:=ap.f; omega
  have rn0:gr ≠ n:=by have:=ap.r; omega
  have rf:=ap.rf
  have hca:(VM.codeAt a.prog f.fn).avs=[.int .i64 (VM.codeAt a.prog f.fn).params,.int .i64 (VM.codeAt a.prog f.fn).vars,.ro ((VM.codeAt a.prog f.fn).ins.map Ins.avs)]:=rfl
  have hfn1:f.fn < (a.prog.codes.length:Int):=by have:=ok.code; have:=ok.fn0; omega
  have hat1:f.at_ < ((VM.codeAt a.prog f.fn).ins.length:Int):=by have:=ok.ins; have:=ok.at0; omega
  obtain ⟨crange,_,_⟩:=(zad l.prog).1 _ (VM.code_mem ok.code)
  unfold VM.codeRange at crange
  rw [decide_eq_false_iff_not] at crange
  have hb:=l.fuel
  have hat0:=ok.at0
  have hfn0:=ok.fn0
  have hw1:IntKind.i64.wrap (f.at_+1)=f.at_+1:=i64w (by omega)
  have hw2:IntKind.i64.wrap (a.permit.fuel - 1)=a.permit.fuel - 1:=i64w (by omega)
  have b2:=l.room
  have b3:=l.hops
  have b4:=l.hlen
  have oc:zdc a.heap:=l.cells
  have slen:f.stack.length≤17:=by
    have e:=most
    unfold VM.after at e
    have e2:=zhz ⟨iop,ia,ib⟩ (fun h17=>by
      have:=(zad l.prog).1 _ (VM.code_mem ok.code)
      exact this.2.1 _ (List.mem_of_getElem? hins) h17)
    have:=nw.next
    have hst:=l.still
    unfold VM.Still VM.hts at hst
    have hm:=(zcr ((zad l.prog).1 _ (VM.code_mem ok.code)).2.1 ((zad l.prog).1 _ (VM.code_mem ok.code)).2.2).2 _ (List.mem_of_getElem? hst)
    omega
  have m1:1≤f.stack.length→VM.WrongOk (VM.top1 f.stack) a.heap.length:=fun h=>ok.sv _ (VM.top1_mem h)
  have m2:2≤f.stack.length→VM.WrongOk (VM.top2 f.stack) a.heap.length:=fun h=>ok.sv _ (VM.top2_mem h)
  have ll:∀ k,(VM.low k f.stack).length=f.stack.length - k:=fun k=>VM.low_len k f.stack
  simp only at o1 o2 o3 o4 pops
  have st0:=((st.temp (some (.row 3 [AV.int .i64 iop,.int .i64 ia,.int .i64 ib]))).setat (f.at_+1) (by rw [Heap.put_ne _ _ fn0]; exact c1) c2 c3).setrun { a.permit with fuel:=a.permit.fuel - 1 } VM.ev0
  simp only [zf] at st0
  have hop:iop=1∨iop=2∨iop=3∨iop=4∨iop=5∨iop=6∨iop=7∨iop=8∨iop=9∨iop=10∨iop=11∨iop=12∨iop=13∨iop=14∨iop=15∨iop=16∨iop=17∨iop=18∨iop=19:=by omega
  have go:∀ {H':Heap} {n':Nat} {r:Agt×Evt},r=VM.opDo { a with permit:={ a.permit with fuel:=a.permit.fuel - 1 } } s fs { f with at_:=f.at_+1 } ⟨iop,ia,ib⟩→n≤n'→zahl H0 H' lo n' gr gs s r→Q (.tup []) H' n':=fun e hn h=>hq _ _ hn (e ▸ h)
  clear hq
  rcases hop with rfl | rfl | rfl | rfl | rfl | rfl | rfl | rfl | rfl | rfl | rfl | rfl | rfl | rfl | rfl | rfl | rfl | rfl | rfl
  · -- 1
    simp [zu,hr,zf,c1,c4,c5,hcode,hca,hins,Ins.avs,fn0,rn0,rf,fn0.symm,rn0.symm,rf.symm,hw1,hw2]
    refine ⟨hfn0,hfn1,hat0,hat1,by omega,?_⟩
    generalize hX:Heap.put (Heap.put (Heap.put H n _) gf _) gr _=X at *
    have xn:X n=some (.row 3 [AV.int .i64 1,.int .i64 ia,.int .i64 ib]):=by rw [← hX,Heap.put_ne _ _ rn0.symm,Heap.put_ne _ _ fn0.symm,Heap.put_at]
    exact zey ⟨0,ia,[]⟩ st0 (by omega) (by simp only; omega) fun H' n' sa' hn st5=>go rfl (by omega) (.inl ⟨rfl,gf,fs,ss,_,va,sa',ha,rfl,st5⟩)
  · -- 2
    simp [zu,hr,zf,c1,c4,c5,hcode,hca,hins,Ins.avs,fn0,rn0,rf,fn0.symm,rn0.symm,rf.symm,hw1,hw2]
    refine ⟨hfn0,hfn1,hat0,hat1,by omega,?_⟩
    generalize hX:Heap.put (Heap.put (Heap.put H n _) gf _) gr _=X at *
    have xn:X n=some (.row 3 [AV.int .i64 2,.int .i64 ia,.int .i64 ib]):=by rw [← hX,Heap.put_ne _ _ rn0.symm,Heap.put_ne _ _ fn0.symm,Heap.put_at]
    have hn:0≤ia∧ia < a.prog.words.length:=by unfold VM.numOk VM.isIn at o3; simpa using o3
    have hlt:ia.toNat < a.prog.words.length:=by omega
    have hget:a.prog.words[ia.toNat]? = some (a.prog.words.getD ia.toNat []):=by rw [List.getD_eq_getElem?_getD,List.getElem?_eq_getElem hlt]; rfl
    have hwl:=zso l.prog _ (List.mem_of_getElem? hget)
    rw [hget]
    refine ⟨hn.1,hn.2,?_⟩
    simp
    refine zo.of_qc (zabd (a.prog.words.getD ia.toNat []) (by simp only [maxLen]; omega)) (zfo _) ?_
    simp [zlp]
    refine st0.pushD _ (by omega) (by simp only; omega) fun H' sa' rd D hD st5 => ?_
    simp [zlq,← hD]
    exact go rfl (by omega) (.inl ⟨rfl,gf,fs,ss,_,va,sa',ha,rfl,st5⟩)
  · -- 3
    simp [zu,hr,zf,c1,c4,c5,hcode,hca,hins,Ins.avs,fn0,rn0,rf,fn0.symm,rn0.symm,rf.symm,hw1,hw2]
    refine ⟨hfn0,hfn1,hat0,hat1,by omega,?_⟩
    generalize hX:Heap.put (Heap.put (Heap.put H n _) gf _) gr _=X at *
    have xn:X n=some (.row 3 [AV.int .i64 3,.int .i64 ia,.int .i64 ib]):=by rw [← hX,Heap.put_ne _ _ rn0.symm,Heap.put_ne _ _ fn0.symm,Heap.put_at]
    have hn:0≤ia∧ia < (VM.codeAt a.prog f.fn).vars:=by unfold VM.numOk VM.isIn at o3; simpa using o3
    have okv:=ok.vars
    have hlt:ia.toNat < f.vars.length:=by omega
    have hget:f.vars[ia.toNat]? = some (f.vars.getD ia.toNat VM.vzero):=by rw [List.getD_eq_getElem?_getD,List.getElem?_eq_getElem hlt]; rfl
    obtain ⟨cs1,x1,_,_,_,_,x6,_⟩:=st0.last
    have xgf:X gf=some (.row 4 (cs.take (fs.length*4+1) ++ AV.int .i64 (f.at_+1) :: cs.drop (fs.length*4+1+1))):=by rw [← hX,Heap.put_ne _ _ rf.symm,Heap.put_at]
    rw [xgf] at x1
    cases x1
    rw [x6]
    simp
    rcases st0.sv with ⟨h0,_⟩ | ⟨g,gcs,rfl,g1,g2,g3⟩
    · simp only at h0; omega
    · have hv:=zvw hget
      rw [← g2,List.drop_take,List.take_take,Nat.min_eq_left (by simp only; omega)] at hv
      simp [g1,hv]
      simp only at g3
      refine ⟨hn.1,by omega,by omega,?_⟩
      refine st0.pushD _ (by omega) (by simp only; omega) fun H' sa' rd D hD st5 => ?_
      simp [zlo,← hD]
      exact go rfl (by omega) (.inl ⟨rfl,gf,fs,ss,_,_,sa',ha,rfl,st5⟩)
  · -- 4
    simp [zu,hr,zf,c1,c4,c5,hcode,hca,hins,Ins.avs,fn0,rn0,rf,fn0.symm,rn0.symm,rf.symm,hw1,hw2]
    refine ⟨hfn0,hfn1,hat0,hat1,by omega,?_⟩
    generalize hX:Heap.put (Heap.put (Heap.put H n _) gf _) gr _=X at *
    have xn:X n=some (.row 3 [AV.int .i64 4,.int .i64 ia,.int .i64 ib]):=by rw [← hX,Heap.put_ne _ _ rn0.symm,Heap.put_ne _ _ fn0.symm,Heap.put_at]
    have hp:1≤f.stack.length:=by simp [VM.effect] at pops; omega
    have e1:=zfm hp
    have hn:0≤ia∧ia < (VM.codeAt a.prog f.fn).vars:=by unfold VM.numOk VM.isIn at o3; simpa using o3
    have okv:=ok.vars
    have hlt:ia.toNat < f.vars.length:=by omega
    obtain ⟨cs0,x1,_,_,_,_,x6,_⟩:=st0.last
    have xgf:X gf=some (.row 4 (cs.take (fs.length*4+1) ++ AV.int .i64 (f.at_+1) :: cs.drop (fs.length*4+1+1))):=by rw [← hX,Heap.put_ne _ _ rf.symm,Heap.put_at]
    rw [xgf] at x1
    cases x1
    rw [x6]
    simp
    obtain ⟨g,cs1,gcs,hsa,hpop,hg,hr5⟩:=st0.popAt (st':=VM.low 1 f.stack) (v:=VM.top1 f.stack) (by omega) e1 (by rw [ll]; omega)
    have c1x:=hpop.fr
    rw [xgf] at c1x
    cases c1x
    refine zo.pop hpop ?_
    have st5:=hr5 (X.put gf (some (AObj.row 4 (zjc (cs.take (fs.length*4+1) ++ AV.int .i64 (f.at_+1) :: cs.drop (fs.length*4+1+1)) fs.length g (VM.low 1 f.stack).length)))) (n+1) (Nat.le_refl _) (Heap.put_at _ _ _) (fun x _ hx=>Heap.put_ne _ _ hx)
    obtain ⟨cs5,y1,_,_,_,_,y6,_⟩:=st5.last
    rw [Heap.put_at] at y1
    cases y1
    rcases st5.sv with ⟨h0,_⟩ | ⟨gv,vcs,rfl,g1,g2,g3⟩
    · simp only at h0; omega
    · simp only at g2 g3
      have vf:gv ≠ gf:=fun e=>(st5.apart.v gv (by simp [own])).2.2.2.1 e
      rw [Heap.put_ne _ _ vf] at g1
      obtain ⟨d1,d2⟩:=zapt (v:=VM.top1 f.stack) g2 g3 hlt
      simp [zln,g1,vf,fn0,y6]
      refine ⟨hn.1,by omega,by omega,zah _,?_⟩
      have st6:=st5.setva (vs:=f.vars.set ia.toNat (VM.top1 f.stack)) (g:=gv) (c:=some (.row 3 (vcs.take (ia.toNat*3) ++ ((VM.top1 f.stack).avs ++ vcs.drop (ia.toNat*3+3))))) (by simp [own]) (.inr ⟨gv,_,by simp,Heap.put_at _ _ _,d1,d2⟩)
      exact go (by rw [VM.opDo_4]) (by omega) (.inl ⟨rfl,gf,fs,ss,_,_,_,ha,rfl,st6⟩)
  · -- 5
    simp [zu,hr,zf,c1,c4,c5,hcode,hca,hins,Ins.avs,fn0,rn0,rf,fn0.symm,rn0.symm,rf.symm,hw1,hw2]
    refine ⟨hfn0,hfn1,hat0,hat1,by omega,?_⟩
    generalize hX:Heap.put (Heap.put (Heap.put H n _) gf _) gr _=X at *
    have xn:X n=some (.row 3 [AV.int .i64 5,.int .i64 ia,.int .i64 ib]):=by rw [← hX,Heap.put_ne _ _ rn0.symm,Heap.put_ne _ _ fn0.symm,Heap.put_at]
    have hp:2≤f.stack.length:=by simp [VM.effect] at pops; omega
    have e2:=zui hp
    refine zapv ia st0 (by omega) e2 (by rw [ll]; omega) (m1 (by omega)) (m2 hp) (fun hne H' n' sa' hn st5 => ?_) (fun he H' n' sa' hn st5 => ?_)
    · refine go (by rw [VM.opDo_5,if_neg hne]) (by omega) (.inr ⟨by simp [VM.dead],?_⟩)
      exact st5.fin
    · exact go (by rw [VM.opDo_5,if_pos he]) (by omega) (.inl ⟨rfl,gf,fs,ss,_,va,sa',ha,rfl,st5⟩)
  · -- 6
    simp [zu,hr,zf,c1,c4,c5,hcode,hca,hins,Ins.avs,fn0,rn0,rf,fn0.symm,rn0.symm,rf.symm,hw1,hw2]
    refine ⟨hfn0,hfn1,hat0,hat1,by omega,?_⟩
    generalize hX:Heap.put (Heap.put (Heap.put H n _) gf _) gr _=X at *
    have xn:X n=some (.row 3 [AV.int .i64 6,.int .i64 ia,.int .i64 ib]):=by rw [← hX,Heap.put_ne _ _ rn0.symm,Heap.put_ne _ _ fn0.symm,Heap.put_at]
    have hp:2≤f.stack.length:=by simp [VM.effect] at pops; omega
    have e2:=zui hp
    refine zaph st0 (by omega) e2 (by rw [ll]; omega) (by simp only; omega) (by omega) (fun hz H' n' sa' hn st5 => ?_) (fun hz H' n' sa' ha' hn st5 => ?_)
    · refine go (by rw [VM.opDo_6,if_pos (show a.permit.room=0 from hz)]) (by omega) (.inr ⟨by simp [VM.dead],?_⟩)
      exact st5.fin
    · exact go (by rw [VM.opDo_6,if_neg (show ¬ a.permit.room=0 from hz)]) (by omega) (.inl ⟨rfl,gf,fs,ss,_,va,sa',ha',rfl,st5⟩)
  · -- 7
    simp [zu,hr,zf,c1,c4,c5,hcode,hca,hins,Ins.avs,fn0,rn0,rf,fn0.symm,rn0.symm,rf.symm,hw1,hw2]
    refine ⟨hfn0,hfn1,hat0,hat1,by omega,?_⟩
    generalize hX:Heap.put (Heap.put (Heap.put H n _) gf _) gr _=X at *
    have xn:X n=some (.row 3 [AV.int .i64 7,.int .i64 ia,.int .i64 ib]):=by rw [← hX,Heap.put_ne _ _ rn0.symm,Heap.put_ne _ _ fn0.symm,Heap.put_at]
    have hp:1≤f.stack.length:=by simp [VM.effect] at pops; omega
    have e1:=zfm hp
    refine zabo st0 (by omega) e1 (by rw [ll]; omega) (m1 hp) (fun hk H' n' sa' hn st5 => ?_) (fun hk H' n' sa' g cs' hn _ st5 hha g1 g2 g3 => ?_)
    · simp [zgk]
      refine go (by rw [VM.opDo_7,if_pos hk]) (by omega) (.inr ⟨by simp [VM.dead],?_⟩)
      exact st5.fin
    · obtain ⟨w1,w2⟩:=(m1 hp).cell hk
      have hlt:(VM.top1 f.stack).n.toNat < a.heap.length:=by omega
      have hcl:=zagu (List.getElem?_eq_getElem hlt)
      rw [← g2,List.drop_take,List.take_take,Nat.min_eq_left (by omega)] at hcl
      have tl:∀ c:Cl,c.avs.take 3=c.left.avs:=fun _=>rfl
      have tr:∀ c:Cl,(c.avs.drop 3).take 3=c.right.avs:=fun _=>rfl
      have hcell:(cs'.drop ((VM.top1 f.stack).n.toNat*6)).take 3=(a.heap.getD (VM.top1 f.stack).n.toNat VM.cl0).left.avs:=by
        rw [List.getD_eq_getElem?_getD,List.getElem?_eq_getElem hlt]
        have:=congrArg (fun l=>(l.drop 0).take 3) hcl
        simp only [List.drop_take,List.drop_drop,List.take_take] at this
        simpa [tl,tr] using this
      simp [zgk,g1,hcell]
      refine ⟨by omega,?_⟩
      exact zey _ st5 (by omega) (by simp only; rw [ll]; omega) fun H'' n'' sa'' hn' st6=>go (by rw [VM.opDo_7,if_neg (by simpa using hk)]) (by omega) (.inl ⟨rfl,gf,fs,ss,_,va,sa'',ha,rfl,st6⟩)
  · -- 8
    simp [zu,hr,zf,c1,c4,c5,hcode,hca,hins,Ins.avs,fn0,rn0,rf,fn0.symm,rn0.symm,rf.symm,hw1,hw2]
    refine ⟨hfn0,hfn1,hat0,hat1,by omega,?_⟩
    generalize hX:Heap.put (Heap.put (Heap.put H n _) gf _) gr _=X at *
    have xn:X n=some (.row 3 [AV.int .i64 8,.int .i64 ia,.int .i64 ib]):=by rw [← hX,Heap.put_ne _ _ rn0.symm,Heap.put_ne _ _ fn0.symm,Heap.put_at]
    have hp:1≤f.stack.length:=by simp [VM.effect] at pops; omega
    have e1:=zfm hp
    refine zabo st0 (by omega) e1 (by rw [ll]; omega) (m1 hp) (fun hk H' n' sa' hn st5 => ?_) (fun hk H' n' sa' g cs' hn _ st5 hha g1 g2 g3 => ?_)
    · simp [zfk]
      refine go (by rw [VM.opDo_8,if_pos hk]) (by omega) (.inr ⟨by simp [VM.dead],?_⟩)
      exact st5.fin
    · obtain ⟨w1,w2⟩:=(m1 hp).cell hk
      have hlt:(VM.top1 f.stack).n.toNat < a.heap.length:=by omega
      have hcl:=zagu (List.getElem?_eq_getElem hlt)
      rw [← g2,List.drop_take,List.take_take,Nat.min_eq_left (by omega)] at hcl
      have tl:∀ c:Cl,c.avs.take 3=c.left.avs:=fun _=>rfl
      have tr:∀ c:Cl,(c.avs.drop 3).take 3=c.right.avs:=fun _=>rfl
      have hcell:(cs'.drop ((VM.top1 f.stack).n.toNat*6+3)).take 3=(a.heap.getD (VM.top1 f.stack).n.toNat VM.cl0).right.avs:=by
        rw [List.getD_eq_getElem?_getD,List.getElem?_eq_getElem hlt]
        have:=congrArg (fun l=>(l.drop 3).take 3) hcl
        simp only [List.drop_take,List.drop_drop,List.take_take] at this
        simpa [tl,tr] using this
      simp [zfk,g1,hcell]
      refine ⟨by omega,?_⟩
      exact zey _ st5 (by omega) (by simp only; rw [ll]; omega) fun H'' n'' sa'' hn' st6=>go (by rw [VM.opDo_8,if_neg (by simpa using hk)]) (by omega) (.inl ⟨rfl,gf,fs,ss,_,va,sa'',ha,rfl,st6⟩)
  · -- 9
    simp [zu,hr,zf,c1,c4,c5,hcode,hca,hins,Ins.avs,fn0,rn0,rf,fn0.symm,rn0.symm,rf.symm,hw1,hw2]
    refine ⟨hfn0,hfn1,hat0,hat1,by omega,?_⟩
    generalize hX:Heap.put (Heap.put (Heap.put H n _) gf _) gr _=X at *
    have xn:X n=some (.row 3 [AV.int .i64 9,.int .i64 ia,.int .i64 ib]):=by rw [← hX,Heap.put_ne _ _ rn0.symm,Heap.put_ne _ _ fn0.symm,Heap.put_at]
    have hp:2≤f.stack.length:=by simp [VM.effect] at pops; omega
    have e2:=zui hp
    refine zajn st0 (by omega) e2 (by rw [ll]; omega) (m2 hp) true (fun hk H' n' sa' hn st5 => ?_) (fun hk H' n' sa' hn st5 => ?_)
    · refine go (by rw [VM.opDo_9,if_pos hk]) (by omega) (.inr ⟨by simp [VM.dead],?_⟩)
      exact st5.fin
    · exact go (by rw [VM.opDo_9,if_neg (by simpa using hk)]) (by omega) (.inl ⟨rfl,gf,fs,ss,_,va,sa',ha,rfl,st5⟩)
  · -- 10
    simp [zu,hr,zf,c1,c4,c5,hcode,hca,hins,Ins.avs,fn0,rn0,rf,fn0.symm,rn0.symm,rf.symm,hw1,hw2]
    refine ⟨hfn0,hfn1,hat0,hat1,by omega,?_⟩
    generalize hX:Heap.put (Heap.put (Heap.put H n _) gf _) gr _=X at *
    have xn:X n=some (.row 3 [AV.int .i64 10,.int .i64 ia,.int .i64 ib]):=by rw [← hX,Heap.put_ne _ _ rn0.symm,Heap.put_ne _ _ fn0.symm,Heap.put_at]
    have hp:2≤f.stack.length:=by simp [VM.effect] at pops; omega
    have e2:=zui hp
    refine zajn st0 (by omega) e2 (by rw [ll]; omega) (m2 hp) false (fun hk H' n' sa' hn st5 => ?_) (fun hk H' n' sa' hn st5 => ?_)
    · refine go (by rw [VM.opDo_10,if_pos hk]) (by omega) (.inr ⟨by simp [VM.dead],?_⟩)
      exact st5.fin
    · exact go (by rw [VM.opDo_10,if_neg (by simpa using hk)]) (by omega) (.inl ⟨rfl,gf,fs,ss,_,va,sa',ha,rfl,st5⟩)
  · -- 11
    simp [zu,hr,zf,c1,c4,c5,hcode,hca,hins,Ins.avs,fn0,rn0,rf,fn0.symm,rn0.symm,rf.symm,hw1,hw2]
    refine ⟨hfn0,hfn1,hat0,hat1,by omega,?_⟩
    generalize hX:Heap.put (Heap.put (Heap.put H n _) gf _) gr _=X at *
    have xn:X n=some (.row 3 [AV.int .i64 11,.int .i64 ia,.int .i64 ib]):=by rw [← hX,Heap.put_ne _ _ rn0.symm,Heap.put_ne _ _ fn0.symm,Heap.put_at]
    have hp:1≤f.stack.length:=by simp [VM.effect] at pops; omega
    have e1:=zfm hp
    refine zaqt st0 (by omega) e1 (by rw [ll]; omega) hfacts (fun hk H' n' sa' hn st5 => ?_) (fun hk H' n' sa' hn st5 => ?_)
    · refine go (by rw [VM.opDo_11,if_pos hk]) (by omega) (.inr ⟨by simp [VM.dead],?_⟩)
      exact st5.fin
    · exact go (by rw [VM.opDo_11,if_neg (by simpa using hk)]) (by omega) (.inl ⟨rfl,gf,fs,ss,_,va,sa',ha,rfl,st5⟩)
  · -- 12
    simp [zu,hr,zf,c1,c4,c5,hcode,hca,hins,Ins.avs,fn0,rn0,rf,fn0.symm,rn0.symm,rf.symm,hw1,hw2]
    refine ⟨hfn0,hfn1,hat0,hat1,by omega,?_⟩
    generalize hX:Heap.put (Heap.put (Heap.put H n _) gf _) gr _=X at *
    have xn:X n=some (.row 3 [AV.int .i64 12,.int .i64 ia,.int .i64 ib]):=by rw [← hX,Heap.put_ne _ _ rn0.symm,Heap.put_ne _ _ fn0.symm,Heap.put_at]
    have sn0:gs ≠ n:=by have:=ap.s; omega
    have hsp:=st.spot
    rw [if_neg ap.rs.symm,if_neg ap.sf,if_neg sn0,hsp]
    simp [Spt.avs]
    refine QC.call (zabd s.name hname) ?_
    simp [zkn]
    exact zey _ st0 (by omega) (by simp only; omega) fun H' n' sa' hn st5=>go rfl (by omega) (.inl ⟨rfl,gf,fs,ss,_,va,sa',ha,rfl,st5⟩)
  · -- 13
    simp [zu,hr,zf,c1,c4,c5,hcode,hca,hins,Ins.avs,fn0,rn0,rf,fn0.symm,rn0.symm,rf.symm,hw1,hw2]
    refine ⟨hfn0,hfn1,hat0,hat1,by omega,?_⟩
    generalize hX:Heap.put (Heap.put (Heap.put H n _) gf _) gr _=X at *
    have xn:X n=some (.row 3 [AV.int .i64 13,.int .i64 ia,.int .i64 ib]):=by rw [← hX,Heap.put_ne _ _ rn0.symm,Heap.put_ne _ _ fn0.symm,Heap.put_at]
    have hp:1≤f.stack.length:=by simp [VM.effect] at pops; omega
    have e1:=zfm hp
    refine zapi st0 (by omega) e1 (by rw [ll]; omega) b3 (fun hk H' n' sa' hn st5 => ?_) (fun hk hh H' n' sa' hn st5 => ?_) (fun hk hh H' n' sa' hn st5 => ?_)
    · refine go (by rw [VM.opDo_13,if_pos hk]) (by omega) (.inr ⟨by simp [VM.dead],?_⟩)
      exact st5.fin
    · exact go (by rw [VM.opDo_13,if_neg (by simpa using hk),if_pos (show a.permit.hops=0 from hh)]) (by omega) (.inl ⟨rfl,gf,fs,ss,_,va,sa',ha,rfl,st5⟩)
    · refine go (by rw [VM.opDo_13,if_neg (by simpa using hk),if_neg (show ¬ a.permit.hops=0 from hh)]) (by omega) (.inr ⟨by simp,?_⟩)
      exact st5.fin
  · -- 14
    simp [zu,hr,zf,c1,c4,c5,hcode,hca,hins,Ins.avs,fn0,rn0,rf,fn0.symm,rn0.symm,rf.symm,hw1,hw2]
    refine ⟨hfn0,hfn1,hat0,hat1,by omega,?_⟩
    generalize hX:Heap.put (Heap.put (Heap.put H n _) gf _) gr _=X at *
    have xn:X n=some (.row 3 [AV.int .i64 14,.int .i64 ia,.int .i64 ib]):=by rw [← hX,Heap.put_ne _ _ rn0.symm,Heap.put_ne _ _ fn0.symm,Heap.put_at]
    have hp:1≤f.stack.length:=by simp [VM.effect] at pops; omega
    have e1:=zfm hp
    obtain ⟨g,cs1,gcs,hsa,hpop,hg,hr5⟩:=st0.popAt (st':=VM.low 1 f.stack) (v:=VM.top1 f.stack) (by omega) e1 (by rw [ll]; omega)
    refine zo.pop hpop ?_
    have st5:=hr5 (X.put gf (some (AObj.row 4 (zjc cs1 fs.length g (VM.low 1 f.stack).length)))) (n+1) (Nat.le_refl _) (Heap.put_at _ _ _) (fun x _ hx=>Heap.put_ne _ _ hx)
    have xgr:X gr=some (.row 13 (zf a.id a.trip a.prog (.slc gf 0 (fs.length+1)) ha { a.permit with fuel:=a.permit.fuel - 1 } gs VM.ev0)):=st0.run
    simp [zkl]
    refine zo.show st5.hp oc (m1 hp) ?_
    have ap0:=st0.apart
    simp [zkm,rf,rf.symm,xgr,zf]
    refine go (by rw [VM.opDo_14]) (by omega) (.inr ⟨by simp,?_⟩)
    exact (st5.setrun { a.permit with fuel:=a.permit.fuel - 1 } ⟨2,VM.vshow a.heap 4 (VM.top1 f.stack),0⟩).fin
  · -- 15
    simp [zu,hr,zf,c1,c4,c5,hcode,hca,hins,Ins.avs,fn0,rn0,rf,fn0.symm,rn0.symm,rf.symm,hw1,hw2]
    refine ⟨hfn0,hfn1,hat0,hat1,by omega,?_⟩
    generalize hX:Heap.put (Heap.put (Heap.put H n _) gf _) gr _=X at *
    have xn:X n=some (.row 3 [AV.int .i64 15,.int .i64 ia,.int .i64 ib]):=by rw [← hX,Heap.put_ne _ _ rn0.symm,Heap.put_ne _ _ fn0.symm,Heap.put_at]
    obtain ⟨cs1,x1,x2,x3,_⟩:=st0.last
    have xgf:X gf=some (.row 4 (cs.take (fs.length*4+1) ++ AV.int .i64 (f.at_+1) :: cs.drop (fs.length*4+1+1))):=by rw [← hX,Heap.put_ne _ _ rf.symm,Heap.put_at]
    rw [xgf] at x1
    cases x1
    have st5:=st0.setat ia xgf x2 x3
    refine ⟨by omega,?_⟩
    exact go rfl (by omega) (.inl ⟨rfl,gf,fs,ss,_,va,sa,ha,rfl,st5⟩)
  · -- 16
    simp [zu,hr,zf,c1,c4,c5,hcode,hca,hins,Ins.avs,fn0,rn0,rf,fn0.symm,rn0.symm,rf.symm,hw1,hw2]
    refine ⟨hfn0,hfn1,hat0,hat1,by omega,?_⟩
    generalize hX:Heap.put (Heap.put (Heap.put H n _) gf _) gr _=X at *
    have xn:X n=some (.row 3 [AV.int .i64 16,.int .i64 ia,.int .i64 ib]):=by rw [← hX,Heap.put_ne _ _ rn0.symm,Heap.put_ne _ _ fn0.symm,Heap.put_at]
    have hp:1≤f.stack.length:=by simp [VM.effect] at pops; omega
    have e1:=zfm hp
    obtain ⟨g,cs1,gcs,hsa,hpop,hg,hr5⟩:=st0.popAt (st':=VM.low 1 f.stack) (v:=VM.top1 f.stack) (by omega) e1 (by rw [ll]; omega)
    have ap0:=st0.apart
    refine zkq hpop ap0.r ap0.f hg fun H1 n1 hn1 q1 q2 => ?_
    have st5:=hr5 H1 n1 hn1 q1 q2
    have st6:=st5.temp (some (.row 3 (VM.top1 f.stack).avs))
    have h1n:H1 n=some (.row 3 [AV.int .i64 16,.int .i64 ia,.int .i64 ib]):=by rw [q2 n (by omega) fn0.symm]; exact xn
    have nn1:n ≠ n1:=by omega
    by_cases hz:(VM.top1 f.stack).kind=0
    · by_cases hz2:(VM.top1 f.stack).n=0
      · obtain ⟨cs2,x1,x2,x3,_⟩:=st6.last
        have fnn:gf ≠ n1:=by have:=st5.apart.f; omega
        have st7:=st6.setat ia x1 x2 x3
        rw [Heap.put_ne _ _ fnn] at x1
        simp [zdm,hz,hz2,h1n,nn1,x1,fnn]
        refine ⟨zah _,by omega,?_⟩
        have e16:VM.opDo { a with permit:={ a.permit with fuel:=a.permit.fuel - 1 } } s fs { f with at_:=f.at_+1 } ⟨16,ia,ib⟩=(VM.toF { a with permit:={ a.permit with fuel:=a.permit.fuel - 1 } } fs { f with at_:=ia,stack:=VM.low 1 f.stack },VM.ev0):=by
          rw [VM.opDo_16]; simp only; rw [if_pos ⟨hz,hz2⟩]
        exact go e16.symm (by omega) (.inl ⟨rfl,gf,fs,ss,_,va,_,ha,rfl,st7⟩)
      · simp [zdm,hz,hz2]
        refine ⟨zah _,?_⟩
        have e16:VM.opDo { a with permit:={ a.permit with fuel:=a.permit.fuel - 1 } } s fs { f with at_:=f.at_+1 } ⟨16,ia,ib⟩=(VM.toF { a with permit:={ a.permit with fuel:=a.permit.fuel - 1 } } fs { f with at_:=f.at_+1,stack:=VM.low 1 f.stack },VM.ev0):=by
          rw [VM.opDo_16]; simp only; rw [if_neg (fun hx=>hz2 hx.2)]
        exact go e16.symm (by omega) (.inl ⟨rfl,gf,fs,ss,_,va,_,ha,rfl,st6⟩)
    · simp [zdm,hz]
      refine ⟨zah _,?_⟩
      have e16:VM.opDo { a with permit:={ a.permit with fuel:=a.permit.fuel - 1 } } s fs { f with at_:=f.at_+1 } ⟨16,ia,ib⟩=(VM.toF { a with permit:={ a.permit with fuel:=a.permit.fuel - 1 } } fs { f with at_:=f.at_+1,stack:=VM.low 1 f.stack },VM.ev0):=by
        rw [VM.opDo_16]; simp only; rw [if_neg (fun hx=>hz hx.1)]
      exact go e16.symm (by omega) (.inl ⟨rfl,gf,fs,ss,_,va,_,ha,rfl,st6⟩)
  · -- 17
    simp [zu,hr,zf,c1,c4,c5,hcode,hca,hins,Ins.avs,fn0,rn0,rf,fn0.symm,rn0.symm,rf.symm,hw1,hw2]
    refine ⟨hfn0,hfn1,hat0,hat1,by omega,?_⟩
    generalize hX:Heap.put (Heap.put (Heap.put H n _) gf _) gr _=X at *
    have xn:X n=some (.row 3 [AV.int .i64 17,.int .i64 ia,.int .i64 ib]):=by rw [← hX,Heap.put_ne _ _ rn0.symm,Heap.put_ne _ _ fn0.symm,Heap.put_at]
    have hn:(0≤ia∧ia < a.prog.codes.length)∧some ib=(a.prog.codes[ia.toNat]?).map (·.params):=by unfold VM.numOk VM.isIn at o3; simpa using o3
    obtain ⟨⟨n0,n1⟩,n2⟩:=hn
    have hlt:ia.toNat < a.prog.codes.length:=by omega
    rw [zmj hlt] at n2
    simp at n2
    obtain ⟨cr,_,_⟩:=(zad l.prog).1 _ (VM.code_mem hlt)
    unfold VM.codeRange at cr
    rw [decide_eq_false_iff_not,← n2] at cr
    simp [VM.effect] at pops
    refine zapp ⟨17,ia,ib⟩ st0 (by omega) ⟨by simp only; omega,pops⟩ (by simp only; omega) ⟨n0,hlt⟩ ⟨by simp only; omega,by simp only; omega⟩ (fun h12 H' n' hn st5 => ?_) (fun h12 H' n' gf' sa2 va' sa' hn st5 => ?_)
    · refine go (by rw [VM.opDo_17,if_pos h12]) (by omega) (.inr ⟨by simp [VM.dead],?_⟩)
      exact st5.fin
    · exact go (by rw [VM.opDo_17,if_neg h12]) (by omega) (.inl ⟨rfl,gf',_,_,_,va',sa',ha,rfl,st5⟩)
  · -- 18
    simp [zu,hr,zf,c1,c4,c5,hcode,hca,hins,Ins.avs,fn0,rn0,rf,fn0.symm,rn0.symm,rf.symm,hw1,hw2]
    refine ⟨hfn0,hfn1,hat0,hat1,by omega,?_⟩
    generalize hX:Heap.put (Heap.put (Heap.put H n _) gf _) gr _=X at *
    have xn:X n=some (.row 3 [AV.int .i64 18,.int .i64 ia,.int .i64 ib]):=by rw [← hX,Heap.put_ne _ _ rn0.symm,Heap.put_ne _ _ fn0.symm,Heap.put_at]
    have hp:1≤f.stack.length:=by simp [VM.effect] at pops; omega
    have e1:=zfm hp
    refine zapr st0 (by omega) e1 (by rw [ll]; omega) oc (m1 hp) (fun g hg => ?_) (fun hz H' n' hn hfin => ?_) (fun gs' g' hfs H' n' ts va' sa' hn st5 => ?_)
    · exact Nat.le_trans (ztu l g hg) (by omega)
    · subst hz
      exact go (by rw [VM.opDo_18]) (by omega) (.inr ⟨by simp,hfin⟩)
    · subst hfs
      exact go (by rw [VM.opDo_18,List.getLast?_concat]) (by omega) (.inl ⟨rfl,gf,gs',ts,{ g' with stack:=g'.stack ++ [VM.top1 f.stack] },va',sa',ha,by simp [VM.push,VM.toF],st5⟩)
  · -- 19
    simp [zu,hr,zf,c1,c4,c5,hcode,hca,hins,Ins.avs,fn0,rn0,rf,fn0.symm,rn0.symm,rf.symm,hw1,hw2]
    refine ⟨hfn0,hfn1,hat0,hat1,by omega,?_⟩
    generalize hX:Heap.put (Heap.put (Heap.put H n _) gf _) gr _=X at *
    have xn:X n=some (.row 3 [AV.int .i64 19,.int .i64 ia,.int .i64 ib]):=by rw [← hX,Heap.put_ne _ _ rn0.symm,Heap.put_ne _ _ fn0.symm,Heap.put_at]
    have hp:1≤f.stack.length:=by simp [VM.effect] at pops; omega
    have e1:=zfm hp
    exact zng st0 (by omega) e1 (by rw [ll]; omega) fun H' n' sa' hn st5=>go rfl (by omega) (.inl ⟨rfl,gf,fs,ss,_,va,sa',ha,rfl,st5⟩)
end
end Go.Proofs.YtdmibdjokofclaaDoor
set_option maxRecDepth 8000
namespace Go.Proofs.YtdmibdjokofclaaDoor
open Go Go.RowKit
theorem zaad (l:List Ins):∀ x∈l.map Ins.avs,x.length=3:=by intro x hx; obtain ⟨v,_,rfl⟩:=List.mem_map.1 hx; rfl
theorem zzs (l:List Str):∀ x∈l.map (fun w=>[AV.str w]),x.length=1:=by intro x hx; obtain ⟨v,_,rfl⟩:=List.mem_map.1 hx; rfl
theorem zaci (l:List Ins):∀ x∈l.map Ins.avs,∀ c∈x,scal c=true:=by
  intro x hx c hc
  obtain ⟨v,_,rfl⟩:=List.mem_map.1 hx
  simp [Ins.avs] at hc
  rcases hc with rfl | rfl | rfl <;> rfl
theorem zuj (l:List Str):∀ x∈l.map (fun w=>[AV.str w]),∀ c∈x,scal c=true:=by
  intro x hx c hc
  obtain ⟨v,_,rfl⟩:=List.mem_map.1 hx
  simp at hc
  subst hc; rfl
theorem zael {xs:List (List AV)} (h:∀ x∈xs,∀ c∈x,scal c=true):xs.flatten.all AV.one=true:=List.all_eq_true.2 fun c hc=>by
  obtain ⟨x,hx,hcx⟩:=List.mem_flatten.1 hc
  exact zae (h x hx c hcx)
def zcg (H:Heap) (R:Nat→Prop) (sz:Nat) (xs:List (List AV)) (a:AV):Prop:=(xs=[]∧a=.nils)∨∃ g,R g∧a=.slc g 0 xs.length∧H g=some (.row sz xs.flatten)
theorem zcg.more {H H':Heap} {R R':Nat→Prop} {sz:Nat} {xs:List (List AV)} {a:AV} (h:zcg H R sz xs a) (hR:∀ g,R g→R' g∧H' g=H g):zcg H' R' sz xs a:=by
  rcases h with h | ⟨g,h1,h3,h4⟩
  · exact .inl h
  · exact .inr ⟨g,(hR g h1).1,h3,by rw [(hR g h1).2]; exact h4⟩
theorem zcg.one {H:Heap} {R:Nat→Prop} {sz:Nat} {xs:List (List AV)} {a:AV} (h:zcg H R sz xs a):a.cells=[a]∧a.one=true∧a.sure=true:=by
  rcases h with ⟨_,rfl⟩ | ⟨g,_,rfl,_⟩ <;> exact ⟨rfl,rfl,rfl⟩
theorem Slot.one {H:Heap} {sz k:Nat} {cells:List AV} {a:AV} (h:Slot H sz k cells a):a.cells=[a]∧a.one=true∧a.sure=true:=by
  rcases h with ⟨_,rfl | rfl⟩ | ⟨g,cs,rfl,_⟩ <;> exact ⟨rfl,rfl,rfl⟩
theorem zcg.frz {H:Heap} {R:Nat→Prop} {sz:Nat} {xs:List (List AV)} {a:AV} {G:Nat→Prop} (h:zcg H R sz xs a) (hG:∀ g,R g→G g) (hs:∀ x∈xs,x.length=sz):FrzP H G a (.ro xs):=by
  rcases h with ⟨rfl,rfl⟩ | ⟨g,h1,rfl,h4⟩
  · exact .nils
  · refine FrzP.row (hG g h1) h4 rfl hs (fun i x j v hx hv => ?_) (by rw [zbf hs]; exact Nat.le_refl _)
    have hj:j < sz:=by
      have:=(List.getElem?_eq_some_iff.1 hv).1
      rw [hs x (List.mem_of_getElem? hx)] at this; exact this
    have e1:=zgb hs hx
    have:=congrArg (·[j]?) e1
    simp only [List.getElem?_take,List.getElem?_drop,hj,if_true] at this
    exact ⟨v,by rw [this]; exact hv,.same v⟩
theorem zcg.slot {H:Heap} {R:Nat→Prop} {sz:Nat} {xs:List (List AV)} {a:AV} (h:zcg H R sz xs a) (hs:∀ x∈xs,x.length=sz):Slot H sz xs.length xs.flatten a∧∀ g∈own a,R g:=by
  rcases h with ⟨rfl,rfl⟩ | ⟨g,h1,rfl,h4⟩
  · exact ⟨.inl ⟨rfl,.inl rfl⟩,fun g hg=>by simp [own] at hg⟩
  · exact ⟨.inr ⟨g,_,rfl,h4,List.take_of_length_le (by rw [zbf hs]; exact Nat.le_refl _),by rw [zbf hs]; exact Nat.le_refl _⟩,fun x hx=>by simp [own] at hx; subst hx; exact h1⟩
theorem zakp {l:List Ins} (hl:l.length*24≤140737488355328) {a:AV} {H:Heap} {nx:Nat} (ha:zau H nx 3 (l.map Ins.avs) a):za Tryd.prog 49 [a] H nx fun v H' nx'=>nx≤nx'∧Keep nx H' H∧zcg H' (fun g=>nx≤g∧g < nx') 3 (l.map Ins.avs) v:=by
  refine znd _ H nx _ ?_
  unfold zhx
  refine zmb (Q:=fun v H' nx'=>nx≤nx'∧Keep nx H' H∧zcg H' (fun g=>nx≤g∧g < nx') 3 (l.map Ins.avs) v) ha (zaad l) (zael (zaci l)) (by simpa using hl) (fun h=>⟨Nat.le_refl _,by simp,.inl ⟨h,rfl⟩⟩) fun H' h1 h2=>⟨by omega,h2,.inr ⟨nx+1,⟨by omega,by omega⟩,rfl,h1⟩⟩
theorem zako {l:List Str} (hl:l.length*16≤140737488355328) {a:AV} {H:Heap} {nx:Nat} (ha:zau H nx 1 (l.map fun w=>[AV.str w]) a):za Tryd.prog 50 [a] H nx fun v H' nx'=>nx≤nx'∧Keep nx H' H∧zcg H' (fun g=>nx≤g∧g < nx') 1 (l.map fun w=>[AV.str w]) v:=by
  refine zic _ H nx _ ?_
  unfold zeb
  refine zmb (Q:=fun v H' nx'=>nx≤nx'∧Keep nx H' H∧zcg H' (fun g=>nx≤g∧g < nx') 1 (l.map fun w=>[AV.str w]) v) ha (zzs l) (zael (zuj l)) (by simpa using hl) (fun h=>⟨Nat.le_refl _,by simp,.inl ⟨h,rfl⟩⟩) fun H' h1 h2=>⟨by omega,h2,.inr ⟨nx+1,⟨by omega,by omega⟩,rfl,h1⟩⟩
theorem zakq {l:List Cl} (hl:l.length*64≤140737488355328) {a:AV} {H:Heap} {nx:Nat} (ha:zau H nx 6 (l.map Cl.avs) a):za Tryd.prog 52 [a] H nx fun v H' nx'=>nx≤nx'∧Keep nx H' H∧zcg H' (fun g=>nx≤g∧g < nx') 6 (l.map Cl.avs) v:=by
  refine znw _ H nx _ ?_
  unfold zjb
  refine zmb (Q:=fun v H' nx'=>nx≤nx'∧Keep nx H' H∧zcg H' (fun g=>nx≤g∧g < nx') 6 (l.map Cl.avs) v) ha (zbj l) (zamc l) (by simpa using hl) (fun h=>⟨Nat.le_refl _,by simp,.inl ⟨h,rfl⟩⟩) fun H' h1 h2=>⟨by omega,h2,.inr ⟨nx+1,⟨by omega,by omega⟩,rfl,h1⟩⟩
def zfb (H:Heap) (R:Nat→Prop) (cs:List Cod) (cells:List AV):Prop:=cells.length=cs.length*3∧∀ (k:Nat) (c:Cod),cs[k]? = some c→cells[k*3]? = some (.int .i64 c.params)∧cells[k*3+1]? = some (.int .i64 c.vars)∧∃ a,cells[k*3+2]? = some a∧zcg H R 3 (c.ins.map Ins.avs) a
theorem zfb.more {H H':Heap} {R R':Nat→Prop} {cs:List Cod} {cells:List AV} (h:zfb H R cs cells) (hR:∀ g,R g→R' g∧H' g=H g):zfb H' R' cs cells :=
  ⟨h.1,fun k c hc=>let ⟨a,b,x,h1,h2⟩:=h.2 k c hc; ⟨a,b,x,h1,h2.more hR⟩⟩
theorem zfb.snoc {H:Heap} {R:Nat→Prop} {cs:List Cod} {cells:List AV} {c:Cod} {a:AV} (h:zfb H R cs cells) (ha:zcg H R 3 (c.ins.map Ins.avs) a):zfb H R (cs ++ [c]) (cells ++ [.int .i64 c.params,.int .i64 c.vars,a]):=by
  refine ⟨by simp [h.1]; omega,fun k c' hc => ?_⟩
  by_cases hk:k < cs.length
  · rw [List.getElem?_append_left hk] at hc
    obtain ⟨q1,q2,x,q3,q4⟩:=h.2 k c' hc
    have hl:=h.1
    refine ⟨by rw [List.getElem?_append_left (by omega)]; exact q1,by rw [List.getElem?_append_left (by omega)]; exact q2,x,by rw [List.getElem?_append_left (by omega)]; exact q3,q4⟩
  · have hk':k=cs.length:=by have:=(List.getElem?_eq_some_iff.1 hc).1; simp at this; omega
    subst hk'
    rw [List.getElem?_append_right (Nat.le_refl _)] at hc
    simp at hc
    subst hc
    have hl:=h.1
    refine ⟨?_,?_,a,?_,ha⟩
    · rw [List.getElem?_append_right (by omega),hl]; simp
    · rw [List.getElem?_append_right (by omega),hl,show cs.length*3+1 - cs.length*3=1 by omega]; rfl
    · rw [List.getElem?_append_right (by omega),hl,show cs.length*3+2 - cs.length*3=2 by omega]; rfl
theorem zfb.frz {H:Heap} {R:Nat→Prop} {cs:List Cod} {cells:List AV} {a:AV} {G:Nat→Prop} (h:zfb H R cs cells) (hG:∀ g,R g→G g) (ha:Slot H 3 cs.length cells a) (hA:∀ g∈own a,G g):FrzP H G a (.ro (cs.map Cod.avs)):=by
  rcases ha with ⟨h0,rfl | rfl⟩ | ⟨g,cs',rfl,h1,h2,h3⟩
  · rw [List.eq_nil_of_length_eq_zero h0]; exact .nils
  · rw [List.eq_nil_of_length_eq_zero h0]; exact .zs
  · refine FrzP.row (hA g (by simp [own])) h1 (by simp) (fun x hx => ?_) (fun i x j v hx hv => ?_) h3
    · obtain ⟨c,_,rfl⟩:=List.mem_map.1 hx; rfl
    · rw [List.getElem?_map] at hx
      obtain ⟨c,hc,rfl⟩:=Option.map_eq_some_iff.1 hx
      obtain ⟨q1,q2,y,q3,q4⟩:=h.2 i c hc
      have hi:=(List.getElem?_eq_some_iff.1 hc).1
      have up:∀ (j:Nat) (u:AV),j < 3→cells[i*3+j]? = some u→cs'[i*3+j]? = some u:=fun j u hj hu=>by
        rw [← h2,List.getElem?_take,if_pos (by omega)] at hu; exact hu
      match j,hv with
      | 0,hv=>cases hv; exact ⟨_,up 0 _ (by omega) q1,.same _⟩
      | 1,hv=>cases hv; exact ⟨_,up 1 _ (by omega) q2,.same _⟩
      | 2,hv=>cases hv; exact ⟨y,up 2 _ (by omega) q3,q4.frz hG (zaad _)⟩
      | j+3,hv=>simp [Cod.avs] at hv
theorem FrzP.keep {H H':Heap} {G:Nat→Prop} {v u:AV} (h:FrzP H G v u) (hk:∀ g,G g→H' g=H g):FrzP H' G v u:=by
  induction h with
  | same v=>exact .same v
  | nils=>exact .nils
  | zs=>exact .zs
  | slc g off len sz cells xs hg hH hle hl hsz U hU _ ih=>exact .slc g off len sz cells xs hg (by rw [hk g hg]; exact hH) hle hl hsz U hU ih
  | agg xs ys hl _ ih=>exact .agg xs ys hl ih
theorem FrzP.wide {H:Heap} {G G':Nat→Prop} {v u:AV} (h:FrzP H G v u) (hG:∀ g,G g→G' g):FrzP H G' v u:=by
  induction h with
  | same v=>exact .same v
  | nils=>exact .nils
  | zs=>exact .zs
  | slc g off len sz cells xs hg hH hle hl hsz U hU _ ih=>exact .slc g off len sz cells xs (hG g hg) hH hle hl hsz U hU ih
  | agg xs ys hl _ ih=>exact .agg xs ys hl ih
theorem za.nil_zs {P:Program} {f:FuncId} {args:List AV} {H:Heap} {nx:Nat} {Q:Heap→Nat→Prop} (h:za P f args H nx fun v H' nx'=>(v=.nils∨v=.zs)∧Q H' nx'):za P f args H nx fun v H' nx'=>v=.zs∧Q H' nx':=by
  intro ρ w cargs s ha
  refine zan (h ρ w cargs s ha) fun cv w' ⟨v,H',nx',ρ',⟨hv,hq⟩,q2,q3,q4⟩=>⟨.zs,H',nx',ρ',⟨rfl,hq⟩,q2,?_,q4⟩
  rcases hv with rfl | rfl
  · cases q3; exact .zs _
  · exact q3
theorem zaqu {esz bytes nx:Nat} {x:AV} {H:Heap} {kk:AV→Heap→Nat→Prop}:APP esz bytes .zs x H nx kk=OPTK (zm esz H x) fun p=>p.2.1.all AV.one=true ∧
    (p.1=0→kk .zs H nx)∧(p.1 ≠ 0→p.1*bytes≤140737488355328∧kk (.slc nx 0 p.1) (H.put nx (some (.row esz p.2.1))) (nx+1)):=by
  simp only [APP,zam,OPTK]
  cases hs:zm esz H x with
  | none=>simp
  | some p=>obtain ⟨m,news,rd⟩:=p; simp [Heap.apply]
theorem zo.cloneV {l:List Val} (hl:l.length*32≤140737488355328) {H:Heap} {nx:Nat} {k:Kt}
    (h0:l=[]→k .zs [] [] []) (h1:l ≠ []→k (.slc nx 0 l.length) [] [nx] [(nx,some (.row 3 (rowV l)))]):zo Tryd.prog (.clo 51 []) [.ro (l.map Val.avs)] H nx k:=by
  by_cases he:l=[]
  · subst he
    refine ⟨_,[],[],[],.inl rfl,LC.of_qcr (r:=.zs) (by simp) (fun H' n _ => ?_) .zs,h0 rfl⟩
    refine za.tidy fun hlive => ?_
    have h0:za Tryd.prog 51 [.ro []] H' n fun v H'' nx'=>(v=.nils∨v=.zs)∧Keep n H'' H':=by
      refine zlz _ H' n _ ?_
      simp [zgs,zaqu]
    refine (za.gc (R:=fun v H''=>v=AV.zs∧H''=H') h0.nil_zs fun v H'' nx' ⟨hv,hk⟩=>⟨.zs,H',⟨rfl,rfl⟩,by rw [hv]; exact .same _ .zs,fun g o ho=>⟨hlive g o ho,by rw [hk g (hlive g o ho)]; exact ho,.inl ho⟩⟩).mono fun v H'' nx' ⟨⟨a,b⟩,c⟩=>⟨a,b,c⟩
  · refine ⟨_,[],[nx],_,.inr (.inl rfl),LC.of_callsN (by simp) (by simp) (fun A hA hB H' n' hag => ?_),h1 he⟩
    refine (zacu l hl .ro).mono fun v H'' n'' ⟨q1,q2,q3⟩ => ?_
    rcases q3 with ⟨h,_⟩ | ⟨g,g1,g2,rfl,g3⟩
    · exact absurd h he
    · refine ⟨g,g1,g2,.slc _ _,fun x hx _=>q2 x hx,fun x o hx hxn => ?_,⟨.row 3 (rowV l),_,by simp only [zaw,zbg]; rw [Heap.put_at],g3,rfl,rfl,fun j v u hv hu => ?_⟩⟩
      · exact absurd (by simpa using hx) hxn
      · rw [hv] at hu; cases hu; exact .same _ (zbo (zbq l _ (List.mem_of_getElem? hv)))
end Go.Proofs.YtdmibdjokofclaaDoor
set_option maxRecDepth 8000
namespace Go.Proofs.YtdmibdjokofclaaDoor
open Go Go.RowKit
structure zme (H:Heap) (lo n:Nat) (fs:List Frm) (ss:List (AV×AV)) (fa:AV) (h:List Cl) (ha:AV):Prop where
  frs:zaq H fs ss
  row:Slot H 4 fs.length (frow fs ss) fa
  hp:Slot H 6 h.length (rowC h) ha
  nd:(own fa ++ (own ha ++ owns ss)).Nodup
  bd:∀ g∈own fa ++ (own ha ++ owns ss),lo≤g∧g < n
structure zgy (H:Heap) (lo n:Nat) (fs:List Frm) (ss:List (AV×AV)) (fa:AV):Prop where
  frs:zaq H fs ss
  row:Slot H 4 fs.length (frow fs ss) fa
  nd:(own fa ++ owns ss).Nodup
  bd:∀ g∈own fa ++ owns ss,lo≤g∧g < n
theorem zgy.snoc {H X:Heap} {lo n N m:Nat} {fs:List Frm} {ss:List (AV×AV)} {fa:AV} {f:Frm} {va sa:AV} (h:zgy H lo n fs ss fa) (hn:n≤N) (hN:N≤m) (hlo:lo≤N) (hlen:(fs.length+1)*64≤140737488355328)
    (old:∀ g,g < n→X g=H g) (hv:Slot X 3 f.vars.length (rowV f.vars) va) (hs:Slot X 3 f.stack.length (rowV f.stack) sa) (nd:(own va ++ own sa).Nodup) (bd:∀ g∈own va ++ own sa,N≤g∧g < m)
    {t:Nat} (ht:X t=some (.row 4 [.int .i64 f.fn,.int .i64 f.at_,va,sa])) {kk:AV→Heap→Nat→Prop}
    (hk:∀ H' a',(∀ g,g < lo→H' g=X g)→zgy H' lo (m+1) (fs ++ [f]) (ss ++ [(va,sa)]) a'→kk a' H' (m+1)):APP 4 64 fa (.slc t 0 1) X m kk:=by
  have hbf:∀ g∈own fa,lo≤g∧g < n:=fun g hg=>h.bd g (List.mem_append_left _ hg)
  have hbs:∀ g∈owns ss,lo≤g∧g < n:=fun g hg=>h.bd g (List.mem_append_right _ hg)
  obtain ⟨nd1,nd2,nd3⟩:=List.nodup_append.1 h.nd
  have hx:=(h.row.keep (H':=X) fun g hg=>old g (hbf g hg).2)
  refine Slot.app (bytes:=64) (nx:=m) (new:=[.int .i64 f.fn,.int .i64 f.at_,va,sa]) hx (zav h.frs.1) ht rfl (by simp [hv.one,hs.one]) hlen fun H' h1 h2 => ?_
  have keep:∀ g,g∈owns ss→H' g=H g:=fun g hg=>by
    have:=hbs g hg
    rw [h2 g (fun hx=>nd3 g hx g hg rfl) (by omega)]; exact old g this.2
  have keep2:∀ g,g∈own va ++ own sa→H' g=X g:=fun g hg=>by
    have:=bd g hg
    exact h2 g (fun hx=>by have:=hbf g hx; omega) (by omega)
  refine hk H' _ (fun g hg=>h2 g (fun hx=>by have:=hbf g hx; omega) (by omega)) ⟨(h.frs.keep keep).snoc (hv.keep fun g hg=>keep2 g (List.mem_append_left _ hg)) (hs.keep fun g hg=>keep2 g (List.mem_append_right _ hg)),?_,?_,?_⟩
  · refine .inr ⟨m,_,by simp,h1,?_,?_⟩
    · rw [zcs h.frs.1]; exact List.take_of_length_le (by simp [zav h.frs.1]; omega)
    · simp [zav h.frs.1]; omega
  · rw [zcq]
    have e0:own (AV.slc m 0 (fs.length+1))=[m]:=rfl
    simp only [List.length_append,List.length_singleton,e0]
    refine List.nodup_append.2 ⟨by simp,List.nodup_append.2 ⟨nd2,nd,fun a ha b hb e => ?_⟩,fun a ha b hb e => ?_⟩
    · have:=hbs a ha; have:=bd b hb; omega
    · simp at ha; subst ha; subst e
      rcases List.mem_append.1 hb with hb | hb
      · have:=hbs _ hb; omega
      · have:=bd _ hb; omega
  · intro g hg
    rw [zcq] at hg
    have e0:own (AV.slc m 0 (fs.length+1))=[m]:=rfl
    rcases List.mem_append.1 hg with hg | hg
    · simp [own] at hg; omega
    · rcases List.mem_append.1 hg with hg | hg
      · have:=hbs g hg; omega
      · have:=bd g hg; omega
set_option maxHeartbeats 2000000 in
theorem zahy {fs:List Frm} {csv wv:AV} {id trip fuel room hops:Int} {h:List Cl} {H1:Heap} {p mid:Nat} {Q:AV→Heap→Nat→Prop} (hl:fs.length*64≤140737488355328) (hh:h.length*64≤140737488355328) (hfl:∀ f∈fs,f.vars.length*32≤140737488355328∧f.stack.length*32≤140737488355328) (hp:p+2≤mid)
    (r1:H1 p=some (.row 9 [.int .i64 id,.int .i64 trip,csv,wv,.ro (fs.map Frm.avs),.ro (h.map Cl.avs),.int .i64 fuel,.int .i64 room,.int .i64 hops])) (r2:∃ z,H1 (p+1)=some (.row 9 z)∧z.length=9)
    (c1:csv.cells=[csv]∧csv.one=true∧csv.sure=true) (w1:wv.cells=[wv]∧wv.one=true∧wv.sure=true)
    (hq:∀ H' n' ss fa ha,mid≤n'→(∀ g,g < mid→g ≠ p→g ≠ p+1→H' g=H1 g)→zme H' mid n' fs ss fa h ha→Q (.agg [.int .i64 id,.int .i64 trip,csv,wv,fa,ha,.int .i64 fuel,.int .i64 room,.int .i64 hops]) H' n') :
    LP (zpa Q) [.ptr p 0,.ptr (p+1) 0,.nils,.ro (fs.map Frm.avs),.int .i64 fs.length,.int .i64 0] H1 mid:=by
  refine LP.mk (fun k xs H' n'=>∃ (i:Nat) (ss:List (AV×AV)) (fa:AV),k=fs.length - i∧i≤fs.length∧mid≤n'∧xs=[.ptr p 0,.ptr (p+1) 0,fa,.ro (fs.map Frm.avs),.int .i64 fs.length,.int .i64 i]∧(∀ g,g < mid→H' g=H1 g) ∧
    zgy H' mid n' (fs.take i) ss fa) fs.length ⟨0,[],.nils,rfl,by omega,Nat.le_refl _,rfl,fun _ _=>rfl,⟨⟨rfl,fun k f s hf=>by simp at hf⟩,.inl ⟨by simp,.inl rfl⟩,by simp [own,owns],by simp [own,owns]⟩⟩ ?_
  rintro k xs H' n' ⟨i,ss,fa,rfl,hi,hn',rfl,hkeep,st⟩
  have p0:p ≠ n':=by omega
  have p1:p+1 ≠ n':=by omega
  by_cases hil:i < fs.length
  · have hmem:fs[i]∈fs:=List.getElem_mem hil
    obtain ⟨hv,hs⟩:=hfl _ hmem
    have htk:fs.take (i+1)=fs.take i ++ [fs[i]]:=(List.take_append_getElem hil).symm
    have tl:(fs.take i).length=i:=by simp; omega
    have lv:(Frm.avs fs[i]).length=4:=rfl
    have fin:∀ {X:Heap} {N:Nat} {va sa:AV} {kk:AV→Heap→Nat→Prop},n'+1≤N→(∀ g,g < n'→X g=H' g)→Slot X 3 fs[i].vars.length (rowV fs[i].vars) va→Slot X 3 fs[i].stack.length (rowV fs[i].stack) sa→(own va ++ own sa).Nodup→(∀ g∈own va ++ own sa,n'+1≤g∧g < N) →
        (∀ a' H3 m',mid≤m'→(∀ g,g < mid→H3 g=H1 g)→zgy H3 mid m' (fs.take (i+1)) (ss ++ [(va,sa)]) a'→kk a' H3 m') →
        APP 4 64 fa (.slc N 0 1) (X.put N (some (.row 4 [.int .i64 fs[i].fn,.int .i64 fs[i].at_,va,sa]))) (N+1) kk:=by
      intro X N va sa kk hN hold h1 h2 h3 h4 hkk
      refine st.snoc (f:=fs[i]) (va:=va) (sa:=sa) (N:=n'+1) (by omega) (by omega) (by omega) (by rw [tl]; omega) (fun g hg => ?_) (h1.keep fun g hg => ?_) (h2.keep fun g hg => ?_) h3 (fun g hg=>by have:=h4 g hg; omega) (Heap.put_at _ _ _) fun H3 a' q1 q2 => ?_
      · rw [Heap.put_ne _ _ (by omega)]; exact hold g hg
      · exact Heap.put_ne _ _ (by have:=h4 g (List.mem_append_left _ hg); omega)
      · exact Heap.put_ne _ _ (by have:=h4 g (List.mem_append_right _ hg); omega)
      · exact hkk _ _ _ (by omega) (fun g hg=>by rw [q1 g hg,Heap.put_ne _ _ (by omega),hold g (by omega)]; exact hkeep g hg) (by rw [htk]; exact q2)
    have nn:n' ≠ n'+1+1:=by omega
    have fin2:∀ {v64:AV} {H65:Heap} {nx66:Nat} {ss':List (AV×AV)},mid≤nx66→(∀ g,g < mid→H65 g=H1 g)→zgy H65 mid nx66 (fs.take (i+1)) ss' v64 →
        ∃ m,m < fs.length - i∧∃ i_1,m=fs.length - i_1∧i_1≤fs.length∧mid≤nx66∧∃ x x_1,(v64=x_1∧IntKind.i64.wrap ((i:Int)+1)=(i_1:Int))∧(∀ (g:Nat),g < mid→H65 g=H1 g)∧zgy H65 mid nx66 (List.take i_1 fs) x x_1 :=
      fun h1 h2 h3=>⟨fs.length - (i+1),by omega,i+1,rfl,by omega,h1,_,_,⟨rfl,i64w (by omega)⟩,h2,h3⟩
    have nil:∀ {l:List Val} {X:Heap},l=[]→Slot X 3 l.length (rowV l) .zs:=fun h=>.inl ⟨by simp [h],.inr rfl⟩
    have row:∀ {l:List Val} {X:Heap} {g:Nat},X g=some (.row 3 (rowV l))→Slot X 3 l.length (rowV l) (.slc g 0 l.length):=fun h=>.inr ⟨_,_,rfl,h,List.take_of_length_le (by simp),by simp⟩
    simp [zpa,hil,Frm.avs]
    refine zo.cloneV hv (fun ve => ?_) (fun vne => ?_)
    · simp [zue]
      refine zo.cloneV hs (fun se => ?_) (fun sne => ?_)
      · simp [zko]
        exact fin (by omega) (fun g hg=>Heap.put_ne _ _ (by omega)) (nil ve) (nil se) (by simp [own]) (by simp [own]) fun a' H3 m' h1 h2 h3=>fin2 h1 h2 h3
      · simp [zko]
        exact fin (by omega) (fun g hg=>by rw [Heap.put_ne _ _ (by omega),Heap.put_ne _ _ (by omega),Heap.put_ne _ _ (by omega)]) (nil ve) (row (by rw [Heap.put_ne _ _ (by omega),Heap.put_at])) (by simp [own]) (by simp [own]) fun a' H3 m' h1 h2 h3=>fin2 h1 h2 h3
    · simp [zue]
      refine zo.cloneV hs (fun se => ?_) (fun sne => ?_)
      · simp [zko]
        exact fin (by omega) (fun g hg=>by rw [Heap.put_ne _ _ (by omega),Heap.put_ne _ _ (by omega),Heap.put_ne _ _ (by omega)]) (row (by rw [Heap.put_ne _ _ (by omega),Heap.put_at])) (nil se) (by simp [own]) (by simp [own]) fun a' H3 m' h1 h2 h3=>fin2 h1 h2 h3
      · simp [zko,nn]
        exact fin (by omega) (fun g hg=>by rw [Heap.put_ne _ _ (by omega),Heap.put_ne _ _ (by omega),Heap.put_ne _ _ (by omega),Heap.put_ne _ _ (by omega)]) (row (by rw [Heap.put_ne _ _ (by omega),Heap.put_ne _ _ (by omega),Heap.put_at])) (row (by rw [Heap.put_ne _ _ (by omega),Heap.put_at])) (by simp [own]) (by simp [own]) fun a' H3 m' h1 h2 h3=>fin2 h1 h2 h3
  · obtain rfl:i=fs.length:=by omega
    obtain ⟨z,r2,z9⟩:=r2
    rw [← hkeep p (by omega)] at r1
    rw [← hkeep (p+1) (by omega)] at r2
    simp [zpa,r1]
    refine (zakq hh .ro).mono fun hv H5 n5 ⟨hn5,k5,hc⟩ => ?_
    have e1:H5 p=_:=(k5 p (by omega)).trans r1
    have e2:H5 (p+1)=_:=(k5 (p+1) (by omega)).trans r2
    obtain ⟨s1,s2⟩:=hc.slot (zbj h)
    simp [zacc,e1,e2,z9,st.row.one.1,st.row.one.2,hc.one.1,hc.one.2,c1.1,c1.2,w1.1,w1.2]
    rw [List.take_length] at st
    obtain ⟨f1,f2,f3,f4⟩:=st
    have same:∀ {X:Heap},(∀ g,g ≠ p→g ≠ p+1→X g=H5 g)→∀ g,mid≤g→g < n'→X g=H' g:=fun hX g h1 h2=>by rw [hX g (by omega) (by omega)]; exact k5 g h2
    have s1':Slot H5 6 h.length (rowC h) hv:=by simpa [rowC] using s1
    refine hq _ _ ss fa hv (by omega) (fun g h1 h2 h3 => ?_) ⟨f1.keep fun g hg => ?_,f2.keep fun g hg => ?_,s1'.keep fun g hg => ?_,?_,fun g hg => ?_⟩
    · rw [Heap.put_ne _ _ h3,Heap.put_ne _ _ h2,k5 g (by omega)]; exact hkeep g h1
    · have:=f4 g (List.mem_append_right _ hg)
      exact same (fun g h1 h2=>by rw [Heap.put_ne _ _ h2,Heap.put_ne _ _ h1]) g this.1 this.2
    · have:=f4 g (List.mem_append_left _ hg)
      exact same (fun g h1 h2=>by rw [Heap.put_ne _ _ h2,Heap.put_ne _ _ h1]) g this.1 this.2
    · have:=s2 g hg
      rw [Heap.put_ne _ _ (by omega),Heap.put_ne _ _ (by omega)]
    · obtain ⟨d1,d2,d3⟩:=List.nodup_append.1 f3
      refine List.nodup_append.2 ⟨d1,List.nodup_append.2 ⟨zpb _,d2,fun a ha b hb e => ?_⟩,fun a ha b hb e => ?_⟩
      · have:=s2 a ha; have:=f4 b (List.mem_append_right _ hb); omega
      · rcases List.mem_append.1 hb with hb | hb
        · have:=s2 b hb; have:=f4 a (List.mem_append_left _ ha); omega
        · exact d3 a ha b hb e
    · rcases List.mem_append.1 hg with hg | hg
      · have:=f4 g (List.mem_append_left _ hg); omega
      · rcases List.mem_append.1 hg with hg | hg
        · have:=s2 g hg; omega
        · have:=f4 g (List.mem_append_right _ hg); omega
end Go.Proofs.YtdmibdjokofclaaDoor
set_option maxRecDepth 8000
namespace Go.Proofs.YtdmibdjokofclaaDoor
open Go Go.RowKit
set_option maxHeartbeats 2000000 in
theorem zajq {a:Agt} {H1:Heap} {p:Nat} {Q:AV→Heap→Nat→Prop} (b1:a.prog.codes.length*40≤140737488355328) (b2:∀ c∈a.prog.codes,c.ins.length*24≤140737488355328) (b3:a.prog.words.length*16≤140737488355328)
    (b4:a.frames.length*64≤140737488355328) (b5:a.heap.length*64≤140737488355328) (b6:∀ f∈a.frames,f.vars.length*32≤140737488355328∧f.stack.length*32≤140737488355328)
    (r1:H1 p=some (.row 9 a.avs)) (r2:∃ z,H1 (p+1)=some (.row 9 z)∧z.length=9)
    (hq:∀ H' n' mid ss fa ha cv wv,p+2≤mid→mid≤n'→(∀ g,g < p→H' g=H1 g)→FrzP H' (fun g=>p+2≤g∧g < mid) cv (.ro (a.prog.codes.map Cod.avs))→FrzP H' (fun g=>p+2≤g∧g < mid) wv (.ro (a.prog.words.map fun w=>[.str w])) →
      zme H' mid n' a.frames ss fa a.heap ha→Q (.agg [.int .i64 a.id,.int .i64 a.trip,cv,wv,fa,ha,.int .i64 a.permit.fuel,.int .i64 a.permit.room,.int .i64 a.permit.hops]) H' n') :
    LP (zoz Q) [.ptr p 0,.ptr (p+1) 0,.nils,.ro (a.prog.codes.map Cod.avs),.int .i64 a.prog.codes.length,.int .i64 0] H1 (p+2):=by
  refine LP.mk (fun k xs H' n'=>∃ (i:Nat) (cv:AV) (cells:List AV),k=a.prog.codes.length - i∧i≤a.prog.codes.length∧p+2≤n'∧xs=[.ptr p 0,.ptr (p+1) 0,cv,.ro (a.prog.codes.map Cod.avs),.int .i64 a.prog.codes.length,.int .i64 i]∧(∀ g,g < p+2→H' g=H1 g) ∧
    zfb H' (fun g=>p+2≤g∧g < n'∧g∉own cv) (a.prog.codes.take i) cells∧Slot H' 3 i cells cv∧∀ g∈own cv,p+2≤g∧g < n') a.prog.codes.length ⟨0,.nils,[],rfl,by omega,Nat.le_refl _,rfl,fun _ _=>rfl,⟨rfl,fun k c hc=>by simp at hc⟩,.inl ⟨rfl,.inl rfl⟩,by simp [own]⟩ ?_
  rintro k xs H' n' ⟨i,cv,cells,rfl,hi,hn',rfl,hkeep,hc,hs,ho⟩
  have p0:p ≠ n':=by omega
  have p1:p+1 ≠ n':=by omega
  by_cases hil:i < a.prog.codes.length
  · have hmem:a.prog.codes[i]∈a.prog.codes:=List.getElem_mem hil
    have hb:=b2 _ hmem
    have htk:a.prog.codes.take (i+1)=a.prog.codes.take i ++ [a.prog.codes[i]]:=(List.take_append_getElem hil).symm
    have tl:(a.prog.codes.take i).length=i:=by simp; omega
    simp [zoz,hil,Cod.avs]
    refine (zakp hb .ro).mono fun v H5 n5 ⟨hn5,k5,hv⟩ => ?_
    have e1:H5 n'=_:=(k5 n' (by omega)).trans (Heap.put_at _ _ _)
    have nn:n' ≠ n5:=by omega
    simp [zacd,e1,hv.one.1,hv.one.2]
    refine Slot.app (bytes:=40) (nx:=n5+1) (new:=[.int .i64 a.prog.codes[i].params,.int .i64 a.prog.codes[i].vars,v]) (hs.keep fun g hg => ?_) (by rw [hc.1,tl]) (Heap.put_at _ _ _) rfl (by simp [hv.one.2]) (by omega) fun H3 q1 q2 => ?_
    · have:=ho g hg
      rw [Heap.put_ne _ _ (by omega),Heap.put_ne _ _ (by omega),k5 g (by omega),Heap.put_ne _ _ (by omega)]
    · have old:∀ g,g < n'→g∉own cv→H3 g=H' g:=fun g h1 h2=>by
        rw [q2 g h2 (by omega),Heap.put_ne _ _ (by omega),Heap.put_ne _ _ (by omega),k5 g (by omega),Heap.put_ne _ _ (by omega)]
      rw [i64w (by omega)]
      refine ⟨a.prog.codes.length - (i+1),by omega,i+1,rfl,by omega,by omega,_,⟨rfl,by simp⟩,fun g hg => ?_,cells ++ [.int .i64 a.prog.codes[i].params,.int .i64 a.prog.codes[i].vars,v],?_,?_,?_⟩
      · rw [old g (by omega) (fun h=>by have:=ho g h; omega)]; exact hkeep g hg
      · rw [htk]
        refine zfb.snoc (hc.more fun g ⟨h1,h2,h3⟩=>⟨⟨h1,by omega,by simp [own]; omega⟩,old g h2 h3⟩) (hv.more fun g ⟨h1,h2⟩=>⟨⟨by omega,by omega,by simp [own]; omega⟩,?_⟩)
        rw [q2 g (fun h=>by have:=ho g h; omega) (by omega),Heap.put_ne _ _ (by omega),Heap.put_ne _ _ (by omega)]
      · refine .inr ⟨n5+1,_,rfl,q1,List.take_of_length_le ?_,?_⟩
        · simp [hc.1,tl]; omega
        · simp [hc.1,tl]; omega
      · intro g hg
        simp [own] at hg; omega
  · obtain rfl:i=a.prog.codes.length:=by omega
    rw [List.take_length] at hc
    obtain ⟨z,r2,z9⟩:=r2
    rw [← hkeep p (by omega)] at r1
    rw [← hkeep (p+1) (by omega)] at r2
    simp [zoz,r1,Agt.avs]
    refine (zako b3 .ro).mono fun wv H5 n5 ⟨hn5,k5,hw⟩ => ?_
    have e1:H5 p=_:=(k5 p (by omega)).trans r1
    have e2:H5 (p+1)=_:=(k5 (p+1) (by omega)).trans r2
    simp [zacb,e1,Agt.avs,hs.one.1,hs.one.2,hw.one.1,hw.one.2]
    have pp:p+1 ≠ p:=by omega
    have fz1:FrzP H5 (fun g=>p+2≤g∧g < n5) cv (.ro (a.prog.codes.map Cod.avs)):=by
      refine (hc.frz (G:=fun g=>p+2≤g∧g < n') (fun g ⟨h1,h2,_⟩=>⟨h1,h2⟩) hs ho).keep (fun g ⟨h1,h2⟩=>k5 g h2) |>.wide fun g ⟨h1,h2⟩=>⟨h1,by omega⟩
    have fz2:FrzP H5 (fun g=>p+2≤g∧g < n5) wv (.ro (a.prog.words.map fun w=>[.str w])):=hw.frz (fun g ⟨h1,h2⟩=>⟨by omega,h2⟩) (zzs _)
    refine zahy b4 b5 b6 (by omega) (Heap.put_at _ _ _) ⟨z,by rw [Heap.put_ne _ _ pp]; exact e2,z9⟩ hs.one hw.one fun H6 n6 ss fa ha hn6 k6 ow => ?_
    have same:∀ g,p+2≤g→g < n5→H6 g=H5 g:=fun g h1 h2=>by rw [k6 g h2 (by omega) (by omega),Heap.put_ne _ _ (by omega)]
    refine hq H6 n6 n5 ss fa ha cv wv (by omega) hn6 (fun g hg => ?_) (fz1.keep fun g ⟨h1,h2⟩=>same g h1 h2) (fz2.keep fun g ⟨h1,h2⟩=>same g h1 h2) ow
    rw [k6 g (by omega) (by omega) (by omega),Heap.put_ne _ _ (by omega),k5 g (by omega),hkeep g (by omega)]
structure zrz (a:Agt):Prop where
  b1:a.prog.codes.length*40≤140737488355328
  b2:∀ c∈a.prog.codes,c.ins.length*24≤140737488355328
  b3:a.prog.words.length*16≤140737488355328
  b4:a.frames.length*64≤140737488355328
  b5:a.heap.length*64≤140737488355328
  b6:∀ f∈a.frames,f.vars.length*32≤140737488355328∧f.stack.length*32≤140737488355328
def zc (id trip:Int) (p:Prg) (fa ha:AV) (m:Pmt):List AV:=[.int .i64 id,.int .i64 trip,.ro (p.codes.map Cod.avs),.ro (p.words.map fun w=>[.str w]),fa,ha,.int .i64 m.fuel,.int .i64 m.room,.int .i64 m.hops]
theorem zzz {a:Agt} (sz:zrz a) {H:Heap} {n:Nat} {Q:AV→Heap→Nat→Prop}
    (hq:∀ H' n' ss fa ha,n≤n'→Keep n H' H→zme H' n n' a.frames ss fa a.heap ha→Q (.agg (zc a.id a.trip a.prog fa ha a.permit)) H' n'):za Tryd.prog 38 [.agg a.avs] H n Q:=by
  have raw:za Tryd.prog 38 [.agg a.avs] H n fun v H' n'=>∃ mid ss fa ha cv wv,v=.agg [.int .i64 a.id,.int .i64 a.trip,cv,wv,fa,ha,.int .i64 a.permit.fuel,.int .i64 a.permit.room,.int .i64 a.permit.hops]∧n+2≤mid∧mid≤n'∧Keep n H' H ∧
      FrzP H' (fun g=>n+2≤g∧g < mid) cv (.ro (a.prog.codes.map Cod.avs))∧FrzP H' (fun g=>n+2≤g∧g < mid) wv (.ro (a.prog.words.map fun w=>[.str w]))∧zme H' mid n' a.frames ss fa a.heap ha:=by
    refine zadt _ H n _ ?_
    have av:(AV.agg a.avs).cells=a.avs:=by simp
    have al:a.avs.length=9:=rfl
    have nn:n ≠ n+1:=by omega
    have h2:a.avs[2]? = some (.ro (a.prog.codes.map Cod.avs)):=rfl
    have hsu:(AV.agg a.avs).sure=true:=by simp [Agt.avs]
    unfold zaca
    rw [av,al]
    refine ⟨hsu,?_⟩
    simp [nn,h2]
    refine zajq sz.b1 sz.b2 sz.b3 sz.b4 sz.b5 sz.b6 (by rw [Heap.put_ne _ _ nn,Heap.put_at]) ⟨_,Heap.put_at _ _ _,rfl⟩ fun H' n' mid ss fa ha cv wv q1 q2 q3 q4 q5 q6 => ?_
    exact ⟨mid,ss,fa,ha,cv,wv,rfl,q1,q2,fun g hg=>by rw [q3 g hg,Heap.put_ne _ _ (by omega),Heap.put_ne _ _ (by omega)],q4,q5,q6⟩
  refine za.tidy fun hlive=>raw.freeze fun v H' n' ⟨mid,ss,fa,ha,cv,wv,hv,q1,q2,q3,q4,q5,q6⟩ => ?_
  subst hv
  let H2:Heap:=fun g=>if n≤g∧g < mid then none else H' g
  have h2:∀ g,¬ (n≤g∧g < mid)→H2 g=H' g:=fun g hg=>if_neg hg
  refine ⟨_,H2,fun g=>n≤g∧g < mid,hq H2 n' ss fa ha (by omega) (fun g hg=>by rw [h2 g (by omega)]; exact q3 g hg) ⟨q6.frs.keep fun g hg=>h2 g ?_,q6.row.keep fun g hg=>h2 g ?_,q6.hp.keep fun g hg=>h2 g ?_,q6.nd,fun g hg => ?_⟩,?_,fun g o hg => ?_⟩
  · have:=q6.bd g (by simp [hg]); omega
  · have:=q6.bd g (by simp [hg]); omega
  · have:=q6.bd g (by simp [hg]); omega
  · have:=q6.bd g hg; omega
  · refine .agg _ _ rfl fun j v u hv hu => ?_
    match j with
    | 0=>cases hv; cases hu; exact .same _
    | 1=>cases hv; cases hu; exact .same _
    | 2=>cases hv; cases hu; exact q4.wide fun g ⟨h1,h2⟩=>⟨by omega,h2⟩
    | 3=>cases hv; cases hu; exact q5.wide fun g ⟨h1,h2⟩=>⟨by omega,h2⟩
    | 4=>cases hv; cases hu; exact .same _
    | 5=>cases hv; cases hu; exact .same _
    | 6=>cases hv; cases hu; exact .same _
    | 7=>cases hv; cases hu; exact .same _
    | 8=>cases hv; cases hu; exact .same _
    | j+9=>simp at hv
  · by_cases h:n≤g∧g < mid
    · simp only [H2,if_pos h] at hg; cases hg
    · exact ⟨h,by rw [h2 g h] at hg; exact hg⟩
end Go.Proofs.YtdmibdjokofclaaDoor
set_option maxRecDepth 8000
namespace Go.Proofs.YtdmibdjokofclaaDoor
open Go Go.RowKit
theorem Slot.frzN {H:Heap} {nx sz:Nat} {xs:List (List AV)} {a:AV} (hs:Slot H sz xs.length xs.flatten a) (ho:∀ g∈own a,nx≤g) (hsz:∀ x∈xs,x.length=sz) (hb:∀ x∈xs,∀ c∈x,scal c=true):Frz H nx a (.ro xs):=by
  rcases hs with ⟨h0,rfl | rfl⟩ | ⟨g,cs,rfl,h1,h2,h3⟩
  · rw [List.eq_nil_of_length_eq_zero h0]; exact .nils
  · rw [List.eq_nil_of_length_eq_zero h0]; exact .zs
  · have e:∀ (i:Nat) (x:List AV) (j:Nat) (v:AV),xs[i]? = some x→x[j]? = some v→cs[0+i*sz+j]? = some v:=fun i x j v hx hv=>by
      have hxl:x.length=sz:=hsz x (List.mem_of_getElem? hx)
      have hj:j < sz:=by have:=(List.getElem?_eq_some_iff.1 hv).1; omega
      have hi:=(List.getElem?_eq_some_iff.1 hx).1
      have e1:=zgb hsz hx
      have e2:=congrArg (·[j]?) e1
      simp only [List.getElem?_take,List.getElem?_drop,hj,if_true] at e2
      rw [← h2,List.getElem?_take,hv] at e2
      have:i*sz+sz≤xs.length*sz:=by rw [← Nat.succ_mul]; exact Nat.mul_le_mul_right _ hi
      rw [if_pos (by omega)] at e2
      rw [Nat.zero_add]; exact e2
    refine .slc g 0 _ sz cs xs (ho g (by simp [own])) h1 (by omega) rfl hsz (fun i j=>(cs[0+i*sz+j]?).getD .junk) (fun i x j v hx hv => ?_) (fun i x j v hx hv => ?_)
    · rw [e i x j v hx hv]; rfl
    · rw [e i x j v hx hv]; exact .same _ (zbo (hb x (List.mem_of_getElem? hx) v (List.mem_of_getElem? hv)))
theorem Slot.frzV {H:Heap} {nx:Nat} {l:List Val} {a:AV} (hs:Slot H 3 l.length (rowV l) a) (ho:∀ g∈own a,nx≤g):Frz H nx a (.ro (l.map Val.avs)) :=
  Slot.frzN (sz:=3) (by simpa [rowV] using hs) ho (zbw l) (zek l)
theorem Slot.frzH {H:Heap} {nx:Nat} {l:List Cl} {a:AV} (hs:Slot H 6 l.length (rowC l) a) (ho:∀ g∈own a,nx≤g):Frz H nx a (.ro (l.map Cl.avs)) :=
  Slot.frzN (sz:=6) (by simpa [rowC] using hs) ho (zbj l) (zao l)
theorem zaha:∀ {fs:List Frm} {ss:List (AV×AV)} {i:Nat} {f:Frm} {s:AV×AV},fs[i]? = some f→ss[i]? = some s→(frow fs ss)[i*4]? = some (.int .i64 f.fn)∧(frow fs ss)[i*4+1]? = some (.int .i64 f.at_)∧(frow fs ss)[i*4+2]? = some s.1∧(frow fs ss)[i*4+3]? = some s.2
  | [],_,i,f,s,h,_=>by simp at h
  | _ :: _,[],i,f,s,_,h=>by simp at h
  | g :: fs,t :: ss,0,f,s,h1,h2=>by simp at h1 h2; subst h1; subst h2; exact ⟨rfl,rfl,rfl,rfl⟩
  | g :: fs,t :: ss,i+1,f,s,h1,h2=>by
    have:=zaha (fs:=fs) (ss:=ss) (i:=i) (f:=f) (s:=s) (by simpa using h1) (by simpa using h2)
    have e:∀ k,(frow (g :: fs) (t :: ss))[(i+1)*4+k]? = (frow fs ss)[i*4+k]? := fun k=>by
      rw [show (i+1)*4+k=i*4+k+1+1+1+1 by omega]
      simp [frow]
    exact ⟨(e 0).trans this.1,(e 1).trans this.2.1,(e 2).trans this.2.2.1,(e 3).trans this.2.2.2⟩
theorem zaq.frz {H:Heap} {nx:Nat} {fs:List Frm} {ss:List (AV×AV)} {g k:Nat} {cs:List AV} (h:zaq H fs ss) (h1:H g=some (.row 4 cs)) (h2:cs.take (fs.length*4)=frow fs ss) (h3:fs.length*4≤cs.length) (hg:nx≤g) (ho:∀ x∈owns ss,nx≤x) (hk:k=fs.length):Frz H nx (.slc g 0 k) (.ro (fs.map Frm.avs)):=by
  subst hk
  have key:∀ (i:Nat) (x:List AV) (j:Nat) (v:AV),(fs.map Frm.avs)[i]? = some x→x[j]? = some v→∃ u,cs[0+i*4+j]? = some u∧Frz H nx u v:=fun i x j v hx hv=>by
    rw [List.getElem?_map] at hx
    obtain ⟨f,hf,rfl⟩:=Option.map_eq_some_iff.1 hx
    have hi:=(List.getElem?_eq_some_iff.1 hf).1
    have hs:ss[i]? = some (ss[i]'(by rw [h.1]; exact hi)):=List.getElem?_eq_getElem _
    obtain ⟨a,b⟩:=h.2 i f _ hf hs
    obtain ⟨q0,q1,q2,q3⟩:=zaha hf hs
    have hm:=List.mem_of_getElem? hs
    have up:∀ (j:Nat) (u:AV),j < 4→(frow fs ss)[i*4+j]? = some u→cs[0+i*4+j]? = some u:=fun j u hj hu=>by
      rw [← h2,List.getElem?_take,if_pos (by omega)] at hu; rw [Nat.zero_add]; exact hu
    match j,hv with
    | 0,hv=>cases hv; exact ⟨_,up 0 _ (by omega) q0,.same _ (.int _ _)⟩
    | 1,hv=>cases hv; exact ⟨_,up 1 _ (by omega) q1,.same _ (.int _ _)⟩
    | 2,hv=>cases hv; exact ⟨_,up 2 _ (by omega) q2,a.frzV fun x hx=>ho x (List.mem_flatMap.2 ⟨_,hm,List.mem_append_left _ hx⟩)⟩
    | 3,hv=>cases hv; exact ⟨_,up 3 _ (by omega) q3,b.frzV fun x hx=>ho x (List.mem_flatMap.2 ⟨_,hm,List.mem_append_right _ hx⟩)⟩
    | j+4,hv=>simp [Frm.avs] at hv
  refine .slc g 0 _ 4 cs _ hg h1 (by omega) (by simp) (fun x hx => ?_) (fun i j=>(cs[0+i*4+j]?).getD .junk) (fun i x j v hx hv => ?_) (fun i x j v hx hv => ?_)
  · obtain ⟨f,_,rfl⟩:=List.mem_map.1 hx; rfl
  · obtain ⟨u,q1,q2⟩:=key i x j v hx hv; rw [q1]; rfl
  · obtain ⟨u,q1,q2⟩:=key i x j v hx hv; rw [q1]; exact q2
theorem zvk (l:List Cod) {A:Nat→Prop}:Bel A (.ro (l.map Cod.avs)):=.ro _ fun i x j v hx hv=>by
  rw [List.getElem?_map] at hx
  obtain ⟨c,_,rfl⟩:=Option.map_eq_some_iff.1 hx
  match j,hv with
  | 0,hv=>cases hv; exact .int _ _
  | 1,hv=>cases hv; exact .int _ _
  | 2,hv=>cases hv; exact zcn (zaci _)
  | j+3,hv=>simp [Cod.avs] at hv
theorem zvj (l:List Str) {A:Nat→Prop}:Bel A (.ro (l.map fun w=>[.str w])):=zcn (zuj l)
theorem zcf {H:Heap} {nx:Nat} {id trip:Int} {p:Prg} {fs:List Frm} {h:List Cl} {m:Pmt} {fa ha:AV} (h1:Frz H nx fa (.ro (fs.map Frm.avs))) (h2:Frz H nx ha (.ro (h.map Cl.avs))):Frz H nx (.agg (zc id trip p fa ha m)) (.agg (Agt.avs ⟨id,trip,p,fs,h,m⟩)):=by
  refine .agg _ _ rfl fun j v u hv hu => ?_
  match j with
  | 0=>cases hv; cases hu; exact .same _ (.int _ _)
  | 1=>cases hv; cases hu; exact .same _ (.int _ _)
  | 2=>cases hv; cases hu; exact .same _ (zvk _)
  | 3=>cases hv; cases hu; exact .same _ (zvj _)
  | 4=>cases hv; cases hu; exact h1
  | 5=>cases hv; cases hu; exact h2
  | 6=>cases hv; cases hu; exact .same _ (.int _ _)
  | 7=>cases hv; cases hu; exact .same _ (.int _ _)
  | 8=>cases hv; cases hu; exact .same _ (.int _ _)
  | j+9=>simp [zc] at hv
theorem Live.codes {a:Agt} {fs:List Frm} {f:Frm} (l:VM.Live a fs f):a.prog.codes.length≤5∧a.prog.words.length≤16∧∀ c∈a.prog.codes,c.ins.length≤200∧0≤c.vars∧c.vars≤8∧(∀ x∈(VM.heights c.ins).1,-1≤x∧x≤16):=by
  obtain ⟨h1,h2,h3⟩:=zad l.prog
  refine ⟨h2,h3,fun c hc => ?_⟩
  obtain ⟨q1,q2,q3⟩:=h1 c hc
  unfold VM.codeRange at q1
  rw [decide_eq_false_iff_not] at q1
  exact ⟨by omega,by omega,by omega,(zcr q2 q3).2⟩
theorem zuw {xs:List (List AV)} {sz:Nat} (hsz:∀ x∈xs,x.length=sz) {i j:Nat} {x:List AV} {v:AV} (hx:xs[i]? = some x) (hv:x[j]? = some v):xs.flatten[i*sz+j]? = some v:=by
  have hxl:x.length=sz:=hsz x (List.mem_of_getElem? hx)
  have hj:j < sz:=by have:=(List.getElem?_eq_some_iff.1 hv).1; omega
  have e2:=congrArg (·[j]?) (zgb hsz hx)
  simp only [List.getElem?_take,List.getElem?_drop,hj,if_true] at e2
  rw [e2,hv]
end Go.Proofs.YtdmibdjokofclaaDoor
set_option maxRecDepth 8000
namespace Go.Proofs.YtdmibdjokofclaaDoor
open Go Go.RowKit
theorem Live.stk {a:Agt} {fs:List Frm} {f:Frm} (l:VM.Live a fs f):∀ g∈a.frames,g.vars.length≤8∧g.stack.length≤16:=by
  obtain ⟨_,_,h3⟩:=Live.codes l
  intro g hg
  rw [l.fr] at hg
  have ok:=l.ok g hg
  obtain ⟨q1,q2,q3,q4⟩:=h3 _ (VM.code_mem ok.code)
  have hv:=ok.vars
  refine ⟨by omega,?_⟩
  rcases List.mem_append.1 hg with hg | hg
  · have:=ztu l g hg; omega
  · simp at hg; subst hg
    have hst:=l.still
    unfold VM.Still VM.hts at hst
    have:=q4 _ (List.mem_of_getElem? hst)
    omega
theorem Live.sized {a:Agt} {fs:List Frm} {f:Frm} (l:VM.Live a fs f):zrz a:=by
  obtain ⟨h1,h2,h3⟩:=Live.codes l
  have hf:a.frames.length≤12:=by rw [l.fr]; simp; have:=l.flen; omega
  have hh:a.heap.length≤60:=by have:=l.hlen; have:=l.room; omega
  exact ⟨by omega,fun c hc=>by have:=(h3 c hc).1; omega,by omega,by omega,by omega,fun g hg=>by have:=Live.stk l g hg; omega⟩
theorem RL.of_owned {H0 H:Heap} {lo n gs:Nat} {id trip:Int} {p:Prg} {s:Spt} {fs:List Frm} {f:Frm} {ss:List (AV×AV)} {fa:AV} {h:List Cl} {ha:AV} {m:Pmt} {e:Evt} (ow:zme H lo n (fs ++ [f]) ss fa h ha) (hn:lo≤n) (h2:gs < lo) (hs:H gs=some (.row 4 s.avs)) (hk:Keep lo H H0) :
    ∃ gf ss' va sa,fa=.slc gf 0 (fs.length+1)∧RL H0 (H.put n (some (.row 13 (zf id trip p (.slc gf 0 (fs.length+1)) ha m gs e)))) lo (n+1) n gs gf id trip p s fs ss' f va sa h ha m e:=by
  obtain ⟨f1,f2,f3,f4,f5⟩:=ow
  have hl:ss.length=fs.length+1:=by rw [f1.1]; simp
  obtain ⟨ss',t,rfl⟩:∃ ss' t,ss=ss' ++ [t]:=by
    rcases List.eq_nil_or_concat ss with rfl | ⟨ss',t,h⟩
    · simp at hl
    · exact ⟨ss',t,by simpa using h⟩
  rcases f2 with ⟨h0,_⟩ | ⟨gf,cs,rfl,c1,c2,c3⟩
  · simp at h0
  have nb:∀ g∈own (AV.slc gf 0 (fs ++ [f]).length) ++ (own ha ++ owns (ss' ++ [t])),g ≠ n∧lo≤g∧g < n:=fun g hg=>by have:=f5 g hg; omega
  have put:∀ g,g < n→(H.put n (some (.row 13 (zf id trip p (.slc gf 0 (fs.length+1)) ha m gs e)))) g=H g:=fun g hg=>Heap.put_ne _ _ (by omega)
  obtain ⟨l1,l2,l3⟩:=f1.last
  have ef:(fs ++ [f]).length=fs.length+1:=by simp
  rw [ef] at c2 c3 nb f4 f5
  rw [zcs l1.1] at c2
  have bh:∀ g∈own ha,lo≤g∧g < n:=fun g hg=>f5 g (by simp [hg])
  have bs:∀ g∈owns (ss' ++ [t]),lo≤g∧g < n:=fun g hg=>f5 g (by rw [List.mem_append,List.mem_append]; exact .inr (.inr hg))
  have bf:lo≤gf∧gf < n:=f5 gf (by simp [own])
  have es:=zcq ss' t
  refine ⟨gf,ss',t.1,t.2,by rw [ef],Heap.put_at _ _ _,⟨cs,by rw [put gf bf.2]; exact c1,c2,c3⟩,l1.keep fun g hg=>put g (bs g (by rw [es]; simp [hg])).2,l2.keep fun g hg=>put g (bs g (by rw [es]; simp [hg])).2,l3.keep fun g hg=>put g (bs g (by rw [es]; simp [hg])).2,f3.keep fun g hg=>put g (bh g hg).2,by rw [put gs (by omega)]; exact hs,?_,by omega,?_,?_,by omega⟩
  · rw [es] at f4
    have e0:own (AV.slc gf 0 (fs.length+1))=[gf]:=rfl
    rw [e0,List.singleton_append] at f4
    refine List.nodup_cons.2 ⟨?_,List.nodup_cons.2 ⟨?_,f4⟩⟩
    · intro hm
      rcases List.mem_cons.1 hm with h | h
      · omega
      · have:=f5 n (by rw [es,e0]; exact h); omega
    · intro hm
      have:=f5 gs (by rw [es,e0]; exact hm); omega
  · intro g hg
    rcases List.mem_cons.1 hg with h | hg
    · omega
    have:=f5 g (by rw [es]; exact hg)
    omega
  · intro g hg
    rw [put g (by omega)]; exact hk g hg
def zaof (H0 H:Heap) (lo n gr:Nat) (r:Agt×Evt):Prop:=r.2.kind ≠ 0∧gr < n∧Fin H0 H lo gr r.1.id r.1.trip r.1.prog r.1.frames r.1.heap r.1.permit r.2
end Go.Proofs.YtdmibdjokofclaaDoor
set_option maxRecDepth 8000
namespace Go.Proofs.YtdmibdjokofclaaDoor
open Go Go.RowKit
theorem Fin.frz {H0 H:Heap} {lo nx gr:Nat} {id trip:Int} {p:Prg} {frames:List Frm} {h:List Cl} {m:Pmt} {e:Evt} (fi:Fin H0 H lo gr id trip p frames h m e) (hnx:nx≤lo) :
    ∃ gs fa ha,H gr=some (.row 13 (zf id trip p fa ha m gs e))∧Keep lo H H0∧fa.one=true∧fa.sure=true∧ha.one=true∧ha.sure=true∧fa.cells=[fa]∧ha.cells=[ha]∧∀ H2:Heap,(∀ g,lo≤g→H2 g=H g)→Frz H2 nx (.agg (zc id trip p fa ha m)) (.agg (Agt.avs ⟨id,trip,p,frames,h,m⟩)):=by
  obtain ⟨gs,gf,ss,ha,cs,h1,h2,h3,h4,h5,h6,h7,h8,h9,h10⟩:=fi
  refine ⟨gs,_,ha,h1,h10,rfl,rfl,h6.one.2.1,h6.one.2.2,rfl,h6.one.1,fun H2 hk => ?_⟩
  refine zcf (zaq.frz (h5.keep fun g hg=>hk g (h9 g hg)) (by rw [hk gf h7]; exact h2) h3 h4 (by omega) (fun x hx=>by have:=h9 x hx; omega) rfl) ((h6.keep fun g hg=>hk g (h8 g hg)).frzH fun x hx=>by have:=h8 x hx; omega)
theorem zalw (s:Spt) (a:Agt):VM.run s 0 a=(a,⟨1,[],0⟩):=rfl
theorem zalx (s:Spt) (n:Nat) (a:Agt):VM.run s (n+1) a=if (VM.step a s).2.kind ≠ 0 then VM.step a s else VM.run s n (VM.step a s).1:=rfl
structure zmk (H0 H:Heap) (lo nx n:Nat) (gr gs:Nat) (most x:Int) (s:Spt) (r:Agt×Evt) (k:Nat):Prop where
  r1:∃ z,H (nx+2)=some (.row 9 z)∧z.length=9
  r2:∃ z,H (nx+3)=some (.row 3 z)∧z.length=3
  grn:lo≤gr∧gr < n
  keep:Keep lo H H0
  st:(∃ i:Nat,x=i∧i≤most.toNat∧k=most.toNat - i+1∧∃ b fs f gf ss va sa ha,VM.Live b fs f∧RL H0 H lo n gr gs gf b.id b.trip b.prog s fs ss f va sa b.heap ha b.permit VM.ev0∧VM.run s (most.toNat - i) b=r)∨(k=0∧zaof H0 H lo n gr r)
theorem zags {c:Agt} {fs:List Frm} {f:Frm} (l:VM.Live c fs f) (hf:c.permit.fuel ≠ 0) (s:Spt):VM.step c s=VM.opDo { c with permit:={ c.permit with fuel:=c.permit.fuel - 1 } } s fs { f with at_:=f.at_+1 } (VM.insAt c.prog f):=by
  have e1:c.frames.getLast? = some f:=by rw [l.fr]; simp
  have e2:c.frames.dropLast=fs:=by rw [l.fr]; simp
  unfold VM.step
  rw [if_neg hf,e1,e2]
set_option maxRecDepth 20000 in
set_option maxHeartbeats 1000000 in
theorem zalz {s:Spt} {most:Int} {r:Agt×Evt} {nx gr:Nat} {H0 H:Heap} {n:Nat} {Q:AV→Heap→Nat→Prop} (hname:s.name.length≤maxLen) (hfacts:s.facts.length≤4611686018427387903) (hw:∀ x∈s.facts,VM.WrongOk x.val (0:Int)) (hm:most≤9223372036854775807)
    (h0:∃ k,zmk H0 H (nx+4) nx n gr (nx+1) most 0 s r k)
    (hq:∀ H' n' fa ha,r.2.kind ≠ 0→Keep nx H' H0→Frz H' nx (.agg (zc r.1.id r.1.trip r.1.prog fa ha r.1.permit)) (.agg r.1.avs)→Q (.tup [.agg (zc r.1.id r.1.trip r.1.prog fa ha r.1.permit),.agg r.2.avs]) H' n') :
    LP (zfl Q) [.int .i64 most,.ptr (nx+2) 0,.ptr (nx+3) 0,.ptr gr 0,.int .i64 0] H n:=by
  obtain ⟨k0,h0⟩:=h0
  refine LP.mk (fun k xs H' n'=>∃ x:Int,xs=[.int .i64 most,.ptr (nx+2) 0,.ptr (nx+3) 0,.ptr gr 0,.int .i64 x]∧zmk H0 H' (nx+4) nx n' gr (nx+1) most x s r k) k0 ⟨0,rfl,h0⟩ ?_
  rintro k xs H' n' ⟨x,rfl,b⟩
  suffices key:∀ K:J3,(∀ (x:Int) H' n' k',k' < k→zmk H0 H' (nx+4) nx n' gr (nx+1) most x s r k'→K [.int .i64 most,.ptr (nx+2) 0,.ptr (nx+3) 0,.ptr gr 0,.int .i64 x] H' n')→zfl Q K [.int .i64 most,.ptr (nx+2) 0,.ptr (nx+3) 0,.ptr gr 0,.int .i64 x] H' n' from
    key _ fun x H' n' k' hk hb=>⟨k',hk,x,rfl,hb⟩
  intro K hK
  obtain ⟨⟨z1,z2,z3⟩,⟨y1,y2,y3⟩,⟨g1,g2⟩,hkeep,st⟩:=b
  rcases st with ⟨i,rfl,hi,rfl,c,fs,f,gf,ss,va,sa,ha,l,st,hr⟩ | ⟨rfl,hk0,g3,fi⟩
  · have hrun:=st.run
    have e0:VM.ev0.kind=0:=rfl
    have go:∀ H1 n1 x k',n'≤n1→Keep (nx+4) H1 H0→((∃ i:Nat,x=(i:Int)∧i≤most.toNat∧k'=most.toNat - i+1∧∃ b fs f gf ss va sa ha,VM.Live b fs f∧RL H0 H1 (nx+4) n1 gr (nx+1) gf b.id b.trip b.prog s fs ss f va sa b.heap ha b.permit VM.ev0∧VM.run s (most.toNat - i) b=r)∨(k'=0∧zaof H0 H1 (nx+4) n1 gr r))→zmk H0 H1 (nx+4) nx n1 gr (nx+1) most x s r k':=fun H1 n1 x k' hn hk hs =>
      ⟨⟨z1,by rw [hk _ (by omega),← hkeep _ (by omega)]; exact z2,z3⟩,⟨y1,by rw [hk _ (by omega),← hkeep _ (by omega)]; exact y2,y3⟩,⟨g1,by omega⟩,hk,hs⟩
    by_cases hge:most≤i
    · have:most.toNat - i=0:=by omega
      rw [this,zalw] at hr
      simp [zfl,hrun,zf,e0,hge]
      have st1:=st.setrun c.permit ⟨1,[],0⟩
      refine hK _ _ _ 0 (by omega) (go _ _ _ _ (Nat.le_refl _) st1.keep (.inr ⟨rfl,?_⟩))
      rw [← hr]
      refine ⟨by simp,g2,?_⟩
      have:=st1.fin
      rw [← l.fr] at this
      exact this
    · obtain ⟨j,hj⟩:∃ j,most.toNat - i=j+1:=⟨most.toNat - i - 1,by omega⟩
      have hadd:IntKind.i64.wrap ((i:Int)+1)=((i+1:Nat):Int):=by rw [i64w (by omega)]; rfl
      rw [hj,zalx] at hr
      by_cases hfu:c.permit.fuel=0
      · simp [zfl,hrun,zf,e0,hge,hfu]
        refine zjy st 12 fun H1 st1 => ?_
        have hs:VM.step c s=(c,VM.dead 12):=by unfold VM.step; rw [if_pos hfu]
        rw [hs,if_pos (by simp [VM.dead])] at hr
        simp [zabz,hadd]
        refine hK _ _ _ 0 (by omega) (go _ _ _ _ (Nat.le_refl _) st1.keep (.inr ⟨rfl,?_⟩))
        rw [← hr]
        refine ⟨by simp [VM.dead],g2,?_⟩
        have:=st1.fin
        rw [← l.fr] at this
        exact this
      · simp [zfl,hrun,zf,e0,hge,hfu]
        refine zaow l hfu st hname hfacts fun H1 n1 hn1 sp => ?_
        rw [← zags l hfu s] at sp
        simp [zaby]
        rw [hadd]
        rcases sp with ⟨hev,gf',fs',ss',f',va',sa',ha',hfr,st1⟩ | ⟨hev,fi⟩
        · have hk:(VM.step c s).2.kind=0:=by rw [hev]; rfl
          rw [if_neg (by rw [hk]; simp)] at hr
          obtain ⟨gs,g,l'⟩:=VM.step_live l hw hk
          have:=l'.fr
          rw [hfr] at this
          obtain ⟨rfl,e⟩:=List.append_inj' this rfl
          simp at e
          subst e
          refine hK _ _ _ (most.toNat - (i+1)+1) (by omega) (go _ _ _ _ hn1 st1.keep (.inl ⟨i+1,rfl,by omega,rfl,_,_,_,_,_,_,_,_,l',st1,?_⟩))
          rw [show most.toNat - (i+1)=j by omega]
          exact hr
        · rw [if_pos hev] at hr
          obtain ⟨_,_,_,_,_,_,_,_,_,_,_,_,_,_,kp⟩:=id fi
          refine hK _ _ _ 0 (by omega) (go _ _ _ _ hn1 kp (.inr ⟨rfl,?_⟩))
          rw [← hr]
          exact ⟨hev,by omega,fi⟩
  · obtain ⟨gs,fa,ha,hrun,_,o1,o2,o3,o4,o5,o6,hz⟩:=fi.frz (nx:=nx) (by omega)
    simp [zfl,hrun,zf,hk0,z2,y2,z3,y3,o1,o2,o3,o4,o5,o6]
    refine ⟨by omega,hq _ _ fa ha hk0 (fun g hg => ?_) (hz _ fun g hg => ?_)⟩
    · rw [Heap.put_ne _ _ (by omega),Heap.put_ne _ _ (by omega)]; exact hkeep g (by omega)
    · rw [Heap.put_ne _ _ (by omega),Heap.put_ne _ _ (by omega)]
theorem znn (e:Evt) {A:Nat→Prop}:Bel A (.agg e.avs):=by
  refine .agg _ fun i x hv => ?_
  match i with
  | 0=>cases hv; exact .int _ _
  | 1=>cases hv; exact .str _
  | 2=>cases hv; exact .int _ _
  | i+3=>simp [Evt.avs] at hv
set_option maxRecDepth 20000 in
theorem zaqh {a:Agt} {fs:List Frm} {f:Frm} {s:Spt} {most:Int} (l:VM.Live a fs f) (hname:s.name.length≤maxLen) (hfacts:s.facts.length≤4611686018427387903) (hw:∀ x∈s.facts,VM.WrongOk x.val (0:Int)) (hm:most≤9223372036854775807) :
    QC Tryd.prog 27 [.agg a.avs,.agg s.avs,.int .i64 most] (.tup [.agg (VM.run s most.toNat a).1.avs,.agg (VM.run s most.toNat a).2.avs]):=by
  refine QC.of' fun H nx => ?_
  refine zads _ _ _ H nx _ ?_
  have av:(AV.agg a.avs).cells=a.avs:=by simp
  have al:a.avs.length=9:=rfl
  have sv:(AV.agg s.avs).cells=s.avs:=by simp
  have sl:s.avs.length=4:=rfl
  have hsu:(AV.agg a.avs).sure=true:=by simp [Agt.avs]
  have hss:(AV.agg s.avs).sure=true:=by simp [Spt.avs]
  unfold zabw
  rw [av,al,sv,sl]
  refine ⟨hsu,hss,?_⟩
  have at9:a.avs.take 9=a.avs:=by rw [← al,List.take_length]
  simp [al,at9]
  refine zzz (Live.sized l) fun H1 n1 ss fa ha hn1 k1 ow => ?_
  generalize hHH:Heap.put _ (nx+3) _=HH at *
  have q1:HH (nx+1)=some (.row 4 s.avs):=by rw [← hHH,Heap.put_ne _ _ (by omega),Heap.put_ne _ _ (by omega),Heap.put_at]
  have q2:∃ z,HH (nx+2)=some (.row 9 z)∧z.length=9:=⟨_,by rw [← hHH,Heap.put_ne _ _ (by omega),Heap.put_at],rfl⟩
  have q3:∃ z,HH (nx+3)=some (.row 3 z)∧z.length=3:=⟨_,by rw [← hHH,Heap.put_at],rfl⟩
  have q4:Keep nx HH H:=fun g hg=>by rw [← hHH,Heap.put_ne _ _ (by omega),Heap.put_ne _ _ (by omega),Heap.put_ne _ _ (by omega),Heap.put_ne _ _ (by omega)]
  rw [l.fr] at ow
  have hs1:H1 (nx+1)=some (.row 4 s.avs):=(k1 _ (by omega)).trans q1
  obtain ⟨gf,ss',va,sa,rfl,st⟩:=RL.of_owned (e:=VM.ev0) (id:=a.id) (trip:=a.trip) (p:=a.prog) (m:=a.permit) ow hn1 (by omega) hs1 k1
  have h1:=ow.hp.one
  simp [zabx,zc,h1.1,h1.2.1,h1.2.2]
  refine zalz (r:=VM.run s most.toNat a) (H0:=HH) hname hfacts hw hm ⟨most.toNat - 0+1,?_⟩ fun H' n' fa' ha' hk0 kp fz=>⟨Frz.tup2 fz (.same _ (znn _)),fun g hg=>(kp g hg).trans (q4 g hg)⟩
  have up:∀ g,g < nx+4→∀ o,(H1.put n1 o) g=HH g:=fun g hg o=>by rw [Heap.put_ne _ _ (by omega)]; exact k1 g hg
  refine ⟨?_,?_,⟨hn1,by omega⟩,st.keep,.inl ⟨0,rfl,by omega,rfl,a,fs,f,gf,ss',va,sa,ha,l,st,rfl⟩⟩
  · obtain ⟨z,z1,z2⟩:=q2
    exact ⟨z,by rw [up _ (by omega)]; exact z1,z2⟩
  · obtain ⟨z,z1,z2⟩:=q3
    exact ⟨z,by rw [up _ (by omega)]; exact z1,z2⟩
end Go.Proofs.YtdmibdjokofclaaDoor
set_option maxRecDepth 8000
namespace Go.Proofs.YtdmibdjokofclaaDoor
open Go Go.RowKit
structure zaqv (H:Heap) (lo n gf:Nat) (cs:List AV) (fs:List Frm) (ss:List (AV×AV)) (f:Frm) (va sa:AV):Prop where
  row:H gf=some (.row 4 cs)
  cs':cs.take ((fs.length+1)*4)=frow fs ss ++ [.int .i64 f.fn,.int .i64 f.at_,va,sa]
  len:(fs.length+1)*4≤cs.length
  frs:zaq H fs ss
  sv:Slot H 3 f.vars.length (rowV f.vars) va
  st:Slot H 3 f.stack.length (rowV f.stack) sa
  bd:∀ g,(g=gf∨g∈owns ss∨g∈own va∨g∈own sa)→lo≤g∧g < n
  ns:gf∉own sa∧gf∉own va∧gf∉owns ss∧(∀ g∈own sa,g∉own va∧g∉owns ss)∧∀ g∈own va,g∉owns ss
theorem zme.last {H:Heap} {lo n:Nat} {fs:List Frm} {f:Frm} {ss:List (AV×AV)} {fa ha:AV} {h:List Cl} (ow:zme H lo n (fs ++ [f]) ss fa h ha) :
    ∃ gf cs ss' va sa,fa=.slc gf 0 (fs.length+1)∧ss=ss' ++ [(va,sa)]∧zaqv H lo n gf cs fs ss' f va sa∧∀ g∈own ha,g ≠ gf∧g∉own va∧g∉own sa∧g∉owns ss':=by
  obtain ⟨f1,f2,f3,f4,f5⟩:=ow
  have hl:ss.length=fs.length+1:=by rw [f1.1]; simp
  obtain ⟨ss',t,rfl⟩:∃ ss' t,ss=ss' ++ [t]:=by
    rcases List.eq_nil_or_concat ss with rfl | ⟨ss',t,h⟩
    · simp at hl
    · exact ⟨ss',t,by simpa using h⟩
  rcases f2 with ⟨h0,_⟩ | ⟨gf,cs,rfl,c1,c2,c3⟩
  · simp at h0
  obtain ⟨l1,l2,l3⟩:=f1.last
  have ef:(fs ++ [f]).length=fs.length+1:=by simp
  rw [ef] at c2 c3 f4 f5
  rw [zcs l1.1] at c2
  have es:=zcq ss' t
  have e0:own (AV.slc gf 0 (fs.length+1))=[gf]:=rfl
  rw [es,e0,List.singleton_append,List.nodup_cons] at f4
  simp only [List.mem_append,not_or,List.nodup_append] at f4
  obtain ⟨⟨a1,a2,a3,a4⟩,n1,⟨n2,⟨n3,n4,n5⟩,n6⟩,n7⟩:=f4
  rw [es,e0] at f5
  refine ⟨gf,cs,ss',t.1,t.2,by rw [ef],rfl,⟨c1,c2,c3,l1,l2,l3,fun g hg=>f5 g ?_,⟨a4,a3,a2,fun g hg=>⟨fun h=>n5 g h g hg rfl,fun h=>n6 g h g (.inr hg) rfl⟩,fun g hg h=>n6 g h g (.inl hg) rfl⟩⟩,fun g hg=>⟨fun e=>a1 (e ▸ hg),fun h=>n7 g hg g (.inr (.inl h)) rfl,fun h=>n7 g hg g (.inr (.inr h)) rfl,fun h=>n7 g hg g (.inl h) rfl⟩⟩
  simp only [List.mem_append,List.mem_singleton]
  rcases hg with h | h | h | h
  · exact .inl h
  · exact .inr (.inr (.inl h))
  · exact .inr (.inr (.inr (.inl h)))
  · exact .inr (.inr (.inr (.inr h)))
theorem zadd {a:Agt} {fs:List Frm} {f:Frm} {k:Int} (hfr:a.frames=fs ++ [f]):VM.answer a k=⟨a.id,a.trip,a.prog,fs ++ [{ f with stack:=f.stack ++ [⟨0,k,[]⟩] }],a.heap,a.permit⟩:=by
  have e1:a.frames.getLast? = some f:=by rw [hfr]; simp
  have e2:a.frames.dropLast=fs:=by rw [hfr]; simp
  unfold VM.answer
  rw [e1,e2]; rfl
set_option maxRecDepth 20000 in
set_option maxHeartbeats 1000000 in
theorem zadc {a:Agt} {fs:List Frm} {f:Frm} {k:Int} (sz:zrz a) (hfr:a.frames=fs ++ [f]) (hf:fs.length≤4096) (hst:f.stack.length≤4096) :
    QC Tryd.prog 28 [.agg a.avs,.int .i64 k] (.agg (VM.answer a k).avs):=by
  refine QC.of' fun H nx => ?_
  refine zzq _ _ H nx _ ?_
  have av:(AV.agg a.avs).cells=a.avs:=by simp
  have al:a.avs.length=9:=rfl
  have hsu:(AV.agg a.avs).sure=true:=by simp [Agt.avs]
  have at9:a.avs.take 9=a.avs:=by rw [← al,List.take_length]
  unfold zuf
  rw [av,al]
  refine ⟨hsu,?_⟩
  simp [al,at9]
  refine zzz sz fun H1 n1 ss fa ha hn1 k1 ow => ?_
  generalize hHH:Heap.put _ (nx+1) _=HH at *
  have q2:∃ z,HH (nx+1)=some (.row 9 z)∧z.length=9:=⟨_,by rw [← hHH,Heap.put_at],rfl⟩
  have q4:Keep nx HH H:=fun g hg=>by rw [← hHH,Heap.put_ne _ _ (by omega),Heap.put_ne _ _ (by omega)]
  have h1:=ow.hp.one
  rw [hfr] at ow
  obtain ⟨gf,cs,ss',va,sa,rfl,rfl,lf,lh⟩:=ow.last
  have c1:=lf.row
  obtain ⟨b0,b1,b2,b3⟩:=zahb lf.cs' (zav lf.frs.1) lf.len
  have hw:IntKind.i64.wrap (fs.length:Int)=fs.length:=i64w (by omega)
  have gn:gf ≠ n1:=by have:=lf.bd gf (.inl rfl); omega
  have gn1:gf ≠ n1+1:=by have:=lf.bd gf (.inl rfl); omega
  have len:=lf.len
  simp [zug,zc,h1.1,h1.2.1,h1.2.2,hw,c1,gn,gn1,b3]
  refine ⟨by omega,?_⟩
  have bd:=lf.bd
  generalize hrow:[AV.int .i64 a.id,AV.int .i64 a.trip,AV.ro (a.prog.codes.map Cod.avs),AV.ro (a.prog.words.map fun w=>[AV.str w]),AV.slc gf 0 (fs.length+1),ha,AV.int .i64 a.permit.fuel,AV.int .i64 a.permit.room,AV.int .i64 a.permit.hops]=row
  have lrow:row.length=9:=by rw [← hrow]; rfl
  have orow:∀ x∈row,x.one=true:=by rw [← hrow]; intro x hx; simp at hx; rcases hx with rfl | rfl | rfl | rfl | rfl | rfl | rfl | rfl | rfl <;> first | rfl | exact h1.2.1
  have trow:row.take 9=row:=by rw [← lrow,List.take_length]
  refine Slot.app (new:=[.int .i64 0,.int .i64 k,.str []]) (lf.st.keep fun g hg => ?_) (by simp) (Heap.put_at _ _ _) rfl rfl (by omega) fun H3 q1 q3 => ?_
  · have:=bd g (.inr (.inr (.inr hg)))
    rw [Heap.put_ne _ _ (by omega),Heap.put_ne _ _ (by omega)]
  have old:∀ g,g≤n1→g∉own sa→H3 g=(H1.put n1 (some (.row 9 row))) g:=fun g h1 h2=>by rw [q3 g h2 (by omega),Heap.put_ne _ _ (by omega)]
  have o1:H3 gf=some (.row 4 cs):=by rw [old gf (by have:=bd gf (.inl rfl); omega) lf.ns.1,Heap.put_ne _ _ gn]; exact c1
  have o2:H3 n1=some (.row 9 row):=by rw [old n1 (Nat.le_refl _) (fun h=>by have:=bd _ (.inr (.inr (.inr h))); omega),Heap.put_at]
  obtain ⟨z,z1,z2⟩:=q2
  have o3:H3 (nx+1)=some (.row 9 z):=by rw [old (nx+1) (by omega) (fun h=>by have:=bd _ (.inr (.inr (.inr h))); omega),Heap.put_ne _ _ (by omega),k1 _ (by omega)]; exact z1
  obtain ⟨d1,d2⟩:=zkt (u:=AV.slc (n1+2) 0 (f.stack.length+1)) lf.cs' (zav lf.frs.1) lf.len (j:=3) (by omega)
  have n1g:n1 ≠ gf:=gn.symm
  have nxg:nx+1 ≠ gf:=by have:=bd gf (.inl rfl); omega
  simp [o1,o2,o3,n1g,nxg,lrow,trow,z2]
  simp at d1 d2
  have up:∀ g,g < n1→g ≠ gf→g ≠ nx+1→g∉own sa→∀ o o',((H3.put gf o).put (nx+1) o') g=H1 g:=fun g h1 h2 h3 h4 o o'=>by
    rw [Heap.put_ne _ _ h3,Heap.put_ne _ _ h2,old g (by omega) h4,Heap.put_ne _ _ (by omega)]
  refine ⟨by omega,orow,?_,fun g hg => ?_⟩
  · rw [← hrow,zadd hfr]
    have bh:∀ g∈own ha,nx+2≤g∧g < n1:=fun g hg=>ow.bd g (by simp [hg])
    refine zcf (zaq.frz (ss:=ss' ++ [(va,AV.slc (n1+2) 0 (f.stack.length+1))]) ((lf.frs.keep fun g hg => ?_).snoc (lf.sv.keep fun g hg => ?_) (.inr ⟨n1+2,_,by simp,?_,List.take_of_length_le (by simp),by simp⟩)) (by rw [Heap.put_ne _ _ nxg.symm,Heap.put_at]) ?_ ?_ ?_ ?_ (by simp)) ?_
    · have:=bd g (.inr (.inl hg))
      exact up g (by omega) (fun e=>lf.ns.2.2.1 (e ▸ hg)) (by omega) (fun h=>(lf.ns.2.2.2.1 g h).2 hg) _ _
    · have:=bd g (.inr (.inr (.inl hg)))
      exact up g (by omega) (fun e=>lf.ns.2.1 (e ▸ hg)) (by omega) (fun h=>(lf.ns.2.2.2.1 g h).1 hg) _ _
    · rw [Heap.put_ne _ _ (by omega),Heap.put_ne _ _ (by have:=bd gf (.inl rfl); omega),q1,zel]; rfl
    · rw [zcs lf.frs.1]; simpa using d1
    · simpa using d2
    · have:=bd gf (.inl rfl); omega
    · intro x hx
      rw [zcq] at hx
      simp [own] at hx
      rcases hx with h | h | h
      · have:=bd x (.inr (.inl h)); omega
      · have:=bd x (.inr (.inr (.inl h))); omega
      · omega
    · refine Slot.frzH (ow.hp.keep fun g hg => ?_) fun g hg => ?_
      · have:=bh g hg
        exact up g (by omega) (lh g hg).1 (by omega) (lh g hg).2.2.1 _ _
      · have:=bh g hg; omega
  · have:=bd gf (.inl rfl)
    rw [Heap.put_ne _ _ (by omega),old g (by omega) (fun h=>by have:=bd _ (.inr (.inr (.inr h))); omega),Heap.put_ne _ _ (by omega),k1 g (by omega)]
    exact q4 g hg
end Go.Proofs.YtdmibdjokofclaaDoor
set_option maxRecDepth 8000
namespace Go.Proofs.YtdmibdjokofclaaDoor
open Go Go.RowKit
def zhk (H:Heap) (G:Nat→Prop) (xs ys:List AV):Prop:=ys.length=xs.length∧∀ (j:Nat) (v u:AV),xs[j]? = some v→ys[j]? = some u→FrzP H G v u
theorem zhk.nil {H:Heap} {G:Nat→Prop}:zhk H G [] []:=⟨rfl,fun j v u h=>by simp at h⟩
theorem zhk.cons {H:Heap} {G:Nat→Prop} {v u:AV} {xs ys:List AV} (h:FrzP H G v u) (k:zhk H G xs ys):zhk H G (v :: xs) (u :: ys):=by
  refine ⟨by simp [k.1],fun j a b ha hb => ?_⟩
  cases j with
  | zero=>simp at ha hb; subst ha; subst hb; exact h
  | succ j=>exact k.2 j a b (by simpa using ha) (by simpa using hb)
theorem za.thaw {P:Program} {f:FuncId} {args args':List AV} {H H0:Heap} {nx:Nat} {G:Nat→Prop} {Q:AV→Heap→Nat→Prop} (h:za P f args H0 nx Q) (hf:zhk H G args' args) (h0:∀ g o,H0 g=some o→¬ G g∧H g=some o):za P f args' H nx Q:=by
  intro ρ w cargs s ha
  obtain ⟨s0,f0⟩:=s.drop (H':=H0) fun g o ho=>(h0 g o ho).2
  refine zan (h ρ w cargs s0 ⟨ha.1.trans hf.1.symm,fun j u c hu hc => ?_⟩) fun cv w' ⟨r',H',nx',ρ',q1,q3,q4,q5⟩=>⟨r',H',nx',ρ',q1,q3,q4,f0.trans q5⟩
  have hj:j < args'.length:=by have:=(List.getElem?_eq_some_iff.1 hu).1; rw [hf.1] at this; exact this
  have hv:args'[j]? = some args'[j]:=List.getElem?_eq_getElem hj
  exact (hf.2 j _ u hv hu).rel s h0 c (ha.2 j _ c hv hc)
end Go.Proofs.YtdmibdjokofclaaDoor
