/- The machine in memory: what changes, and what stays. A call that changes what it is handed by address, where the order is drawn: what it leaves names no more than what was there named. Cutting and copying rows. The machine's small functions: top, dead, pop, push. Numbers, texts, and what is made of two values: the program's functions, and the document's. What is made of two values: the program's function, and the document's. The machine's functions: setting out, asking, operations. The machine's functions: cells made, and changed; operations. The machine's functions: operations, and cells made. The machine's functions: calls. DERIVED: THE SHELF's CONTRACTS AT THIS DUMP, IN PLAIN WORDS (tools/lay-plain.mjs out of 'YtdmibdjokofclaaDoorShelf0.lean', which tools/lay-shelf.mjs wrote): THE SAME DECLARATIONS UNDER THE SAME NAMES: 'import', 'namespace', 'open', 'def', 'theorem' AND NOTHING ELSE: no command of the shelf's: FOR A HAND-IN. Each laying: the table of numbers ('.._ren') and one theorem, a field a fact of the dump's own or the kernel's comparison; each contract: ONE APPLICATION. strconv.Itoa: a number's digits. A value as a text: the program's function, and the document's. The machine's functions: coming back; and how it ends. -/
import Derived.Test.YtdmibdjokofclaaDoorG9
import Derived.Shelf.Strconv.Itoa0
import Derived.Shelf.Strconv.Itoa1
import Derived.Shelf.LaysM
import Derived.Shelf.Strconv.Itoa2
import Derived.Shelf.Strconv.Itoa3
import Derived.Ground.Names2Prog
import Derived.Test.YtdmibdjokofclaaDoorProg
import Derived.Test.YtdmibdjokofclaaDoorG5
import Derived.Lib.ItoaLen
set_option linter.unusedSimpArgs false
set_option linter.unusedVariables false
set_option maxRecDepth 8000
namespace Go.Proofs.YtdmibdjokofclaaDoor
open Go Go.RowKit
structure zaog (n gr gs gf:Nat) (ha:AV) (ss:List (AV×AV)) (va sa:AV):Prop where
  rs:gr ≠ gs
  rf:gr ≠ gf
  sf:gs ≠ gf
  r:gr < n
  s:gs < n
  f:gf < n
  h:∀ g∈own ha,g < n∧g ≠ gr∧g ≠ gs∧g ≠ gf∧g∉owns ss∧g∉own va∧g∉own sa
  w:∀ g∈owns ss,g < n∧g ≠ gr∧g ≠ gs∧g ≠ gf∧g∉own ha∧g∉own va∧g∉own sa
  v:∀ g∈own va,g < n∧g ≠ gr∧g ≠ gs∧g ≠ gf∧g∉own ha∧g∉owns ss∧g∉own sa
  t:∀ g∈own sa,g < n∧g ≠ gr∧g ≠ gs∧g ≠ gf∧g∉own ha∧g∉owns ss∧g∉own va
theorem zakx {lo n gr gs gf:Nat} {ha va sa:AV} {ss:List (AV×AV)} (nd:(gr :: gs :: gf :: (own ha ++ (owns ss ++ (own va ++ own sa)))).Nodup) (gsn:gs < n) (bd:∀ g∈gr :: gf :: (own ha ++ (owns ss ++ (own va ++ own sa))),lo≤g∧g < n):zaog n gr gs gf ha ss va sa:=by
  simp only [List.nodup_cons,List.nodup_append,List.mem_cons,List.mem_append,not_or] at nd
  simp only [List.mem_cons,List.mem_append] at bd
  obtain ⟨⟨a1,a2,a3,a4,a5,a6⟩,⟨b1,b2,b3,b4,b5⟩,⟨c1,c2,c3,c4⟩,n1,⟨n2,⟨n3,n4,n5⟩,n6⟩,n7⟩:=nd
  refine ⟨a1,a2,b1,(bd gr (by simp)).2,gsn,(bd gf (by simp)).2,fun g hg=>⟨(bd g (by simp [hg])).2,fun e=>a3 (e ▸ hg),fun e=>b2 (e ▸ hg),fun e=>c1 (e ▸ hg),fun h=>n7 g hg g (.inl h) rfl,fun h=>n7 g hg g (.inr (.inl h)) rfl,fun h=>n7 g hg g (.inr (.inr h)) rfl⟩,
    fun g hg=>⟨(bd g (by simp [hg])).2,fun e=>a4 (e ▸ hg),fun e=>b3 (e ▸ hg),fun e=>c2 (e ▸ hg),fun h=>n7 g h g (.inl hg) rfl,fun h=>n6 g hg g (.inl h) rfl,fun h=>n6 g hg g (.inr h) rfl⟩,
    fun g hg=>⟨(bd g (by simp [hg])).2,fun e=>a5 (e ▸ hg),fun e=>b4 (e ▸ hg),fun e=>c3 (e ▸ hg),fun h=>n7 g h g (.inr (.inl hg)) rfl,fun h=>n6 g h g (.inl hg) rfl,fun h=>n5 g hg g h rfl⟩,
    fun g hg=>⟨(bd g (by simp [hg])).2,fun e=>a6 (e ▸ hg),fun e=>b5 (e ▸ hg),fun e=>c4 (e ▸ hg),fun h=>n7 g h g (.inr (.inr hg)) rfl,fun h=>n6 g h g (.inr hg) rfl,fun h=>n5 g h g hg rfl⟩⟩
theorem zpb (a:AV):(own a).Nodup:=by cases a <;> simp [own]
section
variable {H0 H:Heap} {lo n gr gs gf:Nat} {id trip:Int} {p:Prg} {s:Spt} {fs:List Frm} {ss:List (AV×AV)} {f:Frm} {va sa:AV} {h:List Cl} {ha:AV} {m:Pmt} {e:Evt}
theorem RL.apart (st:RL H0 H lo n gr gs gf id trip p s fs ss f va sa h ha m e):zaog n gr gs gf ha ss va sa:=zakx st.nd st.gsn st.bd
theorem RL.upd (st:RL H0 H lo n gr gs gf id trip p s fs ss f va sa h ha m e) {H':Heap} {n':Nat} {f':Frm} {va' sa':AV} {h':List Cl} {ha':AV} {m':Pmt} {e':Evt} (hn:n≤n')
    (run':H' gr=some (.row 13 (zf id trip p (.slc gf 0 (fs.length+1)) ha' m' gs e'))) (fr':∃ cs,H' gf=some (.row 4 cs)∧cs.take ((fs.length+1)*4)=frow fs ss ++ [.int .i64 f'.fn,.int .i64 f'.at_,va',sa']∧(fs.length+1)*4≤cs.length)
    (sv':Slot H' 3 f'.vars.length (rowV f'.vars) va') (st':Slot H' 3 f'.stack.length (rowV f'.stack) sa') (hp':Slot H' 6 h'.length (rowC h') ha')
    (hk:∀ g,g < n→g ≠ gr→g ≠ gf→g∉own ha→g∉own va→g∉own sa→H' g=H g)
    (oh:∀ g∈own ha',g∈own ha∨(n≤g∧g < n')) (ov:∀ g∈own va',g∈own va∨(n≤g∧g < n')) (ot:∀ g∈own sa',g∈own sa∨(n≤g∧g < n'))
    (nd3:(own ha' ++ (own va' ++ own sa')).Nodup):RL H0 H' lo n' gr gs gf id trip p s fs ss f' va' sa' h' ha' m' e':=by
  have ap:=st.apart
  have b:=st.bd
  simp only [List.mem_cons,List.mem_append] at b
  refine ⟨run',fr',st.frs.keep fun g hg => ?_,sv',st',hp',by rw [hk gs ap.s ap.rs.symm ap.sf (fun h=>(ap.h _ h).2.2.1 rfl) (fun h=>(ap.v _ h).2.2.1 rfl) (fun h=>(ap.t _ h).2.2.1 rfl)]; exact st.spot,?_,by have:=st.gsn; omega,?_,?_,by have:=st.le; omega⟩
  · obtain ⟨w1,w2,w3,w4,w5,w6,w7⟩:=ap.w g hg
    exact hk g w1 w2 w4 w5 w6 w7
  · have mh:∀ g∈own ha',g ≠ gr∧g ≠ gs∧g ≠ gf∧g∉owns ss:=fun g hg=>by
      rcases oh g hg with h | h
      · obtain ⟨w1,w2,w3,w4,w5,w6,w7⟩:=ap.h g h; exact ⟨w2,w3,w4,w5⟩
      · have:=ap.r; have:=ap.s; have:=ap.f
        exact ⟨by omega,by omega,by omega,fun hx=>by have:=(ap.w g hx).1; omega⟩
    have mv:∀ g∈own va',g ≠ gr∧g ≠ gs∧g ≠ gf∧g∉owns ss:=fun g hg=>by
      rcases ov g hg with h | h
      · obtain ⟨w1,w2,w3,w4,w5,w6,w7⟩:=ap.v g h; exact ⟨w2,w3,w4,w6⟩
      · have:=ap.r; have:=ap.s; have:=ap.f
        exact ⟨by omega,by omega,by omega,fun hx=>by have:=(ap.w g hx).1; omega⟩
    have mt:∀ g∈own sa',g ≠ gr∧g ≠ gs∧g ≠ gf∧g∉owns ss:=fun g hg=>by
      rcases ot g hg with h | h
      · obtain ⟨w1,w2,w3,w4,w5,w6,w7⟩:=ap.t g h; exact ⟨w2,w3,w4,w6⟩
      · have:=ap.r; have:=ap.s; have:=ap.f
        exact ⟨by omega,by omega,by omega,fun hx=>by have:=(ap.w g hx).1; omega⟩
    have ndw:(owns ss).Nodup:=by
      have:=st.nd
      simp only [List.nodup_cons,List.nodup_append] at this
      exact this.2.2.2.2.1.1
    simp only [List.nodup_append] at nd3
    obtain ⟨z1,⟨z2,z3,z4⟩,z5⟩:=nd3
    simp only [List.nodup_cons,List.nodup_append,List.mem_cons,List.mem_append,not_or]
    refine ⟨⟨ap.rs,ap.rf,fun h=>(mh _ h).1 rfl,fun h=>(ap.w _ h).2.1 rfl,fun h=>(mv _ h).1 rfl,fun h=>(mt _ h).1 rfl⟩,⟨ap.sf,fun h=>(mh _ h).2.1 rfl,fun h=>(ap.w _ h).2.2.1 rfl,fun h=>(mv _ h).2.1 rfl,fun h=>(mt _ h).2.1 rfl⟩,⟨fun h=>(mh _ h).2.2.1 rfl,fun h=>(ap.w _ h).2.2.2.1 rfl,fun h=>(mv _ h).2.2.1 rfl,fun h=>(mt _ h).2.2.1 rfl⟩,z1,⟨ndw,⟨z2,z3,z4⟩,?_⟩,?_⟩
    · rintro x hx y (hy | hy) rfl
      · exact (mv _ hy).2.2.2 hx
      · exact (mt _ hy).2.2.2 hx
    · rintro x hx y (hy | hy | hy) rfl
      · exact (mh _ hx).2.2.2 hy
      · exact z5 _ hx _ (List.mem_append_left _ hy) rfl
      · exact z5 _ hx _ (List.mem_append_right _ hy) rfl
  · intro g hg
    have hl:=st.le
    simp only [List.mem_cons,List.mem_append] at hg
    have old:(lo≤g∧g < n)→lo≤g∧g < n':=fun h=>by omega
    have new:(n≤g∧g < n')→lo≤g∧g < n':=fun h=>by omega
    rcases hg with hg | hg | hg | hg | hg | hg
    · exact old (b g (.inl hg))
    · exact old (b g (.inr (.inl hg)))
    · rcases oh g hg with h | h
      · exact old (b g (.inr (.inr (.inl h))))
      · exact new h
    · exact old (b g (.inr (.inr (.inr (.inl hg)))))
    · rcases ov g hg with h | h
      · exact old (b g (.inr (.inr (.inr (.inr (.inl h))))))
      · exact new h
    · rcases ot g hg with h | h
      · exact old (b g (.inr (.inr (.inr (.inr (.inr h))))))
      · exact new h
  · intro g hg
    have lb:∀ x,(x=gr∨x=gf∨x∈own ha∨x∈owns ss∨x∈own va∨x∈own sa)→lo≤x:=fun x hx=>(b x hx).1
    have hl:=st.le
    rw [hk g (by omega) (fun e=>by have:=lb gr (.inl rfl); omega) (fun e=>by have:=lb gf (.inr (.inl rfl)); omega) (fun h=>by have:=lb g (.inr (.inr (.inl h))); omega) (fun h=>by have:=lb g (.inr (.inr (.inr (.inr (.inl h))))); omega) (fun h=>by have:=lb g (.inr (.inr (.inr (.inr (.inr h))))); omega)]
    exact st.keep g hg
theorem RL.nd3 (st:RL H0 H lo n gr gs gf id trip p s fs ss f va sa h ha m e):(own ha ++ (own va ++ own sa)).Nodup:=by
  have:=st.nd
  simp only [List.nodup_cons,List.nodup_append,List.mem_append] at this
  obtain ⟨_,_,_,n1,⟨n2,⟨n3,n4,n5⟩,n6⟩,n7⟩:=this
  simp only [List.nodup_append,List.mem_append]
  exact ⟨n1,⟨n3,n4,n5⟩,fun a ha b hb=>n7 a ha b (.inr hb)⟩
theorem RL.more (st:RL H0 H lo n gr gs gf id trip p s fs ss f va sa h ha m e) {H':Heap} {n':Nat} (hn:n≤n') (hk:∀ g,g < n→H' g=H g):RL H0 H' lo n' gr gs gf id trip p s fs ss f va sa h ha m e:=by
  have ap:=st.apart
  obtain ⟨cs,c1,c2⟩:=st.fr
  exact st.upd hn (by rw [hk _ ap.r]; exact st.run) ⟨cs,by rw [hk _ ap.f]; exact c1,c2⟩ (st.sv.keep fun g hg=>hk g (ap.v g hg).1) (st.st.keep fun g hg=>hk g (ap.t g hg).1) (st.hp.keep fun g hg=>hk g (ap.h g hg).1) (fun g hg _ _ _ _ _=>hk g hg) (fun g hg=>.inl hg) (fun g hg=>.inl hg) (fun g hg=>.inl hg) st.nd3
end
end Go.Proofs.YtdmibdjokofclaaDoor
set_option maxRecDepth 8000
namespace Go.Proofs.YtdmibdjokofclaaDoor
open Go Go.RowKit
theorem zakw {D:zq}:∀ {H H':Heap} {g:Nat},g∈domD D→(H.apply D) g=(H'.apply D) g:=by
  induction D with
  | nil=>intro H H' g hg; simp at hg
  | cons d r ih =>
    obtain ⟨g',o⟩:=d
    intro H H' g hg
    show ((H.put g' o).apply r) g=((H'.put g' o).apply r) g
    by_cases hr:g∈domD r
    · exact ih hr
    · rw [zky hr,zky hr]
      have:g=g':=by simpa [hr] using hg
      subst this
      rw [Heap.put_at,Heap.put_at]
theorem LC.of_calls {P:Program} {f:FuncId} {args:List AV} {r:AV} {H0:Heap} {rd:List Nat} {D:zq} (hrd:∀ g∈rd,(H0 g).isSome=true) (hdom:∀ g∈domD D,g∈rd) (hr:∀ A:Nat→Prop,(∀ g∈rd,A g)→(∀ g∈rd,∀ o,H0 g=some o→BelO A o)→Bel A r)
    (hb:∀ A:Nat→Prop,(∀ g∈rd,A g)→(∀ g∈rd,∀ o,H0 g=some o→BelO A o)→∀ g o,g∈domD D→(H0.apply D) g=some o→BelO A o)
    (h:∀ H nx,(∀ g∈rd,H g=H0 g∧g < nx)→za P f args H nx fun v H' nx'=>v=r∧nx≤nx'∧(∀ g,g < nx→g∉domD D→H' g=H g)∧(∀ g o,g∈domD D→(H0.apply D) g=some o→H' g=some o)):LC P f args H0 rd [] D r:=by
  intro A ρ H w cargs ⟨N,hN⟩ s ha hag _
  have sN:Sim (· < N) ρ H w:=⟨fun g o ho=>hN g (s.live g o ho),fun g o ho=>(s.obj g o ho).mono rfl (fun _ _ h=>h) (fun g hg=>⟨rfl,hN g hg⟩),s.inj,s.lay⟩
  have aN:LRel (Kof ρ H w) ρ (· < N) args cargs.toList:=⟨ha.1,fun j v c hv hc=>(ha.2 j v c hv hc).mono (fun _ _ h=>h) (fun g hg=>⟨rfl,hN g hg⟩)⟩
  have hrdA:∀ g∈rd,A g:=fun g hg=>by
    obtain ⟨o,ho⟩:=Option.isSome_iff_exists.1 (hrd g hg)
    exact s.live g o ((hag g hg).trans ho)
  have hrdB:∀ g∈rd,∀ o,H0 g=some o→BelO A o:=fun g hg o ho=>(s.obj g o ((hag g hg).trans ho)).bel
  refine zan (h H N (fun g hg=>⟨hag g hg,hN g (hrdA g hg)⟩) ρ w cargs sN aN) fun cv w' ⟨v,H',nx',ρ',⟨hv,hnx,hsame,hchg⟩,q3,q4,q5⟩ => ?_
  subst hv
  have hρ:∀ g,g < N→ρ' g=ρ g:=fun g hg=>(q5.agree g hg).1
  have hAe:(fun x=>A x∨x∈([]:List Nat))=A:=by funext x; simp
  have lv:∀ g o,(H.apply D) g=some o→A g∧H' g=some o∧BelO A o:=fun g o ho=>by
    by_cases hg:g∈domD D
    · rw [zakw (H':=H0) hg] at ho
      exact ⟨hrdA g (hdom g hg),hchg g o hg ho,hb A hrdA hrdB g o hg ho⟩
    · rw [zky hg] at ho
      have hA:=s.live g o ho
      exact ⟨hA,by rw [hsame g (hN g hA) hg]; exact ho,(s.obj g o ho).bel⟩
  have hK:∀ b o,Kof ρ' H' w' b=some o→Kof ρ' (H.apply D) w' b=some o:=fun b o hb=>by
    obtain ⟨h1,h2⟩:=zag.1 hb
    refine zag.2 ⟨fun g hg => ?_,h2⟩
    obtain ⟨o1,ho1⟩:=Option.isSome_iff_exists.1 hg
    exact h1 g (by rw [(lv g o1 ho1).2.1]; rfl)
  refine ⟨ρ',?_,?_,?_⟩
  · rw [hAe]
    refine ⟨fun g o ho=>(lv g o ho).1,fun g o ho => ?_,fun x y hx hy hxy => ?_,q3.lay.mono hK⟩
    · obtain ⟨_,h1,h2⟩:=lv g o ho
      exact ((q3.obj g o h1).restrict h2).mono rfl hK (fun _ h=>⟨rfl,h⟩)
    · obtain ⟨o1,ho1⟩:=Option.isSome_iff_exists.1 hx
      obtain ⟨o2,ho2⟩:=Option.isSome_iff_exists.1 hy
      exact q3.inj x y (by rw [(lv x o1 ho1).2.1]; rfl) (by rw [(lv y o2 ho2).2.1]; rfl) hxy
  · rw [hAe]
    exact (q4.restrict (hr A hrdA hrdB)).mono hK (fun g hg=>⟨rfl,hg⟩)
  · rw [hAe]
    exact ⟨fun g hg=>⟨hρ g (hN g hg),hg⟩,fun b o hb=>hK b o (q5.k b o hb),q5.os,q5.tape,q5.output,q5.size⟩
theorem LC.of_callsN {P:Program} {f:FuncId} {args:List AV} {r:AV} {H0:Heap} {rd:List Nat} {D:zq} {g0:Nat} (hrd:∀ g∈rd,(H0 g).isSome=true) (hdom:∀ g∈domD D,g∈rd∨g=g0)
    (h : ∀ A:Nat→Prop,(∀ g∈rd,A g)→(∀ g∈rd,∀ o,H0 g=some o→BelO A o)→∀ H nx,(∀ g∈rd,H g=H0 g∧g < nx)→za P f args H nx fun v H' nx'=>∃ gn,nx≤gn∧gn < nx'∧Rn A gn g0 v r∧(∀ g,g < nx→g∉domD D→H' g=H g) ∧
      (∀ g o,g∈domD D→g ≠ g0→(H.apply D) g=some o→∃ o',H' g=some o'∧RnO A gn g0 o' o)∧(∃ o o',(H.apply D) g0=some o∧H' gn=some o'∧RnO A gn g0 o' o)):LC P f args H0 rd [g0] D r:=by
  intro A ρ H w cargs ⟨N0,hN0⟩ s ha hag hfresh
  obtain ⟨N,hN,hg0N⟩:∃ N,(∀ g,A g→g < N)∧g0 < N:=⟨max N0 (g0+1),fun g hg=>by have:=hN0 g hg; omega,by omega⟩
  have hg0:¬ A g0:=hfresh g0 (by simp)
  have sN:Sim (· < N) ρ H w:=⟨fun g o ho=>hN g (s.live g o ho),fun g o ho=>(s.obj g o ho).mono rfl (fun _ _ h=>h) (fun g hg=>⟨rfl,hN g hg⟩),s.inj,s.lay⟩
  have aN:LRel (Kof ρ H w) ρ (· < N) args cargs.toList:=⟨ha.1,fun j v c hv hc=>(ha.2 j v c hv hc).mono (fun _ _ h=>h) (fun g hg=>⟨rfl,hN g hg⟩)⟩
  have hrdA:∀ g∈rd,A g:=fun g hg=>by
    obtain ⟨o,ho⟩:=Option.isSome_iff_exists.1 (hrd g hg)
    exact s.live g o ((hag g hg).trans ho)
  have hrdB:∀ g∈rd,∀ o,H0 g=some o→BelO A o:=fun g hg o ho=>(s.obj g o ((hag g hg).trans ho)).bel
  refine zan (h A hrdA hrdB H N (fun g hg=>⟨hag g hg,hN g (hrdA g hg)⟩) ρ w cargs sN aN) fun cv w' ⟨v,H',nx',ρ',⟨gn,hgN,hgn,hv,hsame,hchg,onew,onew',hn1,hn2,hn3⟩,q3,q4,q5⟩ => ?_
  have hρ:∀ g,g < N→ρ' g=ρ g:=fun g hg=>(q5.agree g hg).1
  let ρ2:Nat→Loc:=fun g=>if g=g0 then ρ' gn else ρ' g
  have h20:ρ2 g0=ρ' gn:=if_pos rfl
  have h2:∀ g,g ≠ g0→ρ2 g=ρ' g:=fun g hg=>if_neg hg
  have hAne:∀ g,A g→g ≠ g0:=fun g hg e=>hg0 (e ▸ hg)
  have hR:∀ g,A g→g < nx'→ρ2 g=ρ' g∧(A g∨g∈[g0]):=fun g hg _=>⟨h2 g (hAne g hg),.inl hg⟩
  have hRA:∀ g,A g→g < nx':=fun g hg=>by have:=hN g hg; omega
  have hG:ρ2 g0=ρ' gn∧(A g0∨g0∈[g0]):=⟨h20,.inr (by simp)⟩
  -- who stands for whom
  have lv : ∀ g o,(H.apply D) g=some o→(A g∨g∈[g0])∧∃ g' o',H' g'=some o'∧ρ2 g=ρ' g'∧(g=g0→g'=gn)∧(g ≠ g0→g'=g∧A g) ∧
      (∀ K,zay K ρ' (· < nx') w' (ρ' g') o'→zay K ρ2 (fun x=>A x∨x∈[g0]) w' (ρ2 g) o):=fun g o ho=>by
    by_cases hgg:g=g0
    · subst hgg
      rw [hn1] at ho
      obtain rfl:=Option.some.inj ho
      exact ⟨.inr (by simp),gn,onew',hn2,h20,fun _=>rfl,fun h=>absurd rfl h,fun K hk=>by rw [h20]; exact hk.rn hn3 hR hRA hG⟩
    · by_cases hg:g∈domD D
      · obtain ⟨o',h1,h3⟩:=hchg g o hg hgg ho
        have hA:A g:=by
          rcases hdom g hg with h | h
          · exact hrdA g h
          · exact absurd h hgg
        exact ⟨.inl hA,g,o',h1,h2 g hgg,fun h=>absurd h hgg,fun _=>⟨rfl,hA⟩,fun K hk=>by rw [h2 g hgg]; exact hk.rn h3 hR hRA hG⟩
      · rw [zky hg] at ho
        have hA:=s.live g o ho
        refine ⟨.inl hA,g,o,by rw [hsame g (hN g hA) hg]; exact ho,h2 g hgg,fun h=>absurd h hgg,fun _=>⟨rfl,hA⟩,fun K hk => ?_⟩
        rw [h2 g hgg]
        exact (hk.restrict (s.obj g o ho).bel).mono rfl (fun _ _ h=>h) (fun x hx=>⟨h2 x (hAne x hx),.inl hx⟩)
  have hK:∀ b o,Kof ρ' H' w' b=some o→Kof ρ2 (H.apply D) w' b=some o:=fun b o hb=>by
    obtain ⟨k1,k2⟩:=zag.1 hb
    refine zag.2 ⟨fun g hg => ?_,k2⟩
    obtain ⟨o1,ho1⟩:=Option.isSome_iff_exists.1 hg
    obtain ⟨_,g',o',e1,e2,_⟩:=lv g o1 ho1
    rw [e2]
    exact k1 g' (by rw [e1]; rfl)
  refine ⟨ρ2,⟨fun g o ho=>(lv g o ho).1,fun g o ho => ?_,fun x y hx hy hxy => ?_,q3.lay.mono hK⟩,?_,⟨fun g hg=>⟨(h2 g (hAne g hg)).trans (hρ g (hN g hg)),.inl hg⟩,fun b o hb=>hK b o (q5.k b o hb),q5.os,q5.tape,q5.output,q5.size⟩⟩
  · obtain ⟨_,g',o',e1,_,_,_,e4⟩:=lv g o ho
    exact (e4 _ (q3.obj g' o' e1)).mono rfl hK (fun _ h=>⟨rfl,h⟩)
  · obtain ⟨o1,ho1⟩:=Option.isSome_iff_exists.1 hx
    obtain ⟨o2,ho2⟩:=Option.isSome_iff_exists.1 hy
    obtain ⟨_,x',p1,e1,e2,e3,e4,_⟩:=lv x o1 ho1
    obtain ⟨_,y',p2,f1,f2,f3,f4,_⟩:=lv y o2 ho2
    rw [e2,f2] at hxy
    have hxy':=q3.inj x' y' (by rw [e1]; rfl) (by rw [f1]; rfl) hxy
    by_cases hx0:x=g0
    · by_cases hy0:y=g0
      · rw [hx0,hy0]
      · have:=(f4 hy0).1
        have hAy:=hN y (f4 hy0).2
        have:=e3 hx0
        omega
    · by_cases hy0:y=g0
      · have:=(e4 hx0).1
        have hAx:=hN x (e4 hx0).2
        have:=f3 hy0
        omega
      · rw [← (e4 hx0).1,← (f4 hy0).1]; exact hxy'
  · exact (q4.rn hv hR hRA hG).mono hK (fun g hg=>⟨rfl,hg⟩)
end Go.Proofs.YtdmibdjokofclaaDoor
set_option maxRecDepth 8000
namespace Go.Proofs.YtdmibdjokofclaaDoor
open Go Go.RowKit
section
variable {ki:IntKind}
@[simp ↓] theorem zalp {s g off len:Nat} {a:Int} {H:Heap} {kt:Kt}:zbc s (.slc g off len) none (some (.int ki a)) H kt=ROWK (H g) fun sz _=>sz=s∧0≤a∧a≤len∧kt (.slc g off a.toNat) [g] [] []:=by
  simp only [zbc,lohi]
  refine zfz (fun sz cs h => ?_) fun h => ?_
  · simp [h]
  · intro ha
    split at ha
    · rename_i sz cs he; exact h _ _ he
    · exact ha
@[simp ↓] theorem zaho {s g off len:Nat} {a:Int} {H:Heap} {kt:Kt}:zbc s (.slc g off len) (some (.int ki a)) none H kt=ROWK (H g) fun sz _=>sz=s∧0≤a∧a≤len∧kt (.slc g (off+a.toNat*s) ((len:Int) - a).toNat) [g] [] []:=by
  simp only [zbc,lohi]
  refine zfz (fun sz cs h => ?_) fun h => ?_
  · simp [h]
  · intro ha
    split at ha
    · rename_i sz cs he; exact h _ _ he
    · exact ha
end
section
variable {ki:IntKind}
theorem zwc {e g off len mm:Nat} {x:AV} {H:Heap} {cells news:List AV} {rd:List Nat} {kh:AV→Heap→Prop} (hs:zm e H x=some (mm,news,rd)) (hg:H g=some (.row e cells)) (hle:off+len*e≤cells.length) (hone:news.all AV.one=true)
    (hk:kh (.int .i64 (min mm len:Nat)) (H.put g (some (.row e (zba cells off (news.take (min mm len*e))))))):CP e (.slc g off len) x H kh:=by
  unfold CP COPY
  rw [hs]
  simp only [hg]
  exact ⟨trivial,hle,hone,hk⟩
@[simp ↓] theorem zayy {s g off len:Nat} {a:Int} {H:Heap} {k:AV→Prop}:SL s (.slc g off len) (some (.int ki a)) none H k=ROWK (H g) fun sz _=>sz=s∧0≤a∧a≤len∧k (.slc g (off+a.toNat*s) ((len:Int) - a).toNat):=by
  unfold SL
  rw [zaho]; rfl
@[simp ↓] theorem zayz {s g off len:Nat} {a:Int} {H:Heap} {k:AV→Prop}:SL s (.slc g off len) none (some (.int ki a)) H k=ROWK (H g) fun sz _=>sz=s∧0≤a∧a≤len∧k (.slc g off a.toNat):=by
  unfold SL
  rw [zalp]; rfl
@[simp ↓] theorem zawa {s:Nat} {a:Int} {H:Heap} {k:AV→Prop}:SL s .nils (some (.int ki a)) none H k=(a=0∧k .nils):=by
  simp [SL,zbc,lohi,PURE,qk]
@[simp ↓] theorem zavy {s:Nat} {a:Int} {H:Heap} {k:AV→Prop}:SL s .zs (some (.int ki a)) none H k=(a=0∧k .zs):=by
  simp [SL,zbc,lohi,PURE,qk]
@[simp ↓] theorem zavz {s:Nat} {a:Int} {H:Heap} {k:AV→Prop}:SL s .zs none (some (.int ki a)) H k=(a=0∧k .zs):=by
  simp [SL,zbc,lohi,PURE,qk]
@[simp ↓] theorem zawb {s:Nat} {a:Int} {H:Heap} {k:AV→Prop}:SL s .nils none (some (.int ki a)) H k=(a=0∧k .nils):=by
  simp [SL,zbc,lohi,PURE,qk]
end
theorem zcq (ss:List (AV×AV)) (t:AV×AV):owns (ss ++ [t])=owns ss ++ (own t.1 ++ own t.2):=by simp [owns]
theorem zhp (a b:List Val):rowV (a ++ b)=rowV a ++ rowV b:=by simp [rowV]
end Go.Proofs.YtdmibdjokofclaaDoor
set_option maxRecDepth 8000
namespace Go.Proofs.YtdmibdjokofclaaDoor
open Go Go.RowKit
section
variable {H0 H:Heap} {lo n gr gs gf:Nat} {id trip:Int} {p:Prg} {s:Spt} {fs:List Frm} {ss:List (AV×AV)} {f:Frm} {va sa:AV} {h:List Cl} {ha:AV} {m:Pmt} {e:Evt}
theorem zahb {cs:List AV} {k:Nat} {w x y z:AV} {pre:List AV} (h:cs.take ((k+1)*4)=pre ++ [w,x,y,z]) (hp:pre.length=k*4) (hl:(k+1)*4≤cs.length) :
    cs[k*4]? = some w∧cs[k*4+1]? = some x∧cs[k*4+2]? = some y∧cs[k*4+3]? = some z:=by
  have key:∀ j,j < 4→cs[k*4+j]? = ([w,x,y,z]:List AV)[j]? := fun j hj=>by
    have:=congrArg (·[k*4+j]?) h
    simp only [List.getElem?_take] at this
    rw [if_pos (by omega),List.getElem?_append_right (by omega)] at this
    rw [this,hp]; congr 1; omega
  exact ⟨key 0 (by omega),key 1 (by omega),key 2 (by omega),key 3 (by omega)⟩
theorem zkt {cs:List AV} {k j:Nat} {w x y z u:AV} {pre:List AV} (h:cs.take ((k+1)*4)=pre ++ [w,x,y,z]) (hp:pre.length=k*4) (hl:(k+1)*4≤cs.length) (hj:j < 4) :
    (cs.take (k*4+j) ++ u :: cs.drop (k*4+j+1)).take ((k+1)*4)=pre ++ ([w,x,y,z]:List AV).set j u∧(k+1)*4≤(cs.take (k*4+j) ++ u :: cs.drop (k*4+j+1)).length:=by
  have e:cs.take (k*4+j) ++ u :: cs.drop (k*4+j+1)=cs.set (k*4+j) u:=by
    rw [List.set_eq_take_append_cons_drop,if_pos (by omega)]
  rw [e]
  refine ⟨?_,by simpa using hl⟩
  rw [List.take_set,h,List.set_append,if_neg (by omega),hp]
  congr 2; omega
theorem RL.last (st:RL H0 H lo n gr gs gf id trip p s fs ss f va sa h ha m e):∃ cs,H gf=some (.row 4 cs)∧cs.take ((fs.length+1)*4)=frow fs ss ++ [.int .i64 f.fn,.int .i64 f.at_,va,sa]∧(fs.length+1)*4≤cs.length ∧
    cs[fs.length*4]? = some (.int .i64 f.fn)∧cs[fs.length*4+1]? = some (.int .i64 f.at_)∧cs[fs.length*4+2]? = some va∧cs[fs.length*4+3]? = some sa:=by
  obtain ⟨cs,h1,h2,h3⟩:=st.fr
  exact ⟨cs,h1,h2,h3,zahb h2 (zav st.frs.1) h3⟩
theorem zacg {rc cs:List AV} {k:Nat} (h1:H gr=some (.row 13 rc)) (h2:rc[4]? = some (.slc gf 0 (k+1))) (h3:H gf=some (.row 4 cs)) (hk:k≤4096) {Q:AV→Heap→Nat→Prop} (hq:Q (.ptr gf (k*4)) H n):za Tryd.prog 53 [.ptr gr 0] H n Q:=by
  refine zjq _ H n _ ?_
  have hw2:IntKind.i64.wrap (k:Int)=k:=i64w (by omega)
  simp [zhn,h1,h2,hw2]
  exact ⟨by omega,hq⟩
structure zado (H:Heap) (gr gf g k j:Nat) (cs gcs:List AV) (v:Val):Prop where
  run:∃ rc,H gr=some (.row 13 rc)∧rc[4]? = some (.slc gf 0 (k+1))
  fr:H gf=some (.row 4 cs)
  frl:(k+1)*4≤cs.length
  cell:cs[k*4+3]? = some (.slc g 0 (j+1))
  st:H g=some (.row 3 gcs)
  stl:(j+1)*3≤gcs.length
  val:(gcs.drop (j*3)).take 3=v.avs
  kb:k≤4096
  jb:j≤4096
  gf':g ≠ gf
def zjc (cs:List AV) (k g j:Nat):List AV:=cs.take (k*4+3) ++ AV.slc g 0 j :: cs.drop (k*4+3+1)
theorem zkq {g k j:Nat} {cs gcs:List AV} {v:Val} (st:zado H gr gf g k j cs gcs v) (l1:gr < n) (l2:gf < n) (l3:g < n) {Q:AV→Heap→Nat→Prop}
    (hq:∀ H' n',n≤n'→H' gf=some (.row 4 (zjc cs k g j))→(∀ x,x < n→x ≠ gf→H' x=H x)→Q (.agg v.avs) H' n'):za Tryd.prog 56 [.ptr gr 0] H n Q:=by
  refine ztj _ H n _ ?_
  simp [zmy]
  obtain ⟨rc,h1,h2⟩:=st.run
  have c1:=st.fr
  have c3:=st.frl
  have c7:=st.cell
  have g1:=st.st
  have g3:=st.stl
  have hlast:=st.val
  have kb:=st.kb
  have jb:=st.jb
  have gf':=st.gf'
  have fn0:gf ≠ n:=by omega
  have gn0:g ≠ n:=by omega
  have rn0:gr ≠ n:=by omega
  refine zacg (rc:=rc) (cs:=cs) (k:=k) (by rw [Heap.put_ne _ _ rn0]; exact h1) h2 (by rw [Heap.put_ne _ _ fn0]; exact c1) kb ?_
  have hw:IntKind.i64.wrap (j:Int)=j:=i64w (by omega)
  have gn:g ≠ n+1:=by omega
  have fnn:gf ≠ n+1:=by omega
  have gn1:n ≠ n+1:=by omega
  have tv:v.avs.take 3=v.avs:=rfl
  have lv:v.avs.length=3:=rfl
  simp [zmz,c1,c7,hw,g1,hlast,fn0,fnn,gn,gn0,gf',gn1,tv,lv,fn0.symm,fnn.symm,gn.symm,gn0.symm]
  refine ⟨by omega,by omega,fun x hx=>zae (zat v x hx),by omega,by omega,fun x hx=>zae (zat v x hx),?_⟩
  refine hq _ _ (by omega) ?_ fun x hx hxf => ?_
  · rw [Heap.put_ne _ _ fn0,Heap.put_at]; rfl
  · rw [Heap.put_ne _ _ (by omega),Heap.put_ne _ _ hxf,Heap.put_ne _ _ (by omega),Heap.put_ne _ _ (by omega)]
theorem zo.pop {g k j:Nat} {cs gcs:List AV} {v:Val} (st:zado H gr gf g k j cs gcs v) {kt:Kt} (hk:kt (.agg v.avs) [gr,gf,g] [] [(gf,some (.row 4 (zjc cs k g j)))]):zo Tryd.prog (.clo 56 []) [.ptr gr 0] H n kt:=by
  obtain ⟨rc,h1,h2⟩:=st.run
  have c1:=st.fr
  have g1:=st.st
  refine ⟨_,[gr,gf,g],[],_,.inl rfl,LC.of_calls (fun x hx => ?_) (by simp) (fun A _ _=>zfo v) (fun A hA hB x o hx ho => ?_) (fun H' n' ha => ?_),hk⟩
  · simp at hx
    rcases hx with rfl | rfl | rfl
    · rw [h1]; rfl
    · rw [c1]; rfl
    · rw [g1]; rfl
  · simp at hx
    subst hx
    simp at ho
    subst ho
    have hb:=hB x (by simp) _ c1
    intro i y hy
    unfold zjc at hy
    have hm:=List.mem_of_getElem? hy
    rcases List.mem_append.1 hm with h | h
    · obtain ⟨i',hi',rfl⟩:=List.getElem_of_mem (List.mem_of_mem_take h)
      exact hb i' _ (List.getElem?_eq_getElem hi')
    · rcases List.mem_cons.1 h with h | h
      · rw [h]; exact .slc _ _ _ (hA g (by simp))
      · obtain ⟨i',hi',rfl⟩:=List.getElem_of_mem (List.mem_of_mem_drop h)
        exact hb i' _ (List.getElem?_eq_getElem hi')
  · obtain ⟨a1,a2⟩:=ha gr (by simp)
    obtain ⟨a3,a4⟩:=ha gf (by simp)
    obtain ⟨a5,a6⟩:=ha g (by simp)
    have st':zado H' gr gf g k j cs gcs v:=⟨⟨rc,by rw [a1]; exact h1,h2⟩,by rw [a3]; exact c1,st.frl,st.cell,by rw [a5]; exact g1,st.stl,st.val,st.kb,st.jb,st.gf'⟩
    refine zkq st' a2 a4 a6 fun H'' n'' hn q1 q2=>⟨rfl,hn,fun x hx hd=>q2 x hx (by simpa using hd),fun x o hx ho => ?_⟩
    simp at hx
    subst hx
    simp at ho
    rw [q1,ho]
theorem zadv (st:RL H0 H lo n gr gs gf id trip p s fs ss f va sa h ha m e) (hf:fs.length≤4096) {Q:AV→Heap→Nat→Prop} (hq:Q (.ptr gf (fs.length*4)) H n):za Tryd.prog 53 [.ptr gr 0] H n Q:=by
  refine zjq _ H n _ ?_
  have hr:=st.run
  have hw:IntKind.i64.wrap ((fs.length:Int)+1 - 1)=fs.length:=by rw [i64w (by omega)]; omega
  have hw2:IntKind.i64.wrap (fs.length:Int)=fs.length:=i64w (by omega)
  simp [zhn,hr,zf,hw2]
  exact ⟨by omega,hq⟩
theorem RL.setrun (st:RL H0 H lo n gr gs gf id trip p s fs ss f va sa h ha m e) (m':Pmt) (e':Evt):RL H0 (H.put gr (some (.row 13 (zf id trip p (.slc gf 0 (fs.length+1)) ha m' gs e')))) lo n gr gs gf id trip p s fs ss f va sa h ha m' e':=by
  have ap:=st.apart
  obtain ⟨cs,c1,c2⟩:=st.fr
  have hk:∀ g,g ≠ gr→(H.put gr (some (.row 13 (zf id trip p (.slc gf 0 (fs.length+1)) ha m' gs e')))) g=H g:=fun g hg=>Heap.put_ne _ _ hg
  exact st.upd (Nat.le_refl _) (Heap.put_at _ _ _) ⟨cs,by rw [hk _ ap.rf.symm]; exact c1,c2⟩ (st.sv.keep fun g hg=>hk g (ap.v g hg).2.1) (st.st.keep fun g hg=>hk g (ap.t g hg).2.1) (st.hp.keep fun g hg=>hk g (ap.h g hg).2.1) (fun g _ hg _ _ _ _=>hk g hg) (fun g hg=>.inl hg) (fun g hg=>.inl hg) (fun g hg=>.inl hg) st.nd3
theorem zjy (st:RL H0 H lo n gr gs gf id trip p s fs ss f va sa h ha m e) (er:Int) {Q:AV→Heap→Nat→Prop} (hq:∀ H',RL H0 H' lo n gr gs gf id trip p s fs ss f va sa h ha m (VM.dead er)→Q (.tup []) H' n):za Tryd.prog 39 [.ptr gr 0,.int .i64 er] H n Q:=by
  refine zrb _ _ H n _ ?_
  have hr:=st.run
  simp [zlu,hr,zf]
  exact ⟨by rintro x ((rfl | rfl) | rfl) <;> rfl,hq _ (st.setrun m (VM.dead er))⟩
theorem RL.setfr (st:RL H0 H lo n gr gs gf id trip p s fs ss f va sa h ha m e) {f':Frm} {va' sa':AV} {c:Option AObj} (hc:∃ cs,c=some (.row 4 cs)∧cs.take ((fs.length+1)*4)=frow fs ss ++ [.int .i64 f'.fn,.int .i64 f'.at_,va',sa']∧(fs.length+1)*4≤cs.length)
    (sv':Slot H 3 f'.vars.length (rowV f'.vars) va') (st':Slot H 3 f'.stack.length (rowV f'.stack) sa') (ov:own va'=own va) (ot:own sa'=own sa):RL H0 (H.put gf c) lo n gr gs gf id trip p s fs ss f' va' sa' h ha m e:=by
  have ap:=st.apart
  obtain ⟨cs,c1,c2⟩:=hc
  have hk:∀ g,g ≠ gf→(H.put gf c) g=H g:=fun g hg=>Heap.put_ne _ _ hg
  refine st.upd (Nat.le_refl _) (by rw [hk _ ap.rf]; exact st.run) ⟨cs,by rw [Heap.put_at,c1],c2⟩ (sv'.keep fun g hg=>hk g ?_) (st'.keep fun g hg=>hk g ?_) (st.hp.keep fun g hg=>hk g (ap.h g hg).2.2.2.1) (fun g _ _ hg _ _ _=>hk g hg) (fun g hg=>.inl hg) (fun g hg=>.inl (ov ▸ hg)) (fun g hg=>.inl (ot ▸ hg)) (by rw [ov,ot]; exact st.nd3)
  · exact (ap.v g (ov ▸ hg)).2.2.2.1
  · exact (ap.t g (ot ▸ hg)).2.2.2.1
theorem zajh {st:List Val} {v:Val}:((rowV (st ++ [v])).drop (st.length*3)).take 3=v.avs:=zvw (by simp)
theorem RL.popAt {st':List Val} {v:Val} (st:RL H0 H lo n gr gs gf id trip p s fs ss f va sa h ha m e) (hf:fs.length≤4096) (hs:f.stack=st' ++ [v]) (hb:st'.length≤4096):∃ g cs gcs,sa=.slc g 0 (st'.length+1)∧zado H gr gf g fs.length st'.length cs gcs v∧g < n ∧
    ∀ H' n',n≤n'→H' gf=some (.row 4 (zjc cs fs.length g st'.length))→(∀ x,x < n→x ≠ gf→H' x=H x)→RL H0 H' lo n' gr gs gf id trip p s fs ss { f with stack:=st' } va (.slc g 0 st'.length) h ha m e:=by
  obtain ⟨cs,c1,c2,c3,c4,c5,c6,c7⟩:=st.last
  have ap:=st.apart
  have hst:=st.st
  rw [hs] at hst
  rcases hst with ⟨h0,_⟩ | ⟨g,gcs,rfl,g1,g2,g3⟩
  · simp at h0
  simp at g2 g3
  have hlast:(gcs.drop (st'.length*3)).take 3=v.avs:=by
    have e:=zajh (st:=st') (v:=v)
    rw [← g2] at e
    rw [← e,List.drop_take,List.take_take]
    congr 1
    omega
  have gf':g ≠ gf:=(ap.t g (by simp [own])).2.2.2.1
  refine ⟨g,cs,gcs,by simp,⟨⟨_,st.run,rfl⟩,c1,c3,by rw [c7]; simp,g1,by omega,hlast,hf,hb,gf'⟩,(ap.t g (by simp [own])).1,fun H' n' hn q1 q2 => ?_⟩
  obtain ⟨d1,d2⟩:=zkt (u:=AV.slc g 0 st'.length) c2 (zav st.frs.1) c3 (j:=3) (by omega)
  refine RL.more (n:=n) (RL.setfr (f':={ f with stack:=st' }) (va':=va) (sa':=.slc g 0 st'.length) (c:=some (.row 4 (zjc cs fs.length g st'.length))) st ⟨_,rfl,by simpa [zjc] using d1,d2⟩ st.sv (.inr ⟨g,gcs,rfl,g1,?_,by simp only; omega⟩) rfl (by simp [own])) hn fun x hx => ?_
  · have:=congrArg (List.take (st'.length*3)) g2
    rw [List.take_take,Nat.min_eq_left (by omega)] at this
    rw [this,zel,List.take_append_of_le_length (by simp),List.take_of_length_le (by simp)]
  · by_cases e:x=gf
    · subst e; rw [q1,Heap.put_at]
    · rw [q2 x hx e,Heap.put_ne _ _ e]
theorem zng {st':List Val} {v:Val} (st:RL H0 H lo n gr gs gf id trip p s fs ss f va sa h ha m e) (hf:fs.length≤4096) (hs:f.stack=st' ++ [v]) (hb:st'.length≤4096) {Q:AV→Heap→Nat→Prop}
    (hq:∀ H' n' sa',n≤n'→RL H0 H' lo n' gr gs gf id trip p s fs ss { f with stack:=st' } va sa' h ha m e→Q (.agg v.avs) H' n'):za Tryd.prog 56 [.ptr gr 0] H n Q:=by
  obtain ⟨g,cs,gcs,_,hp,hg,hr⟩:=st.popAt hf hs hb
  have ap:=st.apart
  exact zkq hp ap.r ap.f hg fun H' n' hn q1 q2=>hq H' n' _ hn (hr H' n' hn q1 q2)
theorem zey (v:Val) (st:RL H0 H lo n gr gs gf id trip p s fs ss f va sa h ha m e) (hf:fs.length≤4096) (hb:f.stack.length≤4096) {Q:AV→Heap→Nat→Prop}
    (hq:∀ H' n' sa',n≤n'→RL H0 H' lo n' gr gs gf id trip p s fs ss { f with stack:=f.stack ++ [v] } va sa' h ha m e→Q (.tup []) H' n'):za Tryd.prog 54 [.ptr gr 0,.agg v.avs] H n Q:=by
  refine zix _ _ H n _ ?_
  simp [zgl]
  have st1:=st.more (H':=H.put n (some (AObj.row 3 v.avs))) (n':=n+1) (by omega) (fun g hg=>Heap.put_ne _ _ (by omega))
  refine zadv st1 hf ?_
  obtain ⟨cs,c1,c2,c3,c4,c5,c6,c7⟩:=st1.last
  have ap:=st1.apart
  have tv:v.avs.take 3=v.avs:=rfl
  have lv:v.avs.length=3:=rfl
  have fnn:gf ≠ n+1:=by have:=ap.f; omega
  have fn0:gf ≠ n:=by have:=st.apart.f; omega
  have gn1:n ≠ n+1:=by omega
  rw [Heap.put_ne _ _ fn0] at c1
  simp [zgm,c1,c7,tv,lv,fn0,fnn,gn1]
  have sa1:Slot ((H.put n (some (AObj.row 3 v.avs))).put (n+1) (some (AObj.row 3 v.avs))) 3 f.stack.length (rowV f.stack) sa:=st1.st.keep fun g hg=>Heap.put_ne _ _ (by have:=(ap.t g hg).1; omega)
  refine Slot.append (new:=v.avs) sa1 (by simp) (Heap.put_at _ _ _) rfl (List.all_eq_true.2 fun x hx=>zae (zat v x hx)) (by omega) fun rd D hD h1 h2 => ?_
  have hgf:(((H.put n (some (AObj.row 3 v.avs))).put (n+1) (some (AObj.row 3 v.avs))).apply D) gf=some (.row 4 cs):=by
    rw [h2 gf (fun h=>(ap.t _ h).2.2.2.1 rfl) (by have:=ap.f; omega),Heap.put_ne _ _ fnn,Heap.put_ne _ _ fn0]; exact c1
  have hold:∀ g,g < n→g∉own sa→(((H.put n (some (AObj.row 3 v.avs))).put (n+1) (some (AObj.row 3 v.avs))).apply D) g=H g:=fun g hg hs=>by
    rw [h2 g hs (by omega),Heap.put_ne _ _ (by omega),Heap.put_ne _ _ (by omega)]
  generalize ((H.put n (some (AObj.row 3 v.avs))).put (n+1) (some (AObj.row 3 v.avs))).apply D=HD at *
  simp [hgf]
  obtain ⟨d1,d2⟩:=zkt (u:=AV.slc (n+1+1) 0 (f.stack.length+1)) c2 (zav st.frs.1) c3 (j:=3) (by omega)
  have ap0:=st.apart
  have old:∀ g,g < n→g ≠ gf→g∉own sa→(HD.put gf (some (AObj.row 4 (List.take (fs.length*4+3) cs ++ AV.slc (n+1+1) 0 (f.stack.length+1) :: List.drop (fs.length*4+3+1) cs)))) g=H g:=fun g hg h1 hs=>by
    rw [Heap.put_ne _ _ h1]; exact hold g hg hs
  refine ⟨by omega,by omega,zbi (by simp) (hq _ _ (.slc (n+1+1) 0 (f.stack.length+1)) (by omega) (st.upd (by omega) ?_ ⟨_,Heap.put_at _ _ _,by simpa using d1,d2⟩ ?_ ?_ ?_ ?_ (fun g hg=>.inl hg) (fun g hg=>.inl hg) ?_ ?_))⟩
  · rw [old gr ap0.r ap0.rf (fun h=>(ap0.t _ h).2.1 rfl)]; exact st.run
  · exact st.sv.keep fun g hg=>old g (ap0.v g hg).1 (ap0.v g hg).2.2.2.1 (ap0.v g hg).2.2.2.2.2.2
  · refine .inr ⟨n+1+1,rowV f.stack ++ v.avs,by simp,by rw [Heap.put_ne _ _ (by have:=ap0.f; omega)]; exact h1,?_,?_⟩
    · rw [zel,List.take_of_length_le (by simp [lv]; omega)]
    · simp [lv]; omega
  · exact st.hp.keep fun g hg=>old g (ap0.h g hg).1 (ap0.h g hg).2.2.2.1 (ap0.h g hg).2.2.2.2.2.2
  · exact fun g hg _ h2 _ _ h3=>old g hg h2 h3
  · intro g hg; simp [own] at hg; subst hg; exact .inr ⟨by omega,by omega⟩
  · have := st.nd3
    simp only [List.nodup_append,List.mem_append] at this ⊢
    obtain ⟨z1,⟨z2,_,_⟩,z4⟩:=this
    refine ⟨z1,⟨z2,zpb _,?_⟩,?_⟩
    · rintro x hx y hy rfl
      simp [own] at hy
      have:=(ap0.v x hx).1; omega
    · rintro x hx y (hy | hy) rfl
      · exact z4 x hx x (.inl hy) rfl
      · simp [own] at hy
        have:=(ap0.h x hx).1; omega
end
end Go.Proofs.YtdmibdjokofclaaDoor
set_option maxRecDepth 8000
namespace Go.Proofs.YtdmibdjokofclaaDoor
open Go Go.RowKit
theorem tdm (k:Int):k=1073741825*k.tdiv 1073741825+k.tmod 1073741825∧(0≤k→0≤k.tmod 1073741825∧k.tmod 1073741825 < 1073741825∧0≤k.tdiv 1073741825) ∧
    (k≤0 → -1073741825 < k.tmod 1073741825∧k.tmod 1073741825≤0∧k.tdiv 1073741825≤0):=by
  have pos:∀ j:Int,0≤j→j=1073741825*j.tdiv 1073741825+j.tmod 1073741825∧0≤j.tmod 1073741825∧j.tmod 1073741825 < 1073741825∧0≤j.tdiv 1073741825:=by
    intro j hj
    rw [Int.tdiv_eq_ediv_of_nonneg hj,Int.tmod_eq_emod_of_nonneg hj]
    omega
  by_cases h:0≤k
  · obtain ⟨a,b,c,d⟩:=pos k h
    exact ⟨a,fun _=>⟨b,c,d⟩,fun hk=>by omega⟩
  · obtain ⟨a,b,c,d⟩:=pos (-k) (by omega)
    rw [Int.neg_tdiv,Int.neg_tmod] at *
    exact ⟨by omega,fun hk=>by omega,fun _=>by omega⟩
theorem zzr {k:Int} (h : -1073741825 < k∧k < 1073741825):k.tmod 1073741825=k:=by
  obtain ⟨h1,h2,h3⟩:=tdm k
  by_cases hk:0≤k
  · have:=h2 hk; omega
  · have:=h3 (by omega); omega
theorem zaep (n:Int):QC Tryd.prog 76 [.int .i64 n] (.agg (VM.cInt n).avs):=by
  refine QC.of' fun H nx=>zabq _ H nx _ ?_
  simp [zxv,VM.cInt,Val.avs]
theorem zabd (s:Str) (hs:s.length≤maxLen):QC Tryd.prog 55 [.str s] (.agg (VM.cText s).avs):=by
  refine QC.of' fun H nx=>zaal _ H nx _ ?_
  simp only [maxLen] at hs
  have h1:(min (s.length:Int) 60).toNat=min s.length 60:=by omega
  have h2:s.take (min s.length 60)=s.take 60:=by rw [List.take_eq_take_iff]; omega
  simp [zvb,VM.cText,Val.avs,SLS,zkz,lohi,PURE,qk,h1,h2,or_imp,forall_and]
  omega
theorem zadq (b:Bool):QC Tryd.prog 75 [.bool b] (.tup [.agg (VM.bit b).avs,.int .i64 0]):=by
  refine QC.of' fun H nx=>zyp _ H nx _ ?_
  cases b <;> simp [zsx,VM.bit,Val.avs]
end Go.Proofs.YtdmibdjokofclaaDoor
set_option maxRecDepth 8000
namespace Go.Proofs.YtdmibdjokofclaaDoor
open Go Go.RowKit
set_option maxHeartbeats 4000000 in
theorem zapu (op:Int) (a b:Val) (N M:Int) (ha:VM.wrong a N=0) (hb:VM.wrong b M=0):QC Tryd.prog 72 [.int .i64 op,.agg a.avs,.agg b.avs] (.tup [.agg (VM.two op a b).1.avs,.int .i64 (VM.two op a b).2]):=by
  have wa:=VM.wrong_ok ha
  have wb:=VM.wrong_ok hb
  obtain ⟨ka,na,sa⟩:=a
  obtain ⟨kb,nb,sb⟩:=b
  obtain ⟨a1,a2,a3,_,_,a6⟩:=wa
  obtain ⟨b1,b2,b3,_,_,b6⟩:=wb
  simp only at a1 a2 a3 a6 b1 b2 b3 b6
  refine QC.of' fun H nx=>zabp _ _ _ H nx _ ?_
  by_cases h0:op < 1∨5 < op
  · have e:VM.two op ⟨ka,na,sa⟩ ⟨kb,nb,sb⟩=(VM.vzero,1):=if_pos h0
    rw [e]
    by_cases h1:op < 1
    · simp [zkd,Val.avs]
      refine JN.same ?_
      simp [zkg,h1,zke,VM.vzero]
    · have h2:5 < op:=by omega
      simp [zkd,Val.avs]
      refine JN.same ?_
      simp [zkg,h1,h2,zke,VM.vzero]
  have h1:¬ op < 1:=by omega
  have h2:¬ 5 < op:=by omega
  simp [zkd,Val.avs]
  refine JN.same ?_
  simp [zkg,h1,h2,zke]
  refine ⟨fun h5 => ?_,fun h5 => ?_⟩
  · refine QC.call (zadq _) ?_
    have e:VM.two op ⟨ka,na,sa⟩ ⟨kb,nb,sb⟩=(VM.bit (decide (ka=kb∧na=nb∧sa=sb)),0):=by
      unfold VM.two; rw [if_neg h0,if_pos h5]; simp
    rw [e]
    have e2:(decide (ka=kb∧na=nb∧sa=sb))=(ka == kb && (na == nb && sa == sb)):=by rw [Bool.eq_iff_iff]; simp
    rw [e2]
    simp [zxu,Val.avs]
  refine JN.same ?_
  by_cases hk:ka=1∧kb=1
  · obtain ⟨rfl,rfl⟩:=hk
    simp [zkh,zkf]
    refine ⟨fun h => ?_,fun h => ?_⟩
    · subst h
      refine ⟨by omega,?_⟩
      refine QC.call (zabd _ (by simp only [maxLen,List.length_append]; omega)) ?_
      have e:VM.two 1 ⟨1,na,sa⟩ ⟨1,nb,sb⟩=(VM.cText (sa ++ sb),0):=rfl
      rw [e]
      simp [zxt,Val.avs]
    · refine JN.same ?_
      simp [zki,zfa,CALL]
      refine ⟨fun h4 => ?_,fun h4 => ?_⟩
      · subst h4
        refine QC.call (zadq _) ?_
        have e:VM.two 4 ⟨1,na,sa⟩ ⟨1,nb,sb⟩=(VM.bit (Op.bytesLess sa sb),0):=rfl
        rw [e]
        simp [zxs,Val.avs]
      · have e:VM.two op ⟨1,na,sa⟩ ⟨1,nb,sb⟩=(VM.vzero,11):=by
          unfold VM.two; rw [if_neg h0,if_neg h5,if_neg (by simp [h]),if_neg (by simp [h4]),if_pos (by simp)]
        rw [e]
        simp [VM.vzero]
  have e1:VM.two op ⟨ka,na,sa⟩ ⟨kb,nb,sb⟩=if ka ≠ 0∨kb ≠ 0 then (VM.vzero,11) else if op=1 then (VM.cInt (na+nb),0) else if op=2 then (VM.cInt (na - nb),0) else if op=3 then (VM.cInt (na*nb),0) else (VM.bit (decide (na < nb)),0):=by
    unfold VM.two; rw [if_neg h0,if_neg h5,if_neg (fun h=>hk h.1),if_neg (fun h=>hk h.1)]
  generalize VM.two op ⟨ka,na,sa⟩ ⟨kb,nb,sb⟩=r at *
  have fin : ∀ H2:Heap,H2 nx=some (.row 3 [.int .i64 ka,.int .i64 na,.str sa])→H2 (nx+1)=some (.row 3 [.int .i64 kb,.int .i64 nb,.str sb])→H2 (nx+2)=some (.row 3 [.int .i64 0,.int .i64 0,.str []])→Keep nx H2 H →
      zfa (fun v H' _=>Frz H' nx v (.tup [.agg r.1.avs,.int .i64 r.2])∧Keep nx H' H)
        [.int .i64 op,.ptr nx 0,.ptr (nx+1) 0,.ptr (nx+2) 0,.clo 75 [],.bool false] H2 (nx+3):=by
    intro H2 g1 g2 g3 hK
    rw [e1]
    by_cases hka:ka=0
    · by_cases hkb:kb=0
      · obtain ⟨p1,p2⟩:=a2 hka
        obtain ⟨q1,q2⟩:=b2 hkb
        subst hka hkb
        have hmul : -1152921504606846976≤na*nb∧na*nb≤1152921504606846976:=by
          have m1:na*nb≤1073741824*1073741824:=by
            rcases Int.le_total 0 na with h | h <;> rcases Int.le_total 0 nb with h' | h'
            · exact Int.mul_le_mul p2 q2 h' (by omega)
            · have:=Int.mul_nonpos_of_nonneg_of_nonpos h h'; omega
            · have:=Int.mul_nonpos_of_nonpos_of_nonneg h h'; omega
            · have:(-na)*(-nb)≤1073741824*1073741824:=Int.mul_le_mul (by omega) (by omega) (by omega) (by omega)
              rwa [Int.neg_mul_neg] at this
          have m2 : -(na*nb)≤1073741824*1073741824:=by
            rcases Int.le_total 0 na with h | h <;> rcases Int.le_total 0 nb with h' | h'
            · have:=Int.mul_nonneg h h'; omega
            · have:na*(-nb)≤1073741824*1073741824:=Int.mul_le_mul (by omega) (by omega) (by omega) (by omega)
              rwa [Int.mul_neg] at this
            · have:(-na)*nb≤1073741824*1073741824:=Int.mul_le_mul (by omega) (by omega) (by omega) (by omega)
              rwa [Int.neg_mul] at this
            · have:=Int.mul_nonneg_of_nonpos_of_nonpos h h'; omega
          omega
        have w1:IntKind.i64.wrap (na+nb)=na+nb:=i64w (by omega)
        have w2:IntKind.i64.wrap (na - nb)=na - nb:=i64w (by omega)
        have w3:IntKind.i64.wrap (na*nb)=na*nb:=i64w (by omega)
        simp [zfa,g1,g2,w1,w2,w3,CALL]
        refine ⟨fun h => ?_,fun h=>⟨fun h' => ?_,fun h'=>⟨fun h'' => ?_,fun h'' => ?_⟩⟩⟩
        · refine QC.call (zaep _) ?_
          simp [zxr,g3,Val.avs,h,hK,Keep.put]
        · refine QC.call (zaep _) ?_
          simp [zxq,g3,Val.avs,h,h',hK,Keep.put]
        · refine QC.call (zaep _) ?_
          simp [zxp,g3,Val.avs,h,h',h'',hK,Keep.put]
        · refine QC.call (zadq _) ?_
          simp [zxo,g3,Val.avs,h,h',h'',hK,Keep.put]
      · simp [zfa,g1,g2,g3,hka,hkb,VM.vzero,hK,Keep.put,Val.avs]
    · simp [zfa,g1,g2,g3,hka,VM.vzero,hK,Keep.put,Val.avs]
  by_cases hka:ka=1
  · have hkb:¬ kb=1:=fun h=>hk ⟨hka,h⟩
    simp [zkh,zkf,hka,hkb]
    refine JN.same ?_
    simp [zki,hka,hkb]
    exact fin _ (by simp [hka]) (by simp) (by simp) (by simp)
  · simp [zkh,zkf,hka]
    refine JN.same ?_
    simp [zki,hka]
    exact fin _ (by simp) (by simp) (by simp) (by simp)
end Go.Proofs.YtdmibdjokofclaaDoor
set_option maxRecDepth 8000
namespace Go.Proofs.YtdmibdjokofclaaDoor
open Go Go.RowKit
section
variable {H0 H:Heap} {lo n gr gs gf:Nat} {id trip:Int} {p:Prg} {s:Spt} {fs:List Frm} {ss:List (AV×AV)} {f:Frm} {va sa:AV} {h:List Cl} {ha:AV} {m:Pmt} {e:Evt}
theorem RL.temp (st:RL H0 H lo n gr gs gf id trip p s fs ss f va sa h ha m e) (o:Option AObj):RL H0 (H.put n o) lo (n+1) gr gs gf id trip p s fs ss f va sa h ha m e:=st.more (by omega) fun g hg=>Heap.put_ne _ _ (by omega)
@[simp] theorem zays (v:Val):v.avs[0]? = some (.int .i64 v.kind):=rfl
@[simp] theorem zayr (v:Val):v.avs[1]? = some (.int .i64 v.n):=rfl
@[simp] theorem zayq (v:Val):v.avs[2]? = some (.str v.text):=rfl
@[simp] theorem zayp (v:Val):v.avs.take 3=v.avs:=rfl
theorem zah (v:Val):∀ x∈v.avs,x.one=true:=fun x hx=>zae (zat v x hx)
set_option maxHeartbeats 1000000 in
theorem zapi {st':List Val} {v:Val} (st:RL H0 H lo n gr gs gf id trip p s fs ss f va sa h ha m e) (hf:fs.length≤4096) (hs:f.stack=st' ++ [v]) (hb:st'.length≤4095) (hm:0≤m.hops∧m.hops≤12) {Q:AV→Heap→Nat→Prop}
    (h1:v.kind ≠ 1→∀ H' n' sa',n≤n'→RL H0 H' lo n' gr gs gf id trip p s fs ss { f with stack:=st' } va sa' h ha m (VM.dead 11)→Q (.tup []) H' n')
    (h2:v.kind=1→m.hops=0→∀ H' n' sa',n≤n'→RL H0 H' lo n' gr gs gf id trip p s fs ss { f with stack:=st' ++ [VM.vzero] } va sa' h ha m e→Q (.tup []) H' n')
    (h3:v.kind=1→m.hops ≠ 0→∀ H' n' sa',n≤n'→RL H0 H' lo n' gr gs gf id trip p s fs ss { f with stack:=st' } va sa' h ha { m with hops:=m.hops - 1 } ⟨3,v.text,0⟩→Q (.tup []) H' n') :
    za Tryd.prog 62 [.ptr gr 0] H n Q:=by
  refine zra _ H n _ ?_
  unfold zlt
  refine zng st hf hs (by omega) fun H1 n1 sa1 hn1 st1 => ?_
  have st2:=st1.temp (some (.row 3 v.avs))
  have ap:=st2.apart
  have hr:=st2.run
  have lv:v.avs.length=3:=rfl
  have rn:gr ≠ n1:=by have:=st1.apart.r; omega
  rw [Heap.put_ne _ _ rn] at hr
  by_cases hk:v.kind=1
  · by_cases hh:m.hops=0
    · simp [zdt,hr,zf,hk,rn,hh]
      refine ⟨zah v,?_⟩
      exact zey VM.vzero st2 hf (by simp only; omega) fun H' n' sa' hn st3=>h2 hk hh H' n' sa' (by omega) st3
    · simp [zdt,hr,zf,hk,rn,hh,rn.symm]
      rw [i64w (by omega)]
      refine ⟨zah v,?_⟩
      exact h3 hk hh _ _ _ (by omega) (st2.setrun { m with hops:=m.hops - 1 } ⟨3,v.text,0⟩)
  · simp [zdt,hr,zf,hk,rn]
    refine ⟨zah v,?_⟩
    exact zjy st2 11 fun H' st3=>h1 hk H' _ _ (by omega) st3
theorem zant (x:Fct) (l:List Fct) (k:Str):VM.ask (x :: l) k=if x.key=k then x.val else VM.ask l k:=by
  unfold VM.ask
  by_cases h:x.key=k
  · simp [h]
  · simp [h]
def Fct.avs (x:Fct):List AV:=.str x.key :: x.val.avs
set_option maxHeartbeats 1000000 in
theorem zaqt {st':List Val} {v:Val} (st:RL H0 H lo n gr gs gf id trip p s fs ss f va sa h ha m e) (hf:fs.length≤4096) (hs:f.stack=st' ++ [v]) (hb:st'.length≤4095) (hl:s.facts.length≤4611686018427387903) {Q:AV→Heap→Nat→Prop}
    (h1:v.kind ≠ 1→∀ H' n' sa',n≤n'→RL H0 H' lo n' gr gs gf id trip p s fs ss { f with stack:=st' } va sa' h ha m (VM.dead 11)→Q (.tup []) H' n')
    (h2:v.kind=1→∀ H' n' sa',n≤n'→RL H0 H' lo n' gr gs gf id trip p s fs ss { f with stack:=st' ++ [VM.ask s.facts v.text] } va sa' h ha m e→Q (.tup []) H' n') :
    za Tryd.prog 61 [.ptr gr 0] H n Q:=by
  refine ztk _ H n _ ?_
  unfold zna
  refine zng st hf hs (by omega) fun H1 n1 sa1 hn1 st1 => ?_
  have st2:=st1.temp (some (.row 3 v.avs))
  have ap:=st2.apart
  have hr:=st2.run
  have hsp:=st2.spot
  have rn:gr ≠ n1:=by have:=st1.apart.r; omega
  have sn:gs ≠ n1:=by have:=st1.apart.s; omega
  rw [Heap.put_ne _ _ rn] at hr
  rw [Heap.put_ne _ _ sn] at hsp
  by_cases hk:v.kind=1
  case neg =>
    simp [zho,hr,zf,hk,rn]
    refine ⟨zah v,?_⟩
    exact zjy st2 11 fun H' st3=>h1 hk H' _ _ (by omega) st3
  simp [zho,hr,zf,hk,rn,hsp,sn,Spt.avs]
  refine ⟨zah v,?_⟩
  refine LP.mk (fun k xs H' n'=>∃ i:Nat,k=s.facts.length - i∧i≤s.facts.length∧n1+1≤n'∧xs=[.ptr gr 0,.ptr n1 0,.ro (s.facts.map Fct.avs),.int .i64 s.facts.length,.int .i64 i]∧H' n1=some (.row 3 v.avs)∧RL H0 H' lo n' gr gs gf id trip p s fs ss { f with stack:=st' } va sa1 h ha m e ∧
    VM.ask (s.facts.drop i) v.text=VM.ask s.facts v.text) s.facts.length ⟨0,by omega,by omega,Nat.le_refl _,by simp; intro a _; rfl,Heap.put_at _ _ _,st2,by simp⟩ ?_
  rintro k xs H' n' ⟨i,rfl,hi,hn',rfl,hv,st3,hask⟩
  by_cases hil:i < s.facts.length
  · have hdrop:s.facts.drop i=s.facts[i] :: s.facts.drop (i+1):=List.drop_eq_getElem_cons hil
    rw [hdrop,zant] at hask
    have nn:n1 ≠ n':=by omega
    have st4:=st3.temp (some (.row 4 (AV.str s.facts[i].key :: s.facts[i].val.avs)))
    by_cases hkey:s.facts[i].key=v.text
    · rw [if_pos hkey] at hask
      simp [zet,hil,Fct.avs,nn,hv]
      have hz:(AV.str s.facts[i].key :: s.facts[i].val.avs)[0]? = some (.str s.facts[i].key):=rfl
      rw [hz]
      simp [hkey]
      rw [hkey] at st4
      refine ⟨zah _,?_⟩
      exact zey s.facts[i].val st4 hf (by simp only; omega) fun H5 n5 sa5 hn5 st5=>h2 hk H5 n5 sa5 (by omega) (by rw [← hask]; exact st5)
    · rw [if_neg hkey] at hask
      have hbb:@BEq.beq _ instBEqOfDecidableEq s.facts[i].key v.text=false:=by simp [hkey]
      simp [zet,hil,Fct.avs,nn,hv]
      have hz:(AV.str s.facts[i].key :: s.facts[i].val.avs)[0]? = some (.str s.facts[i].key):=rfl
      rw [hz]
      simp [hkey]
      rw [i64w (by omega)]
      exact ⟨zah _,s.facts.length - (i+1),by omega,i+1,rfl,by omega,by omega,by simp,st4,hask⟩
  · obtain rfl:i=s.facts.length:=by omega
    rw [List.drop_length] at hask
    have hz:VM.ask s.facts v.text=VM.vzero:=by rw [← hask]; rfl
    simp [zet]
    exact zey VM.vzero st3 hf (by simp only; omega) fun H5 n5 sa5 hn5 st5=>h2 hk H5 n5 sa5 (by omega) (by rw [hz]; exact st5)
set_option maxHeartbeats 1000000 in
theorem zabo {st':List Val} {v:Val} (st:RL H0 H lo n gr gs gf id trip p s fs ss f va sa h ha m e) (hf:fs.length≤4096) (hs:f.stack=st' ++ [v]) (hb:st'.length≤4095) (hv:VM.WrongOk v h.length) {Q:AV→Heap→Nat→Prop}
    (h1:v.kind ≠ 2→∀ H' n' sa',n≤n'→RL H0 H' lo n' gr gs gf id trip p s fs ss { f with stack:=st' } va sa' h ha m (VM.dead 11)→Q .nilp H' n')
    (h2:v.kind=2→∀ H' n' sa' g cs,n≤n'→(∀ x,x < n→x∉[gr,gf]→H' x=H x)→RL H0 H' lo n' gr gs gf id trip p s fs ss { f with stack:=st' } va sa' h ha m e→ha=.slc g 0 h.length→H' g=some (.row 6 cs)→cs.take (h.length*6)=rowC h→h.length*6≤cs.length→Q (.ptr g (v.n.toNat*6)) H' n') :
    za Tryd.prog 59 [.ptr gr 0] H n Q:=by
  refine zrc _ H n _ ?_
  unfold zlv
  obtain ⟨g0,cs0,gcs0,_,hp,hg0,hr0⟩:=st.popAt hf hs (by omega)
  refine zkq hp st.apart.r st.apart.f hg0 fun H1 n1 hn1 q1 q2 => ?_
  have st1:=hr0 H1 n1 hn1 q1 q2
  have st2:=st1.temp (some (.row 3 v.avs))
  have hr:=st2.run
  have rn:gr ≠ n1:=by have:=st1.apart.r; omega
  rw [Heap.put_ne _ _ rn] at hr
  have old:∀ x,x < n→x∉[gr,gf]→(H1.put n1 (some (.row 3 v.avs))) x=H x:=fun x hx hm=>by
    simp at hm
    rw [Heap.put_ne _ _ (by omega),q2 x hx hm.2]
  by_cases hk:v.kind=2
  case neg =>
    simp [zgo,hr,zf,hk,rn]
    refine ⟨zah v,?_⟩
    exact zjy st2 11 fun H' st3=>h1 hk H' _ _ (by omega) st3
  obtain ⟨c1,c2⟩:=hv.cell hk
  rcases st2.hp with ⟨h0,_⟩ | ⟨g,cs,rfl,g1,g2,g3⟩
  · omega
  have hw:v.n < (h.length:Int):=c2
  simp [zgo,hr,zf,hk,rn]
  exact ⟨zah v,c1,c2,h2 hk _ _ _ g cs (by omega) old st2 rfl g1 g2 g3⟩
end
end Go.Proofs.YtdmibdjokofclaaDoor
set_option maxRecDepth 8000
namespace Go.Proofs.YtdmibdjokofclaaDoor
open Go Go.RowKit
section
variable {H0 H:Heap} {lo n gr gs gf:Nat} {id trip:Int} {p:Prg} {s:Spt} {fs:List Frm} {ss:List (AV×AV)} {f:Frm} {va sa:AV} {h:List Cl} {ha:AV} {m:Pmt} {e:Evt}
theorem RL.sethp (st:RL H0 H lo n gr gs gf id trip p s fs ss f va sa h ha m e) {h':List Cl} {g:Nat} {c:Option AObj} (hg:own ha=[g]) (hs:Slot (H.put g c) 6 h'.length (rowC h') ha):RL H0 (H.put g c) lo n gr gs gf id trip p s fs ss f va sa h' ha m e:=by
  have ap:=st.apart
  obtain ⟨a1,a2,a3,a4,a5,a6,a7⟩:=ap.h g (by simp [hg])
  obtain ⟨cs,c1,c2⟩:=st.fr
  have hk:∀ x,x ≠ g→(H.put g c) x=H x:=fun x hx=>Heap.put_ne _ _ hx
  exact st.upd (Nat.le_refl _) (by rw [hk _ (Ne.symm a2)]; exact st.run) ⟨cs,by rw [hk _ (Ne.symm a4)]; exact c1,c2⟩ (st.sv.keep fun x hx=>hk x fun e=>a6 (e ▸ hx)) (st.st.keep fun x hx=>hk x fun e=>a7 (e ▸ hx)) hs (fun x _ _ _ hx _ _=>hk x fun e=>hx (by rw [hg,e]; simp)) (fun g hg=>.inl hg) (fun g hg=>.inl hg) (fun g hg=>.inl hg) st.nd3
theorem zaee (a b:List Cl):rowC (a ++ b)=rowC a ++ rowC b:=by simp [rowC]
theorem zajv {cs:List AV} {h:List Cl} {i j:Nat} {v:Val} {c c':Cl} (h1:cs.take (h.length*6)=rowC h) (h2:h.length*6≤cs.length) (hi:h[i]? = some c) (hj:(j=0∧c'=⟨v,c.right⟩)∨(j=3∧c'=⟨c.left,v⟩)) :
    (cs.take (i*6+j) ++ (v.avs ++ cs.drop (i*6+j+3))).take ((h.set i c').length*6)=rowC (h.set i c')∧(h.set i c').length*6≤(cs.take (i*6+j) ++ (v.avs ++ cs.drop (i*6+j+3))).length:=by
  obtain ⟨hlt,hc⟩:=List.getElem?_eq_some_iff.1 hi
  have e1:h.set i c'=h.take i ++ c' :: h.drop (i+1):=by rw [List.set_eq_take_append_cons_drop,if_pos hlt]
  have e0:rowC h=rowC (h.take i) ++ (c.left.avs ++ (c.right.avs ++ rowC (h.drop (i+1)))):=by
    have:h=h.take i ++ (c :: h.drop (i+1)):=by rw [← hc,← List.drop_eq_getElem_cons hlt,List.take_append_drop]
    conv=>lhs; rw [this]
    rw [zaee,zacn]
    simp [Cl.avs]
  have ecs:cs=rowC (h.take i) ++ (c.left.avs ++ (c.right.avs ++ (rowC (h.drop (i+1)) ++ cs.drop (h.length*6)))):=by
    conv=>lhs; rw [← List.take_append_drop (h.length*6) cs]
    rw [h1,e0]; simp
  have lp:(rowC (h.take i)).length=i*6:=by simp; omega
  have ls:(rowC (h.drop (i+1))).length=(h.length - (i+1))*6:=by simp
  have ll:c.left.avs.length=3:=rfl
  have lr:c.right.avs.length=3:=rfl
  have lv:v.avs.length=3:=rfl
  generalize cs.drop (h.length*6)=T at ecs
  generalize hP:rowC (h.take i)=P at *
  generalize hS:rowC (h.drop (i+1))=S at *
  rw [List.length_set,e1,zaee,zacn,hP,hS]
  have fin:∀ X:List AV,X.length=h.length*6→(X ++ T).take (h.length*6)=X∧h.length*6≤(X ++ T).length:=fun X hX=>⟨by rw [← hX,List.take_left],by simp [hX]⟩
  rcases hj with ⟨rfl,rfl⟩ | ⟨rfl,rfl⟩
  · have t1:cs.take (i*6+0)=P:=by rw [ecs,← lp,Nat.add_zero,List.take_left]
    have t2:cs.drop (i*6+0+3)=c.right.avs ++ (S ++ T):=by
      rw [ecs,← List.append_assoc]
      have:i*6+0+3=(P ++ c.left.avs).length:=by simp [lp,ll]
      rw [this,List.drop_left]
    rw [t1,t2]
    have:=fin (P ++ (v.avs ++ (c.right.avs ++ S))) (by simp [lp,ls,lv,lr]; omega)
    simpa [Cl.avs] using this
  · have t1:cs.take (i*6+3)=P ++ c.left.avs:=by
      rw [ecs,← List.append_assoc]
      have:i*6+3=(P ++ c.left.avs).length:=by simp [lp,ll]
      rw [this,List.take_left]
    have t2:cs.drop (i*6+3+3)=S ++ T:=by
      have e:P ++ (c.left.avs ++ (c.right.avs ++ (S ++ T)))=(P ++ (c.left.avs ++ c.right.avs)) ++ (S ++ T):=by simp
      rw [ecs,e]
      have:i*6+3+3=(P ++ (c.left.avs ++ c.right.avs)).length:=by simp [lp,ll,lr]
      rw [this,List.drop_left]
    rw [t1,t2]
    have:=fin (P ++ (c.left.avs ++ (v.avs ++ S))) (by simp [lp,ls,lv,ll]; omega)
    simpa [Cl.avs] using this
@[simp ↓] theorem zaxw {g o:Nat} {k:AV→Prop}:BP .eql (.ptr g o) .nilp k=k (.bool false):=rfl
set_option maxHeartbeats 1000000 in
theorem zajn {st':List Val} {x y:Val} (st:RL H0 H lo n gr gs gf id trip p s fs ss f va sa h ha m e) (hf:fs.length≤4096) (hs:f.stack=st' ++ [y,x]) (hb:st'.length≤4094) (hv:VM.WrongOk y h.length) (left:Bool) {Q:AV→Heap→Nat→Prop}
    (h1:y.kind ≠ 2→∀ H' n' sa',n≤n'→RL H0 H' lo n' gr gs gf id trip p s fs ss { f with stack:=st' } va sa' h ha m (VM.dead 11)→Q (.tup []) H' n')
    (h2:y.kind=2→∀ H' n' sa',n≤n'→RL H0 H' lo n' gr gs gf id trip p s fs ss { f with stack:=st' } va sa' (h.set y.n.toNat (bif left then { h.getD y.n.toNat VM.cl0 with left:=x } else { h.getD y.n.toNat VM.cl0 with right:=x })) ha m e→Q (.tup []) H' n') :
    za Tryd.prog 60 [.ptr gr 0,.bool left] H n Q:=by
  refine zti _ _ H n _ ?_
  unfold zmw
  refine zng (st':=st' ++ [y]) st hf (by simpa using hs) (by simp; omega) fun H1 n1 sa1 hn1 st1 => ?_
  have st2:=st1.temp (some (.row 3 x.avs))
  have rn:gr < n1+1:=st2.apart.r
  have fn:gf < n1:=st1.apart.f
  have rn1:gr < n1:=st1.apart.r
  simp [zmx]
  refine ⟨zah x,?_⟩
  refine zabo (st':=st') st2 hf rfl (by omega) hv (fun hk H' n' sa' hn st3 => ?_) (fun hk H' n' sa' g cs hn old st3 hha g1 g2 g3 => ?_)
  · simp [zes]
    exact h1 hk H' n' sa' (by omega) st3
  · have hold:H' n1=some (.row 3 x.avs):=by rw [old n1 (by omega) (by simp; omega),Heap.put_at]
    obtain ⟨c1,c2⟩:=hv.cell hk
    have hlt:y.n.toNat < h.length:=by omega
    have hget:h[y.n.toNat]? = some h[y.n.toNat]:=List.getElem?_eq_getElem hlt
    have hgd:h.getD y.n.toNat VM.cl0=h[y.n.toNat]:=by rw [List.getD_eq_getElem?_getD,hget]; rfl
    rw [hgd] at h2
    subst hha
    cases left with
    | true =>
      simp [zes,hold,g1]
      obtain ⟨d1,d2⟩:=zajv (j:=0) (v:=x) g2 g3 hget (.inl ⟨rfl,rfl⟩)
      exact ⟨by omega,zah x,h2 hk _ _ sa' (by omega) (st3.sethp (by simp [own]) (.inr ⟨g,_,by simp,Heap.put_at _ _ _,d1,d2⟩))⟩
    | false =>
      simp [zes,hold,g1]
      obtain ⟨d1,d2⟩:=zajv (j:=3) (v:=x) g2 g3 hget (.inr ⟨rfl,rfl⟩)
      exact ⟨by omega,zah x,h2 hk _ _ sa' (by omega) (st3.sethp (by simp [own]) (.inr ⟨g,_,by simp,Heap.put_at _ _ _,d1,d2⟩))⟩
end
end Go.Proofs.YtdmibdjokofclaaDoor
set_option maxRecDepth 8000
namespace Go.Proofs.YtdmibdjokofclaaDoor
open Go Go.RowKit
section
variable {H0 H:Heap} {lo n gr gs gf:Nat} {id trip:Int} {p:Prg} {s:Spt} {fs:List Frm} {ss:List (AV×AV)} {f:Frm} {va sa:AV} {h:List Cl} {ha:AV} {m:Pmt} {e:Evt}
set_option maxHeartbeats 1000000 in
theorem zapv {st':List Val} {x y:Val} (op:Int) (st:RL H0 H lo n gr gs gf id trip p s fs ss f va sa h ha m e) (hf:fs.length≤4096) (hs:f.stack=st' ++ [y,x]) (hb:st'.length≤4094) (hx:VM.WrongOk x h.length) (hy:VM.WrongOk y h.length) {Q:AV→Heap→Nat→Prop}
    (h1:(VM.two op y x).2 ≠ 0→∀ H' n' sa',n≤n'→RL H0 H' lo n' gr gs gf id trip p s fs ss { f with stack:=st' } va sa' h ha m (VM.dead (VM.two op y x).2)→Q (.tup []) H' n')
    (h2:(VM.two op y x).2=0→∀ H' n' sa',n≤n'→RL H0 H' lo n' gr gs gf id trip p s fs ss { f with stack:=st' ++ [(VM.two op y x).1] } va sa' h ha m e→Q (.tup []) H' n') :
    za Tryd.prog 57 [.ptr gr 0,.int .i64 op] H n Q:=by
  refine zth _ _ H n _ ?_
  unfold zms
  refine zng (st':=st' ++ [y]) st hf (by simpa using hs) (by simp; omega) fun H1 n1 sa1 hn1 st1 => ?_
  have st2:=st1.temp (some (.row 3 x.avs))
  simp [zmt]
  refine ⟨zah x,?_⟩
  obtain ⟨g,cs,gcs,_,hp,hg,hr⟩:=st2.popAt (st':=st') hf rfl (by omega)
  refine zo.pop hp ?_
  have fn1:gf ≠ n1:=by have:=st1.apart.f; omega
  have rn1:gr ≠ n1:=by have:=st1.apart.r; omega
  simp [zmu,fn1,fn1.symm]
  refine zo.of_qc (zapu op y x h.length h.length (VM.ok_wrong hy) (VM.ok_wrong hx)) (.tup _ fun j v hv => ?_) ?_
  · match j,hv with
    | 0,hv=>cases hv; exact zfo _
    | 1,hv=>cases hv; exact .int _ _
  simp [zmv,fn1]
  have ap:=st1.apart
  have st3:=hr ((H1.put n1 (some (AObj.row 3 x.avs))).put gf (some (AObj.row 4 (zjc cs fs.length g st'.length)))) (n1+1) (Nat.le_refl _) (Heap.put_at _ _ _) (fun x _ hx=>Heap.put_ne _ _ hx)
  have st4:=st3.temp (some (.row 3 (VM.two op y x).1.avs))
  refine ⟨zah _,by have:=ap.f; omega,⟨by have:=ap.r; omega,by have:=ap.f; omega,by omega⟩,fun hne => ?_,fun he => ?_⟩
  · exact zjy st4 _ fun H' st5=>h1 hne H' _ _ (by omega) st5
  · exact zey _ st4 hf (by simp only; omega) fun H' n' sa' hn st5=>h2 he H' n' sa' (by omega) st5
theorem RL.newhp (st:RL H0 H lo n gr gs gf id trip p s fs ss f va sa h ha m e) {H':Heap} {n' g:Nat} {h':List Cl} (hn:n≤n') (hg:n≤g∧g < n') (hr:H' gr=some (.row 13 (zf id trip p (.slc gf 0 (fs.length+1)) (.slc g 0 h'.length) m gs e))) (h1:H' g=some (.row 6 (rowC h'))) (hk:∀ x,x < n→x ≠ gr→x∉own ha→H' x=H x) :
    RL H0 H' lo n' gr gs gf id trip p s fs ss f va sa h' (.slc g 0 h'.length) m e:=by
  have ap:=st.apart
  obtain ⟨cs,c1,c2⟩:=st.fr
  refine st.upd hn hr ⟨cs,by rw [hk _ ap.f ap.rf.symm (fun hx=>(ap.h _ hx).2.2.2.1 rfl)]; exact c1,c2⟩ (st.sv.keep fun x hx=>hk x (ap.v x hx).1 (ap.v x hx).2.1 (ap.v x hx).2.2.2.2.1) (st.st.keep fun x hx=>hk x (ap.t x hx).1 (ap.t x hx).2.1 (ap.t x hx).2.2.2.2.1)
    (.inr ⟨g,rowC h',rfl,h1,List.take_of_length_le (by simp),by simp⟩) (fun x h1 h2 _ h3 _ _=>hk x h1 h2 h3) (fun x hx => ?_) (fun g hg=>.inl hg) (fun g hg=>.inl hg) ?_
  · simp [own] at hx; subst hx; exact .inr hg
  · have:=st.nd3
    simp only [List.nodup_append,List.mem_append] at this ⊢
    obtain ⟨z1,⟨z2,z3,z4⟩,z5⟩:=this
    refine ⟨zpb _,⟨z2,z3,z4⟩,?_⟩
    rintro x hx y (hy | hy) rfl
    · simp [own] at hx; have:=(ap.v x hy).1; omega
    · simp [own] at hx; have:=(ap.t x hy).1; omega
set_option maxHeartbeats 1000000 in
theorem zaph {st':List Val} {x y:Val} (st:RL H0 H lo n gr gs gf id trip p s fs ss f va sa h ha m e) (hf:fs.length≤4096) (hs:f.stack=st' ++ [y,x]) (hb:st'.length≤4094) (hr0:0≤m.room∧m.room≤60) (hh:h.length≤4096) {Q:AV→Heap→Nat→Prop}
    (h1:m.room=0→∀ H' n' sa',n≤n'→RL H0 H' lo n' gr gs gf id trip p s fs ss { f with stack:=st' } va sa' h ha m (VM.dead 13)→Q (.tup []) H' n')
    (h2:m.room ≠ 0→∀ H' n' sa' ha',n≤n'→RL H0 H' lo n' gr gs gf id trip p s fs ss { f with stack:=st' ++ [⟨2,h.length,[]⟩] } va sa' (h ++ [⟨y,x⟩]) ha' { m with room:=m.room - 1 } e→Q (.tup []) H' n') :
    za Tryd.prog 58 [.ptr gr 0] H n Q:=by
  refine zqz _ H n _ ?_
  unfold zlr
  refine zng (st':=st' ++ [y]) st hf (by simpa using hs) (by simp; omega) fun H1 n1 sa1 hn1 st1 => ?_
  have st2:=st1.temp (some (.row 3 x.avs))
  simp [zls]
  refine ⟨zah x,?_⟩
  obtain ⟨g,cs,gcs,_,hp,hg,hr⟩:=st2.popAt (st':=st') hf rfl (by omega)
  have ap2:=st2.apart
  refine zkq hp ap2.r ap2.f hg fun H3 n3 hn3 q1 q2 => ?_
  have st3:=hr H3 n3 hn3 q1 q2
  have hxx:H3 n1=some (.row 3 x.avs):=by rw [q2 n1 (by omega) (by have:=st1.apart.f; omega),Heap.put_at]
  have st4:=st3.temp (some (.row 3 y.avs))
  have ap3:=st3.apart
  have rn:gr ≠ n3:=by have:=ap3.r; omega
  have rn1:gr ≠ n3+1:=by have:=ap3.r; omega
  have xn:n1 ≠ n3:=by omega
  have xn1:n1 ≠ n3+1:=by omega
  have xr:n1 ≠ gr:=by have:=st1.apart.r; omega
  have hrun:=st3.run
  by_cases hm:m.room=0
  · simp [zgn,hrun,zf,rn,hm]
    refine ⟨zah y,?_⟩
    exact zjy st4 13 fun H' st5=>h1 hm H' _ _ (by omega) st5
  · have hw:IntKind.i64.wrap (m.room - 1)=m.room - 1:=i64w (by omega)
    have ty:List.take 3 (y.avs ++ [AV.int IntKind.i64 0,AV.int IntKind.i64 0,AV.str []])=y.avs:=rfl
    have ty2:List.drop 6 (y.avs ++ [AV.int IntKind.i64 0,AV.int IntKind.i64 0,AV.str []])=[]:=rfl
    simp [zgn,hrun,zf,rn,hm,hw,hxx,xn,xr,rn.symm,ty,ty2]
    refine ⟨zah y,?_⟩
    have st5:=(st4.setrun { m with room:=m.room - 1 } e).temp (some (.row 6 (y.avs ++ x.avs)))
    simp only [zf] at st5
    generalize hX:((H3.put n3 (some (AObj.row 3 y.avs))).put gr _).put (n3+1) (some (AObj.row 6 (y.avs ++ x.avs)))=X at *
    have ap5:=st5.apart
    refine Slot.append (new:=y.avs ++ x.avs) st5.hp (by simp) (by rw [← hX,Heap.put_at]) rfl (List.all_eq_true.2 fun z hz=>(List.mem_append.1 hz).elim (zah y z) (zah x z)) (by omega) fun rd D hD q3 q4 => ?_
    have hgr:=(q4 gr (fun hx=>(ap5.h _ hx).2.1 rfl) (by have:=ap3.r; omega)).trans st5.run
    have hold:∀ x,x < n3+2→x∉own ha→(X.apply D) x=X x:=fun x h1 h2=>q4 x h2 (by omega)
    generalize X.apply D=HD at *
    simp [hgr,zf]
    have hw2:IntKind.i64.wrap (h.length:Int)=h.length:=i64w (by omega)
    simp [hw2]
    refine ⟨by have:=ap3.r; omega,zbi (by simp) ?_⟩
    have hc:rowC h ++ (y.avs ++ x.avs)=rowC (h ++ [⟨y,x⟩]):=by rw [zun]; rfl
    have st6:=st5.newhp (h':=h ++ [⟨y,x⟩]) (g:=n3+2) (n':=n3+2+1) (H':=HD.put gr (some (AObj.row 13 (zf id trip p (AV.slc gf 0 (fs.length+1)) (.slc (n3+2) 0 (h.length+1)) { m with room:=m.room - 1 } gs e)))) (by omega) (by omega) (by rw [Heap.put_at]; simp) (by rw [Heap.put_ne _ _ (by have:=ap3.r; omega),q3,hc]) fun x h1 h2 h3=>by
      rw [Heap.put_ne _ _ h2]; exact hold x h1 h3
    exact zey ⟨2,h.length,[]⟩ st6 hf (by simp only; omega) fun H' n' sa' hn st7=>h2 hm H' n' sa' _ (by omega) st7
end
end Go.Proofs.YtdmibdjokofclaaDoor
set_option maxRecDepth 8000
namespace Go.Proofs.YtdmibdjokofclaaDoor
open Go Go.RowKit
section
variable {H0 H:Heap} {lo n gr gs gf:Nat} {id trip:Int} {p:Prg} {s:Spt} {fs:List Frm} {ss:List (AV×AV)} {f:Frm} {va sa:AV} {h:List Cl} {ha:AV} {m:Pmt} {e:Evt}
theorem RL.call (st:RL H0 H lo n gr gs gf id trip p s fs ss f va sa h ha m e) {H':Heap} {n' gv gf' N:Nat} {f2 f3:Frm} {sa2:AV} (hn:n≤n') (hv:n≤gv∧gv < n') (hg:n≤gf'∧gf' < n') (hne:gv ≠ gf')
    (run':H' gr=some (.row 13 (zf id trip p (.slc gf' 0 (fs.length+1+1)) ha m gs e))) (fr':∃ cs,H' gf'=some (.row 4 cs)∧cs.take ((fs.length+1+1)*4)=frow (fs ++ [f2]) (ss ++ [(va,sa2)]) ++ [.int .i64 f3.fn,.int .i64 f3.at_,.slc gv 0 N,.nils]∧(fs.length+1+1)*4≤cs.length)
    (hvars:f2.vars=f.vars) (sa2':Slot H' 3 f2.stack.length (rowV f2.stack) sa2) (own2:own sa2=own sa) (sv':Slot H' 3 f3.vars.length (rowV f3.vars) (.slc gv 0 N)) (st3:f3.stack=[])
    (hk:∀ x,x < n→x ≠ gr→x ≠ gf→H' x=H x):RL H0 H' lo n' gr gs gf' id trip p s (fs ++ [f2]) (ss ++ [(va,sa2)]) f3 (.slc gv 0 N) .nils h ha m e:=by
  have ap:=st.apart
  have b:=st.bd
  simp only [List.mem_cons,List.mem_append] at b
  have hl:=st.le
  refine ⟨by rw [run']; simp,by simpa using fr',?_,sv',.inl ⟨by rw [st3]; rfl,.inl rfl⟩,st.hp.keep fun x hx=>hk x (ap.h x hx).1 (ap.h x hx).2.1 (ap.h x hx).2.2.2.1,by rw [hk gs ap.s ap.rs.symm ap.sf]; exact st.spot,?_,by have:=st.gsn; omega,?_,?_,by omega⟩
  · refine (st.frs.keep fun x hx=>hk x (ap.w x hx).1 (ap.w x hx).2.1 (ap.w x hx).2.2.2.1).snoc ?_ sa2'
    rw [hvars]
    exact st.sv.keep fun x hx=>hk x (ap.v x hx).1 (ap.v x hx).2.1 (ap.v x hx).2.2.2.1
  · have nd:=st.nd
    simp only [List.nodup_cons,List.nodup_append,List.mem_cons,List.mem_append,not_or] at nd
    obtain ⟨⟨a1,a2,a3,a4,a5,a6⟩,⟨b1,b2,b3,b4,b5⟩,⟨c1,c2,c3,c4⟩,n1,⟨n2,⟨n3,n4,n5⟩,n6⟩,n7⟩:=nd
    have r:=ap.r
    have s':=ap.s
    have fh:∀ x,(x∈own ha∨x∈owns ss∨x∈own va∨x∈own sa)→x < n:=fun x hx=>by
      rcases hx with h | h | h | h
      · exact (ap.h x h).1
      · exact (ap.w x h).1
      · exact (ap.v x h).1
      · exact (ap.t x h).1
    rw [zcq]
    have ow1:own (.slc gv 0 N)=[gv]:=rfl
    have ow2:own .nils=[]:=rfl
    simp only [own2,ow1,ow2,List.append_nil,List.nodup_cons,List.nodup_append,List.mem_cons,List.mem_append,not_or,List.not_mem_nil,or_false,not_false_eq_true,List.nodup_nil,and_true]
    refine ⟨⟨a1,by omega,a3,⟨a4,a5,a6⟩,by omega⟩,⟨by omega,b2,⟨b3,b4,b5⟩,by omega⟩,⟨fun h=>by have:=fh _ (.inl h); omega,⟨fun h=>by have:=fh _ (.inr (.inl h)); omega,fun h=>by have:=fh _ (.inr (.inr (.inl h))); omega,fun h=>by have:=fh _ (.inr (.inr (.inr h))); omega⟩,fun h=>hne h.symm⟩,n1,⟨⟨n2,⟨n3,n4,n5⟩,n6⟩,?_⟩,?_⟩
    · refine ⟨trivial,?_⟩
      rintro x hx y rfl rfl
      have:=fh x (.inr hx); omega
    · rintro x hx y (hy | rfl) rfl
      · exact n7 x hx x hy rfl
      · have:=fh x (.inl hx); omega
  · intro g hg'
    rw [zcq] at hg'
    have ow1:own (.slc gv 0 N)=[gv]:=rfl
    have ow2:own .nils=[]:=rfl
    simp only [own2,ow1,ow2,List.append_nil,List.mem_cons,List.mem_append,List.not_mem_nil,or_false] at hg'
    have old:(lo≤g∧g < n)→lo≤g∧g < n':=fun h=>by omega
    rcases hg' with h | h | h | (h | h | h) | h
    · exact old (b g (.inl h))
    · omega
    · exact old (b g (.inr (.inr (.inl h))))
    · exact old (b g (.inr (.inr (.inr (.inl h)))))
    · exact old (b g (.inr (.inr (.inr (.inr (.inl h))))))
    · exact old (b g (.inr (.inr (.inr (.inr (.inr h))))))
    · omega
  · intro g hg'
    have l1:=(b gr (.inl rfl)).1
    have l2:=(b gf (.inr (.inl rfl))).1
    rw [hk g (by omega) (by omega) (by omega)]
    exact st.keep g hg'
theorem zmj {p:Prg} {k:Int} (h:k.toNat < p.codes.length):p.codes[k.toNat]? = some (VM.codeAt p k):=by
  unfold VM.codeAt
  rw [List.getElem?_eq_getElem h,List.getD_eq_getElem?_getD,List.getElem?_eq_getElem h]; rfl
theorem zacm (l:List Val) (k:Nat):(rowV l).take (k*3)=rowV (l.take k):=by
  induction l generalizing k with
  | nil=>simp [rowV]
  | cons v l ih =>
    cases k with
    | zero=>simp [rowV]
    | succ k =>
      have:v.avs.length=3:=rfl
      rw [zhy,List.take_succ_cons,zhy,← ih,Nat.succ_mul,List.take_append,List.take_of_length_le (by omega),show k*3+3 - v.avs.length=k*3 by omega]
theorem zum (l:List Val) (k:Nat):(rowV l).drop (k*3)=rowV (l.drop k):=by
  induction l generalizing k with
  | nil=>simp [rowV]
  | cons v l ih =>
    cases k with
    | zero=>simp
    | succ k =>
      have:v.avs.length=3:=rfl
      rw [zhy,List.drop_succ_cons,← ih,Nat.succ_mul,List.drop_append,List.drop_of_length_le (by omega),List.nil_append,show k*3+3 - v.avs.length=k*3 by omega]
set_option maxHeartbeats 2000000 in
theorem zapp (i:Ins) (st:RL H0 H lo n gr gs gf id trip p s fs ss f va sa h ha m e) (hf:fs.length≤12) (hb:0≤i.b∧i.b≤f.stack.length) (hs:f.stack.length≤4096) (ha0:0≤i.a∧i.a.toNat < p.codes.length) (hv:i.b≤(VM.codeAt p i.a).vars∧(VM.codeAt p i.a).vars≤8) {Q:AV→Heap→Nat→Prop}
    (h1:12≤fs.length+1→∀ H' n',n≤n'→RL H0 H' lo n' gr gs gf id trip p s fs ss f va sa h ha m (VM.dead 9)→Q (.tup []) H' n')
    (h2:¬ 12≤fs.length+1→∀ H' n' gf' sa2 va' sa',n≤n'→RL H0 H' lo n' gr gs gf' id trip p s (fs ++ [{ f with stack:=VM.low i.b.toNat f.stack }]) (ss ++ [(va,sa2)]) ⟨i.a,0,f.stack.drop (f.stack.length - i.b.toNat) ++ List.replicate ((VM.codeAt p i.a).vars - i.b).toNat VM.vzero,[]⟩ va' sa' h ha m e→Q (.tup []) H' n') :
    za Tryd.prog 64 [.ptr gr 0,.agg i.avs] H n Q:=by
  refine zrd _ _ H n _ ?_
  obtain ⟨iop,ia,ib⟩:=i
  simp only at hb ha0 hv h2
  obtain ⟨N,hN⟩:∃ N:Nat,(VM.codeAt p ia).vars=N:=⟨(VM.codeAt p ia).vars.toNat,by omega⟩
  obtain ⟨b,rfl⟩:∃ b:Nat,ib=b:=⟨ib.toNat,by omega⟩
  have hr:=st.run
  have ap:=st.apart
  have rn:gr ≠ n:=by have:=ap.r; omega
  have st1:=st.temp (some (.row 3 [AV.int .i64 iop,.int .i64 ia,.int .i64 b]))
  by_cases h12:12≤fs.length+1
  · have hd:(12:Int)≤fs.length+1:=by omega
    simp [zgp,hr,zf,rn,hd,Ins.avs]
    exact zjy st1 9 fun H' st2=>h1 h12 H' _ (by omega) st2
  have hd:¬ (12:Int)≤fs.length+1:=by omega
  simp [zgp,hr,zf,rn,hd,Ins.avs]
  refine zadv st1 (by omega) ?_
  obtain ⟨cs,c1,c2,c3,c4,c5,c6,c7⟩:=st.last
  have fn0:gf ≠ n:=by have:=ap.f; omega
  have fn1:gf ≠ n+1:=by have:=ap.f; omega
  have fn2:gf ≠ n+2:=by have:=ap.f; omega
  have rn1:gr ≠ n+1:=by have:=ap.r; omega
  have rn2:gr ≠ n+2:=by have:=ap.r; omega
  have rf:=ap.rf
  have hcode:=zmj ha0.2
  have hca:(VM.codeAt p ia).avs=[.int .i64 (VM.codeAt p ia).params,.int .i64 N,.ro ((VM.codeAt p ia).ins.map Ins.avs)]:=by rw [← hN]; rfl
  have hN8:N≤8:=by omega
  have hw:IntKind.i64.wrap ((f.stack.length:Int) - b)=(f.stack.length - b:Nat):=by rw [i64w (by omega)]; omega
  have nn:n ≠ n+1:=by omega
  have zer:∀ N,(List.replicate N [AV.int IntKind.i64 0,AV.int IntKind.i64 0,AV.str []]).flatten=rowV (List.replicate N VM.vzero):=fun N=>by simp [rowV,List.map_replicate,Val.avs,VM.vzero]
  rcases st.st with ⟨h0,rfl | rfl⟩ | ⟨g,gcs,rfl,g1,g2,g3⟩
  · have hb0:b=0:=by omega
    subst hb0
    have hst:f.stack=[]:=List.eq_nil_of_length_eq_zero h0
    have hw0:IntKind.i64.wrap 0=0:=i64w (by omega)
    simp [zdu,c1,c7,fn0,fn1,hr,zf,rn,rn1,hcode,hca,zer,nn,hw0]
    refine ⟨ha0.1,by omega,by omega,by omega,?_⟩
    refine zwc (news:=[]) (rd:=[]) (mm:=0) rfl (Heap.put_at _ _ _) (by simp) rfl ?_
    simp [c1,c7,fn0,fn1,fn0.symm,fn1.symm,rn,rn1,nn]
    refine ⟨by omega,?_⟩
    generalize hX:Heap.put (Heap.put (Heap.put (Heap.put H n _) (n+1) _) gf _) (n+1+1) _=X at *
    have xgf:X gf=some (.row 4 (cs.take (fs.length*4+3) ++ AV.nils :: cs.drop (fs.length*4+3+1))):=by rw [← hX,Heap.put_ne _ _ (by omega),Heap.put_at]
    have xold:∀ x,x < n→x ≠ gf→X x=H x:=fun x hx hxf=>by rw [← hX,Heap.put_ne _ _ (by omega),Heap.put_ne _ _ hxf,Heap.put_ne _ _ (by omega),Heap.put_ne _ _ (by omega)]
    have xgr:X gr=some (.row 13 (zf id trip p (.slc gf 0 (fs.length+1)) ha m gs e)):=by rw [xold gr ap.r rf]; exact hr
    have xv:X (n+1)=some (.row 3 (rowV (List.replicate N VM.vzero))):=by rw [← hX,Heap.put_ne _ _ (by omega),Heap.put_ne _ _ fn1.symm,Heap.put_at]
    have xt:X (n+1+1)=some (.row 4 [AV.int .i64 ia,AV.int .i64 0,AV.slc (n+1) 0 N,AV.nils]):=by rw [← hX,Heap.put_at]
    obtain ⟨d1,d2⟩:=zkt (u:=.nils) c2 (zav st.frs.1) c3 (j:=3) (by omega)
    have fsn:frow fs ss ++ [AV.int .i64 f.fn,.int .i64 f.at_,va,.nils]=frow (fs ++ [{ f with stack:=VM.low 0 f.stack }]) (ss ++ [(va,.nils)]):=by rw [zcs st.frs.1]
    have d1':(cs.take (fs.length*4+3) ++ AV.nils :: cs.drop (fs.length*4+3+1)).take ((fs.length+1)*4)=frow (fs ++ [{ f with stack:=VM.low 0 f.stack }]) (ss ++ [(va,.nils)]):=by rw [← fsn]; simpa using d1
    have fl:(frow (fs ++ [{ f with stack:=VM.low 0 f.stack }]) (ss ++ [(va,.nils)])).length=(fs.length+1)*4:=by rw [zav (by simp [st.frs.1])]; simp
    rw [if_neg rf,hr,rowk]
    have rn3:gr ≠ n+1+2:=by have:=ap.r; omega
    have dd:(cs.take (fs.length*4+3) ++ AV.nils :: cs.drop (fs.length*4+3+1)).take ((fs.length+1)*4)=frow (fs ++ [{ f with stack:=VM.low 0 f.stack }]) (ss ++ [(va,.nils)]):=d1'
    simp [zf,xt,xgf,xgr,rn3,rf]
    rw [dd]
    refine ⟨by simpa using d2,by omega,by omega,h2 h12 _ _ (n+1+2) .nils (.slc (n+1) 0 N) .nils (by omega) (st.call (n':=n+1+2+1) (gv:=n+1) (by omega) (by omega) (by omega) (by omega) (by rw [Heap.put_at]; simp [zf]) ⟨_,by rw [Heap.put_ne _ _ (by omega),Heap.put_at]; rfl,List.take_of_length_le (by simp [fl]; omega),by simp [fl]; omega⟩ rfl ?_ rfl ?_ rfl fun x h1 h2 h3=>by rw [Heap.put_ne _ _ h2,Heap.put_ne _ _ (by omega),Heap.put_ne _ _ h3]; exact xold x h1 h3)⟩
    · exact .inl ⟨by simp [VM.low,hst],by simp⟩
    · refine .inr ⟨n+1,_,by simp [hst,hN],by rw [Heap.put_ne _ _ (by omega),Heap.put_ne _ _ (by omega),Heap.put_ne _ _ (by omega)]; exact xv,?_,?_⟩
      · simp [hst,hN]
        exact List.take_of_length_le (by simp)
      · simp [hst,hN]
  · have hb0:b=0:=by omega
    subst hb0
    have hst:f.stack=[]:=List.eq_nil_of_length_eq_zero h0
    have hw0:IntKind.i64.wrap 0=0:=i64w (by omega)
    simp [zdu,c1,c7,fn0,fn1,hr,zf,rn,rn1,hcode,hca,zer,nn,hw0]
    refine ⟨ha0.1,by omega,by omega,by omega,?_⟩
    refine zwc (news:=[]) (rd:=[]) (mm:=0) rfl (Heap.put_at _ _ _) (by simp) rfl ?_
    simp [c1,c7,fn0,fn1,fn0.symm,fn1.symm,rn,rn1,nn]
    refine ⟨by omega,?_⟩
    generalize hX:Heap.put (Heap.put (Heap.put (Heap.put H n _) (n+1) _) gf _) (n+1+1) _=X at *
    have xgf:X gf=some (.row 4 (cs.take (fs.length*4+3) ++ AV.zs :: cs.drop (fs.length*4+3+1))):=by rw [← hX,Heap.put_ne _ _ (by omega),Heap.put_at]
    have xold:∀ x,x < n→x ≠ gf→X x=H x:=fun x hx hxf=>by rw [← hX,Heap.put_ne _ _ (by omega),Heap.put_ne _ _ hxf,Heap.put_ne _ _ (by omega),Heap.put_ne _ _ (by omega)]
    have xgr:X gr=some (.row 13 (zf id trip p (.slc gf 0 (fs.length+1)) ha m gs e)):=by rw [xold gr ap.r rf]; exact hr
    have xv:X (n+1)=some (.row 3 (rowV (List.replicate N VM.vzero))):=by rw [← hX,Heap.put_ne _ _ (by omega),Heap.put_ne _ _ fn1.symm,Heap.put_at]
    have xt:X (n+1+1)=some (.row 4 [AV.int .i64 ia,AV.int .i64 0,AV.slc (n+1) 0 N,AV.nils]):=by rw [← hX,Heap.put_at]
    obtain ⟨d1,d2⟩:=zkt (u:=.zs) c2 (zav st.frs.1) c3 (j:=3) (by omega)
    have fsn:frow fs ss ++ [AV.int .i64 f.fn,.int .i64 f.at_,va,.zs]=frow (fs ++ [{ f with stack:=VM.low 0 f.stack }]) (ss ++ [(va,.zs)]):=by rw [zcs st.frs.1]
    have d1':(cs.take (fs.length*4+3) ++ AV.zs :: cs.drop (fs.length*4+3+1)).take ((fs.length+1)*4)=frow (fs ++ [{ f with stack:=VM.low 0 f.stack }]) (ss ++ [(va,.zs)]):=by rw [← fsn]; simpa using d1
    have fl:(frow (fs ++ [{ f with stack:=VM.low 0 f.stack }]) (ss ++ [(va,.zs)])).length=(fs.length+1)*4:=by rw [zav (by simp [st.frs.1])]; simp
    rw [if_neg rf,hr,rowk]
    have rn3:gr ≠ n+1+2:=by have:=ap.r; omega
    have dd:(cs.take (fs.length*4+3) ++ AV.zs :: cs.drop (fs.length*4+3+1)).take ((fs.length+1)*4)=frow (fs ++ [{ f with stack:=VM.low 0 f.stack }]) (ss ++ [(va,.zs)]):=d1'
    simp [zf,xt,xgf,xgr,rn3,rf]
    rw [dd]
    refine ⟨by simpa using d2,by omega,by omega,h2 h12 _ _ (n+1+2) .zs (.slc (n+1) 0 N) .nils (by omega) (st.call (n':=n+1+2+1) (gv:=n+1) (by omega) (by omega) (by omega) (by omega) (by rw [Heap.put_at]; simp [zf]) ⟨_,by rw [Heap.put_ne _ _ (by omega),Heap.put_at]; rfl,List.take_of_length_le (by simp [fl]; omega),by simp [fl]; omega⟩ rfl ?_ rfl ?_ rfl fun x h1 h2 h3=>by rw [Heap.put_ne _ _ h2,Heap.put_ne _ _ (by omega),Heap.put_ne _ _ h3]; exact xold x h1 h3)⟩
    · exact .inl ⟨by simp [VM.low,hst],by simp⟩
    · refine .inr ⟨n+1,_,by simp [hst,hN],by rw [Heap.put_ne _ _ (by omega),Heap.put_ne _ _ (by omega),Heap.put_ne _ _ (by omega)]; exact xv,?_,?_⟩
      · simp [hst,hN]
        exact List.take_of_length_le (by simp)
      · simp [hst,hN]
  · have hg:=ap.t g (by simp [own])
    have gn1:g ≠ n+1:=by omega
    have gn0:g ≠ n:=by omega
    have hgf:g ≠ gf:=hg.2.2.2.1
    simp [zdu,c1,c7,fn0,fn1,hr,zf,rn,rn1,hcode,hca,zer,nn,hw,g1,gn1,gn0]
    refine ⟨ha0.1,by omega,by omega,by omega,?_⟩
    have hlen:f.stack.length - (f.stack.length - b)=b:=by omega
    rw [hlen]
    have hnews:((gcs.drop ((f.stack.length - b)*3)).take (b*3))=rowV (f.stack.drop (f.stack.length - b)):=by
      rw [← zum,← g2,List.drop_take]
      congr 1
      omega
    refine zwc (news:=rowV (f.stack.drop (f.stack.length - b))) (rd:=[g]) (mm:=b) ?_ (Heap.put_at _ _ _) (by simp) (zaek _) ?_
    · simp only [zm]
      rw [Heap.put_ne _ _ gn1,Heap.put_ne _ _ gn0,g1]
      simp only
      rw [if_pos (by omega),hnews]
    have hmin:min b N=b:=by omega
    have htk:(rowV (f.stack.drop (f.stack.length - b))).take (b*3)=rowV (f.stack.drop (f.stack.length - b)):=List.take_of_length_le (by simp; omega)
    have hsp:zba (rowV (List.replicate N VM.vzero)) 0 (rowV (f.stack.drop (f.stack.length - b)))=rowV (f.stack.drop (f.stack.length - b) ++ List.replicate (N - b) VM.vzero):=by
      have e:(rowV (f.stack.drop (f.stack.length - b))).length=b*3:=by simp; omega
      rw [zajb,List.take_zero,List.nil_append,e,Nat.zero_add,zum,zhp]
      simp
    rw [hmin,htk,hsp]
    have hkk:(f.stack.length - b:Nat)≤f.stack.length:=by omega
    simp [c1,c7,fn0,fn1,fn0.symm,fn1.symm,rn,rn1,nn,g1,gn1,gn0]
    refine ⟨by omega,?_⟩
    generalize hX:Heap.put (Heap.put (Heap.put (Heap.put H n _) (n+1) _) gf _) (n+1+1) _=X at *
    have xgf:X gf=some (.row 4 (cs.take (fs.length*4+3) ++ AV.slc g 0 (f.stack.length - b) :: cs.drop (fs.length*4+3+1))):=by rw [← hX,Heap.put_ne _ _ (by omega),Heap.put_at]
    have xold:∀ x,x < n→x ≠ gf→X x=H x:=fun x hx hxf=>by rw [← hX,Heap.put_ne _ _ (by omega),Heap.put_ne _ _ hxf,Heap.put_ne _ _ (by omega),Heap.put_ne _ _ (by omega)]
    have xgr:X gr=some (.row 13 (zf id trip p (.slc gf 0 (fs.length+1)) ha m gs e)):=by rw [xold gr ap.r rf]; exact hr
    have xv:X (n+1)=some (.row 3 (rowV (f.stack.drop (f.stack.length - b) ++ List.replicate (N - b) VM.vzero))):=by rw [← hX,Heap.put_ne _ _ (by omega),Heap.put_ne _ _ fn1.symm,Heap.put_at]
    have xt:X (n+1+1)=some (.row 4 [AV.int .i64 ia,AV.int .i64 0,AV.slc (n+1) 0 N,AV.nils]):=by rw [← hX,Heap.put_at]
    obtain ⟨d1,d2⟩:=zkt (u:=.slc g 0 (f.stack.length - b)) c2 (zav st.frs.1) c3 (j:=3) (by omega)
    have fsn:frow fs ss ++ [AV.int .i64 f.fn,.int .i64 f.at_,va,.slc g 0 (f.stack.length - b)]=frow (fs ++ [{ f with stack:=VM.low b f.stack }]) (ss ++ [(va,.slc g 0 (f.stack.length - b))]):=by rw [zcs st.frs.1]
    have d1':(cs.take (fs.length*4+3) ++ AV.slc g 0 (f.stack.length - b) :: cs.drop (fs.length*4+3+1)).take ((fs.length+1)*4)=frow (fs ++ [{ f with stack:=VM.low b f.stack }]) (ss ++ [(va,.slc g 0 (f.stack.length - b))]):=by rw [← fsn]; simpa using d1
    have fl:(frow (fs ++ [{ f with stack:=VM.low b f.stack }]) (ss ++ [(va,.slc g 0 (f.stack.length - b))])).length=(fs.length+1)*4:=by rw [zav (by simp [st.frs.1])]; simp
    rw [if_neg rf,hr,rowk]
    have rn3:gr ≠ n+1+2:=by have:=ap.r; omega
    have dd:(cs.take (fs.length*4+3) ++ AV.slc g 0 (f.stack.length - b) :: cs.drop (fs.length*4+3+1)).take ((fs.length+1)*4)=frow (fs ++ [{ f with stack:=VM.low b f.stack }]) (ss ++ [(va,(.slc g 0 (f.stack.length - b)))]):=d1'
    simp [zf,xt,xgf,xgr,rn3,rf]
    rw [dd]
    refine ⟨by simpa using d2,by omega,by omega,h2 h12 _ _ (n+1+2) (.slc g 0 (f.stack.length - b)) (.slc (n+1) 0 N) .nils (by omega) (st.call (n':=n+1+2+1) (gv:=n+1) (by omega) (by omega) (by omega) (by omega) (by rw [Heap.put_at]; simp [zf]) ⟨_,by rw [Heap.put_ne _ _ (by omega),Heap.put_at]; rfl,List.take_of_length_le (by simp [fl]; omega),by simp [fl]; omega⟩ rfl ?_ rfl ?_ rfl fun x h1 h2 h3=>by rw [Heap.put_ne _ _ h2,Heap.put_ne _ _ (by omega),Heap.put_ne _ _ h3]; exact xold x h1 h3)⟩
    · refine .inr ⟨g,gcs,by simp [VM.low],by rw [Heap.put_ne _ _ hg.2.1,Heap.put_ne _ _ (by omega),Heap.put_ne _ _ hgf,xold g hg.1 hgf]; exact g1,?_,?_⟩
      · have:=congrArg (List.take ((f.stack.length - b)*3)) g2
        rw [List.take_take,Nat.min_eq_left (by omega),zacm] at this
        simpa [VM.low] using this
      · simp [VM.low]; omega
    · have hl2:(f.stack.drop (f.stack.length - b) ++ List.replicate (N - b) VM.vzero).length=N:=by simp; omega
      have hNb:((N:Int) - b).toNat=N - b:=by omega
      refine .inr ⟨n+1,_,by simp [hN,hNb]; omega,by rw [Heap.put_ne _ _ (by omega),Heap.put_ne _ _ (by omega),Heap.put_ne _ _ (by omega)]; exact xv,?_,?_⟩
      · simp only [hN,hNb,Int.toNat_natCast]
        rw [List.take_of_length_le (by simp)]
      · simp [hN,hNb]
end
end Go.Proofs.YtdmibdjokofclaaDoor
namespace Go.Proofs
open Go.Shelf
def Tryd.laysM171_ren:Go.Shelf.Ren:=⟨fun | 171=>68 | 243=>74 | 246=>77 | 283=>78 | 284=>79 | 285=>80 | 286=>81 | 129=>83 | 317=>82 | 318=>84 | 319=>85 | 320=>86 | 337=>87 | 338=>88 | n=>n,fun | 3=>3 | 9=>9 | 2=>2 | 4=>4 | 171=>126 | 0=>0 | 53=>127 | 37=>130 | 5=>5 | 173=>131 | 212=>134 | 51=>135 | 20=>20 | 213=>136 | 46=>138 | 232=>141 | 233=>142 | n=>n,fun | 17=>0 | 18=>1 | 19=>2 | n=>n⟩
theorem Tryd.laysM171:Go.Proofs.LaysM.n171 Tryd.prog Tryd.laysM171_ren:={
  mixed:=by kernel_rfl
  f129:=Tryd.func83.trans (congrArg some (by kernel_rfl))
  f171:=Tryd.func68.trans (congrArg some (by kernel_rfl))
  f243:=Tryd.func74.trans (congrArg some (by kernel_rfl))
  f246:=Tryd.func77.trans (congrArg some (by kernel_rfl))
  f283:=Tryd.func78.trans (congrArg some (by kernel_rfl))
  f284:=Tryd.func79.trans (congrArg some (by kernel_rfl))
  f285:=Tryd.func80.trans (congrArg some (by kernel_rfl))
  f286:=Tryd.func81.trans (congrArg some (by kernel_rfl))
  f317:=Tryd.func82.trans (congrArg some (by kernel_rfl))
  f318:=Tryd.func84.trans (congrArg some (by kernel_rfl))
  f319:=Tryd.func85.trans (congrArg some (by kernel_rfl))
  f320:=Tryd.func86.trans (congrArg some (by kernel_rfl))
  f337:=Tryd.func87.trans (congrArg some (by kernel_rfl))
  f338:=Tryd.func88.trans (congrArg some (by kernel_rfl))
  t0:=Tryd.underlying0
  a0:=Tryd.isAgg0
  z0:=Tryd.sizeOf0
  v0:=Tryd.zeroValue0
  t2:=Tryd.underlying2
  a2:=Tryd.isAgg2
  z2:=Tryd.sizeOf2
  v2:=Tryd.zeroValue2
  t3:=Tryd.underlying3
  a3:=Tryd.isAgg3
  z3:=Tryd.sizeOf3
  v3:=Tryd.zeroValue3
  t4:=Tryd.underlying4
  a4:=Tryd.isAgg4
  z4:=Tryd.sizeOf4
  v4:=Tryd.zeroValue4
  t5:=Tryd.underlying5
  a5:=Tryd.isAgg5
  z5:=Tryd.sizeOf5
  v5:=Tryd.zeroValue5
  t9:=Tryd.underlying9
  a9:=Tryd.isAgg9
  z9:=Tryd.sizeOf9
  v9:=Tryd.zeroValue9
  t20:=Tryd.underlying20
  a20:=Tryd.isAgg20
  z20:=Tryd.sizeOf20
  v20:=Tryd.zeroValue20
  t37:=Tryd.underlying130
  a37:=Tryd.isAgg130
  z37:=Tryd.sizeOf130
  v37:=Tryd.zeroValue130
  t46:=Tryd.underlying138
  a46:=Tryd.isAgg138
  z46:=Tryd.sizeOf138
  v46:=Tryd.zeroValue138
  t51:=Tryd.underlying135
  a51:=Tryd.isAgg135
  z51:=Tryd.sizeOf135
  v51:=Tryd.zeroValue135
  t53:=Tryd.underlying127
  a53:=Tryd.isAgg127
  z53:=Tryd.sizeOf127
  v53:=Tryd.zeroValue127
  t171:=Tryd.underlying126
  a171:=Tryd.isAgg126
  z171:=Tryd.sizeOf126
  v171:=Tryd.zeroValue126
  t173:=Tryd.underlying131
  a173:=Tryd.isAgg131
  z173:=Tryd.sizeOf131
  v173:=Tryd.zeroValue131
  t212:=Tryd.underlying134
  a212:=Tryd.isAgg134
  z212:=Tryd.sizeOf134
  v212:=Tryd.zeroValue134
  t213:=Tryd.underlying136
  a213:=Tryd.isAgg136
  z213:=Tryd.sizeOf136
  t232:=Tryd.underlying141
  a232:=Tryd.isAgg141
  z232:=Tryd.sizeOf141
  v232:=Tryd.zeroValue141
  t233:=Tryd.underlying142
  a233:=Tryd.isAgg142
  z233:=Tryd.sizeOf142
  v233:=Tryd.zeroValue142
  g17:=by kernel_rfl
  g18:=by kernel_rfl
  g19:=by kernel_rfl
  i0:=by kernel_rfl
  i2:=by kernel_rfl
  i3:=by kernel_rfl
  i4:=by kernel_rfl
  i5:=by kernel_rfl
  i9:=by kernel_rfl
  i20:=by kernel_rfl
  i37:=by kernel_rfl
  i46:=by kernel_rfl
  i51:=by kernel_rfl
  i53:=by kernel_rfl
  i171:=by kernel_rfl
  i173:=by kernel_rfl
  i212:=by kernel_rfl
  i232:=by kernel_rfl
  i233:=by kernel_rfl
  m17:=by kernel_rfl
  m18:=by kernel_rfl
  m19:=by kernel_rfl }
open Go.RowKit Go.Sort Go.Lib in
theorem Tryd.strconv_Itoa (n:Int) (h0 : -9223372036854775808≤n) (h1:n≤9223372036854775807) (w:World) (htab:Lib.TabIs Tryd.prog w "internal/strconv.uint64pow10" .u64 Lib.pow10Tab) :
    Calls Tryd.prog 68 #[.int .i64 n] w fun e w'=>e=.returned (.string ⟨(Lib.itoa n).toArray⟩)∧∃ k os,w'=grow (w.drewN k) os:=Any.strconv_Itoa Tryd.laysM171 n h0 h1 w htab
end Go.Proofs
set_option maxRecDepth 8000
namespace Go.Proofs.YtdmibdjokofclaaDoor
open Go Go.RowKit
theorem Sim.below {A:Nat→Prop} {ρ:Nat→Loc} {H:Heap} {w w':World} (s:Sim A ρ H w) (b:Below w.heap.size w w'):Sim A ρ H w'∧Fr A ρ H w A ρ H w':=by
  have hK:∀ b' o,Kof ρ H w b'=some o→Kof ρ H w' b'=some o:=fun b' o hb=>by
    obtain ⟨h1,h2⟩:=zag.1 hb
    exact zag.2 ⟨h1,by rw [b.block b' (Array.getElem?_eq_some_iff.1 h2).1]; exact h2⟩
  refine ⟨⟨s.live,fun g o ho => ?_,s.inj,s.lay.mono hK⟩,⟨fun _ h=>⟨rfl,h⟩,hK,b.os,b.tape,b.output,b.size⟩⟩
  exact (s.obj g o ho).mono (b.block _ (s.obj g o ho).block_lt) hK (fun _ h=>⟨rfl,h⟩)
theorem QC.of_calls {P:Program} {f:FuncId} {fn:Func} {c:Code} {args:List AV} {r:AV} (hf:P.funcs[f]? = some fn) (hb:fn.body=some c) (hname:(fn.name == "runtime.NumGoroutine")=false)
    (h:∀ (K:zab) (ρ:Nat→Loc) (A:Nat→Prop) (w:World) (cargs:Array Value),LayK (fun b=>w.heap[b]?)→LRel K ρ A args cargs.toList→Calls P f cargs w fun e w'=>(∃ v,e=.returned v∧∀ (K:zab) (ρ:Nat→Loc) (A:Nat→Prop),VRel K ρ A r v)∧Below w.heap.size w w'):QC P f args r:=by
  intro H nx ρ w cargs s ha
  have hcall:(callFunc f cargs).run P w=.ok (.enter f cargs) w:=by
    have hname':¬ fn.name = "runtime.NumGoroutine" := by simpa using hname
    simp [callFunc,program,Sem.run_bind,Sem.run,hf,hname',hb,pure]
  rw [hcall]
  simp only [zar]
  refine (h _ _ _ w cargs (s.lay.mono fun b o hb=>(zag.1 hb).2) ha).mono fun e w' ⟨⟨v,he,hv⟩,hw⟩ => ?_
  obtain ⟨s',f'⟩:=s.below hw
  exact ⟨v,he,r,H,nx,ρ,⟨rfl,rfl,rfl⟩,s',hv _ _ _,f'⟩
theorem zaln:(Tryd.prog.globalNamed "internal/strconv.uint64pow10").isSome=true:=by kernel_rfl
theorem LayK.tab {w:World} (h:LayK (fun b=>w.heap[b]?)):Lib.TabIs Tryd.prog w "internal/strconv.uint64pow10" .u64 Lib.pow10Tab:=by
  obtain ⟨g,hg⟩:=Option.isSome_iff_exists.1 zaln
  obtain ⟨e,m,hc⟩:=h.1 g hg
  unfold Lib.TabIs World.var?
  have hc':w.heap[g]? = _:=hc
  rw [hg,Option.bind_some,hc']
set_option maxRecDepth 8000 in
theorem zagw (n:Int) (h0 : -9223372036854775808≤n) (h1:n≤9223372036854775807):QC Tryd.prog 68 [.int .i64 n] (.str (Lib.itoa n)):=by
  refine QC.of_calls (c:=zn Tryd.f68) Tryd.func68 (by kernel_rfl) (by kernel_rfl) fun K ρ A w cargs hl ha => ?_
  have hc:cargs = #[.int .i64 n]:=by
    obtain ⟨hlen,hg⟩:=ha
    have hlen':cargs.toList.length=1:=hlen
    match he:cargs.toList,hlen' with
    | [v],_ =>
      have:=hg 0 (.int .i64 n) v rfl (by rw [he]; rfl)
      cases this
      exact Array.ext' (by rw [he])
  subst hc
  refine (Tryd.strconv_Itoa n h0 h1 w hl.tab).mono fun e w' ⟨he,k,os,hw⟩ => ?_
  subst he hw
  refine ⟨⟨_,rfl,fun K ρ A=>.str _⟩,⟨rfl,rfl,rfl,?_,fun b hb => ?_⟩⟩
  · simp [Sort.grow,World.drewN]
  · simp only [Sort.grow,World.drewN]
    rw [Array.getElem?_append_left (by simpa using hb)]
end Go.Proofs.YtdmibdjokofclaaDoor
set_option maxRecDepth 8000
namespace Go.Proofs.YtdmibdjokofclaaDoor
open Go Go.RowKit
theorem zhw {h:List Cl} (hc:zdc h):∀ (d:Nat) {v:Val},VM.WrongOk v h.length→(VM.vshow h d v).length+3≤63*2 ^ d
  | d, v, hv=>by
    have hp:1≤2 ^ d:=Nat.one_le_two_pow
    rcases hv.kind with k | k | k
    · rw [VM.vshow_int k]
      have:=hv.int k
      have:=Lib.itoa_length_le v.n (by omega) (by omega)
      omega
    · rw [VM.vshow_text k]
      have:=hv.len; omega
    · cases d with
      | zero=>rw [VM.vshow_dots k]; simp
      | succ d =>
        obtain ⟨h0,h1⟩:=hv.cell k
        have hlt:v.n.toNat < h.length:=by omega
        obtain ⟨w1,w2⟩:=hc _ (List.getElem_mem hlt)
        have i1:=zhw hc d w1
        have i2:=zhw hc d w2
        rw [VM.vshow_cell k h0 (List.getElem?_eq_getElem hlt)]
        simp only [List.length_append,List.length_cons,List.length_nil]
        rw [Nat.pow_succ]; omega
set_option maxHeartbeats 2000000 in
theorem zabe {h:List Cl} (hc:zdc h):∀ (d:Nat) (v:Val) (deep:Int),VM.WrongOk v h.length→deep.toNat=d→d≤5 → -9223372036854775808≤deep→QC Tryd.prog 63 [.ro (h.map Cl.avs),.agg v.avs,.int .i64 deep] (.str (VM.vshow h d v))
  | d, v, deep,hv,hd,hd5,hlow=>by
    refine QC.of' fun H nx=>zaam _ _ _ H nx _ ?_
    rcases hv.kind with k | k | k
    · have:=hv.int k
      rw [VM.vshow_int k]
      simp [zft,Val.avs,k]
      refine QC.call (zagw v.n (by omega) (by omega)) ?_
      simp [zve]
    · rw [VM.vshow_text k]
      simp [zft,Val.avs,k]
    · obtain ⟨h0,h1⟩:=hv.cell k
      have hlt:v.n.toNat < h.length:=by omega
      have hn0:¬ v.n < 0:=by omega
      have hn1:¬ (h.length:Int)≤v.n:=by omega
      cases d with
      | zero =>
        rw [VM.vshow_dots k]
        have:deep≤0:=by omega
        simp [zft,Val.avs,k,this]
      | succ d =>
        have hpos:¬ deep≤0:=by omega
        obtain ⟨w1,w2⟩:=hc _ (List.getElem_mem hlt)
        rw [VM.vshow_cell k h0 (List.getElem?_eq_getElem hlt)]
        have hget:h[v.n.toNat]? = some h[v.n.toNat]:=List.getElem?_eq_getElem hlt
        generalize h[v.n.toNat]=c at *
        have l1:=zhw hc d w1
        have l2:=zhw hc d w2
        have hp:2 ^ d≤2 ^ 5:=Nat.pow_le_pow_right (by omega) (by omega)
        have hw:IntKind.i64.wrap (deep - 1)=deep - 1:=i64w (by omega)
        have ih1:=zabe hc d c.left (deep - 1) w1 (by omega) (by omega) (by omega)
        have ih2:=zabe hc d c.right (deep - 1) w2 (by omega) (by omega) (by omega)
        have t1:c.avs.take 3=c.left.avs:=rfl
        have t2:(c.avs.drop 3).take 3=c.right.avs:=rfl
        simp [zft,Val.avs,k,hpos,hn0,hn1,hget,hw]
        refine ⟨h0,h1,?_⟩
        rw [t1]
        refine zo.of_qc ih1 (.str _) ?_
        simp [zvc,hget,hw]
        refine ⟨by omega,by omega,h0,h1,?_⟩
        rw [t2]
        refine zo.of_qc ih2 (.str _) ?_
        simp [zvd]
        omega
end Go.Proofs.YtdmibdjokofclaaDoor
set_option maxRecDepth 8000
namespace Go.Proofs.YtdmibdjokofclaaDoor
open Go Go.RowKit
def Fin (H0 H:Heap) (lo gr:Nat) (id trip:Int) (p:Prg) (frames:List Frm) (h:List Cl) (m:Pmt) (e:Evt):Prop:=∃ gs gf ss ha cs,H gr=some (.row 13 (zf id trip p (.slc gf 0 frames.length) ha m gs e))∧H gf=some (.row 4 cs)∧cs.take (frames.length*4)=frow frames ss∧frames.length*4≤cs.length ∧
  zaq H frames ss∧Slot H 6 h.length (rowC h) ha∧lo≤gf∧(∀ g∈own ha,lo≤g)∧(∀ g∈owns ss,lo≤g)∧Keep lo H H0
section
variable {H0 H:Heap} {lo n gr gs gf:Nat} {id trip:Int} {p:Prg} {s:Spt} {fs:List Frm} {ss:List (AV×AV)} {f:Frm} {va sa:AV} {h:List Cl} {ha:AV} {m:Pmt} {e:Evt}
theorem RL.fin (st:RL H0 H lo n gr gs gf id trip p s fs ss f va sa h ha m e):Fin H0 H lo gr id trip p (fs ++ [f]) h m e:=by
  obtain ⟨cs,c1,c2,c3⟩:=st.fr
  have b:=st.bd
  simp only [List.mem_cons,List.mem_append] at b
  refine ⟨gs,gf,ss ++ [(va,sa)],ha,cs,by rw [st.run]; simp,c1,by rw [zcs st.frs.1]; simpa using c2,by simpa using c3,st.frs.snoc st.sv st.st,st.hp,(b gf (.inr (.inl rfl))).1,fun g hg=>(b g (.inr (.inr (.inl hg)))).1,fun g hg => ?_,st.keep⟩
  rw [zcq] at hg
  rcases List.mem_append.1 hg with h | h
  · exact (b g (.inr (.inr (.inr (.inl h))))).1
  · rcases List.mem_append.1 h with h | h
    · exact (b g (.inr (.inr (.inr (.inr (.inl h)))))).1
    · exact (b g (.inr (.inr (.inr (.inr (.inr h)))))).1
theorem RL.back {gs':List Frm} {g':Frm} {ts:List (AV×AV)} {t:AV×AV} (st:RL H0 H lo n gr gs gf id trip p s (gs' ++ [g']) (ts ++ [t]) f va sa h ha m e):RL H0 (H.put gr (some (.row 13 (zf id trip p (.slc gf 0 (gs'.length+1)) ha m gs e)))) lo n gr gs gf id trip p s gs' ts g' t.1 t.2 h ha m e:=by
  have ap:=st.apart
  have b:=st.bd
  obtain ⟨cs,c1,c2,c3⟩:=st.fr
  have hk:∀ x,x ≠ gr→(H.put gr (some (.row 13 (zf id trip p (.slc gf 0 (gs'.length+1)) ha m gs e)))) x=H x:=fun x hx=>Heap.put_ne _ _ hx
  obtain ⟨f1,f2,f3⟩:=st.frs.last
  have ow:∀ x∈owns ts ++ (own t.1 ++ own t.2),x∈owns (ts ++ [t]):=fun x hx=>by rw [zcq]; exact hx
  have wr:∀ x∈owns ts ++ (own t.1 ++ own t.2),x ≠ gr:=fun x hx=>(ap.w x (ow x hx)).2.1
  refine ⟨Heap.put_at _ _ _,⟨cs,by rw [hk _ ap.rf.symm]; exact c1,?_,by simp at c3; omega⟩,f1.keep fun x hx=>hk x (wr x (List.mem_append_left _ hx)),f2.keep fun x hx=>hk x (wr x (List.mem_append_right _ (List.mem_append_left _ hx))),f3.keep fun x hx=>hk x (wr x (List.mem_append_right _ (List.mem_append_right _ hx))),
    st.hp.keep fun x hx=>hk x (ap.h x hx).2.1,by rw [hk _ ap.rs.symm]; exact st.spot,?_,st.gsn,?_,?_,st.le⟩
  · have hl:=zav st.frs.1
    have e1:=congrArg (List.take ((gs'.length+1)*4)) c2
    rw [List.take_take,Nat.min_eq_left (by simp; omega)] at e1
    rw [e1,List.take_append_of_le_length (by rw [hl]; simp),List.take_of_length_le (by rw [hl]; simp),zcs f1.1]
  · have nd:=st.nd
    rw [zcq] at nd
    refine List.Sublist.nodup ?_ nd
    refine .cons_cons _ (.cons_cons _ (.cons_cons _ (List.Sublist.append (List.Sublist.refl _) ?_)))
    exact List.sublist_append_left _ _
  · intro g hg
    refine b g ?_
    simp only [List.mem_cons,List.mem_append] at hg ⊢
    rcases hg with h | h | h | h | h | h
    · exact .inl h
    · exact .inr (.inl h)
    · exact .inr (.inr (.inl h))
    · exact .inr (.inr (.inr (.inl (ow _ (by simp [h])))))
    · exact .inr (.inr (.inr (.inl (ow _ (by simp [h])))))
    · exact .inr (.inr (.inr (.inl (ow _ (by simp [h])))))
  · intro g hg
    have l1:=(b gr (by simp)).1
    rw [hk g (by omega)]
    exact st.keep g hg
theorem Slot.frzC {a:AV} {h:List Cl} (hs:Slot H 6 h.length (rowC h) a):Frz H 0 a (.ro (h.map Cl.avs)):=by
  rcases hs with ⟨h0,rfl | rfl⟩ | ⟨g,cs,rfl,h1,h2,h3⟩
  · rw [List.eq_nil_of_length_eq_zero h0]; exact .nils
  · rw [List.eq_nil_of_length_eq_zero h0]; exact .zs
  · refine .slc g 0 _ 6 cs _ (Nat.zero_le _) h1 (by omega) (by simp) (zbj h) (fun i j=>(cs[i*6+j]?).getD .junk) (fun i x j v hx hv => ?_) (fun i x j v hx hv => ?_)
    all_goals
      have hj:j < 6:=by
        have:=(List.getElem?_eq_some_iff.1 hv).1
        rw [zbj h x (List.mem_of_getElem? hx)] at this; exact this
      have hi:i < h.length:=by have:=(List.getElem?_eq_some_iff.1 hx).1; simpa using this
      have e:cs[i*6+j]? = some v:=by
        have e1:=zgb (zbj h) hx
        have e2:(rowC h)[i*6+j]? = some v:=by
          have:=congrArg (·[j]?) e1
          simp only [List.getElem?_take,List.getElem?_drop,hj,if_true] at this
          unfold rowC; rw [this]; exact hv
        rw [← h2,List.getElem?_take,if_pos (by omega)] at e2
        exact e2
    · rw [Nat.zero_add,e]; rfl
    · rw [e]
      exact .same _ (zbo (zao h x (List.mem_of_getElem? hx) v (List.mem_of_getElem? hv)))
theorem zo.show {a:AV} {h:List Cl} {v:Val} (hs:Slot H 6 h.length (rowC h) a) (hc:zdc h) (hv:VM.WrongOk v h.length) {nx:Nat} {k:Kt} (hk:k (.str (VM.vshow h 4 v)) (own a) [] []):zo Tryd.prog (.clo 63 []) [a,.agg v.avs,.int .i64 4] H nx k:=by
  refine zo.of_qcr (own a) (fun g hg => ?_) (fun H' n' hh=>QC.reads (zabe hc 4 v 4 hv rfl (by omega) (by omega)) (by simp) (.cons (Slot.frzC (hs.keep fun g hg=>(hh g hg).1)) (.cons (.same _ (zfo v)) (.cons (.same _ (.int _ _)) .nil)))) (.str _) hk
  rcases hs with ⟨_,rfl | rfl⟩ | ⟨g',cs,rfl,h1,_⟩
  · simp [own] at hg
  · simp [own] at hg
  · simp [own] at hg; subst hg; rw [h1]; rfl
set_option maxHeartbeats 1000000 in
theorem zapr {st':List Val} {v:Val} (st:RL H0 H lo n gr gs gf id trip p s fs ss f va sa h ha m e) (hf:fs.length≤4096) (hs:f.stack=st' ++ [v]) (hb:st'.length≤4095) (hc:zdc h) (hv:VM.WrongOk v h.length) (hg4:∀ g∈fs,g.stack.length≤4095) {Q:AV→Heap→Nat→Prop}
    (h1:fs=[]→∀ H' n',n≤n'→Fin H0 H' lo gr id trip p [] h m ⟨4,VM.vshow h 4 v,0⟩→Q (.tup []) H' n')
    (h2:∀ gs' g',fs=gs' ++ [g']→∀ H' n' ts va' sa',n≤n'→RL H0 H' lo n' gr gs gf id trip p s gs' ts { g' with stack:=g'.stack ++ [v] } va' sa' h ha m e→Q (.tup []) H' n') :
    za Tryd.prog 65 [.ptr gr 0] H n Q:=by
  refine zre _ H n _ ?_
  unfold zlw
  refine zng st hf hs (by omega) fun H1 n1 sa1 hn1 st1 => ?_
  have st2:=st1.temp (some (.row 3 v.avs))
  have ap:=st1.apart
  have hr:=st1.run
  have rn:gr ≠ n1:=by have:=ap.r; omega
  have fn:gf ≠ n1:=by have:=ap.f; omega
  obtain ⟨cs,c1,c2,c3⟩:=st1.fr
  have hw:IntKind.i64.wrap (fs.length:Int)=fs.length:=i64w (by omega)
  have rf:=ap.rf
  rcases List.eq_nil_or_concat fs with rfl | ⟨gs',g',rfl⟩
  · have hw0:IntKind.i64.wrap 0=0:=i64w (by omega)
    simp [zgq,hr,zf,rn,rn.symm,c1,fn,hw0]
    refine ⟨zah v,?_⟩
    have hkk:∀ (o:Option AObj) (x:Nat),x ≠ gr→((H1.put n1 (some (.row 3 v.avs))).put gr o) x=(H1.put n1 (some (.row 3 v.avs))) x:=fun o x hx=>Heap.put_ne _ _ hx
    refine zo.show (st2.hp.keep fun g hg=>hkk _ g (ap.h g hg).2.1) hc hv ?_
    simp [zlx,rn,rn.symm]
    have b:=st1.bd
    simp only [List.mem_cons,List.mem_append] at b
    refine h1 rfl _ _ (by omega) ⟨gs,gf,[],ha,cs,by rw [Heap.put_at]; rfl,by rw [hkk _ _ rf.symm,Heap.put_ne _ _ fn]; exact c1,by simp [frow],by simp,⟨rfl,fun k f s hf=>by simp at hf⟩,st2.hp.keep fun g hg=>hkk _ g (ap.h g hg).2.1,(b gf (.inr (.inl rfl))).1,fun g hg=>(b g (.inr (.inr (.inl hg)))).1,by simp [owns],fun g hg => ?_⟩
    have l1:=(b gr (.inl rfl)).1
    have l2:=st1.le
    rw [hkk _ _ (by omega),Heap.put_ne _ _ (by omega)]
    exact st1.keep g hg
  · rw [List.concat_eq_append] at *
    have hne:¬ ((gs'.length:Int)+1=0):=by omega
    simp at hw
    simp [zgq,hr,zf,rn,rn.symm,c1,fn,hw,hne]
    obtain ⟨ts,t,rfl⟩:∃ ts t,ss=ts ++ [t]:=by
      have:=st.frs.1
      rcases List.eq_nil_or_concat ss with rfl | ⟨ts,t,h⟩
      · simp at this
      · exact ⟨ts,t,by rw [h,List.concat_eq_append]⟩
    refine ⟨zah v,by omega,by omega,?_⟩
    have st3:=st2.back
    exact zey v st3 (by simp at hf; omega) (Nat.le_succ_of_le (hg4 g' (by simp))) fun H' n' sa' hn st4=>h2 gs' g' rfl H' n' ts t.1 sa' (by omega) st4
end
end Go.Proofs.YtdmibdjokofclaaDoor
