/- What a call made may be forgotten, or is never written again: then it is read by value. A law's arguments, read as abstract values; and a law's call, out of an abstract one. A text that a law is handed, read as data. Structures that are compared by their cells. The program's types, as its own table has them. How what is to be shown is taken apart. More of how what is to be shown is taken apart. Maps, and more. -/
import Derived.Test.YtpllgpgdcbgalaaDoorG4
import Derived.Deep.Slices
import Derived.SizedLaws
import Derived.ChangeSame
import Derived.Test.YtpllgpgdcbgalaaDoorG3
import Derived.Laws.StructEq
import Derived.Test.YtpllgpgdcbgalaaDoorChecked
import Derived.KernelRfl
import Derived.IntWalk
set_option linter.unusedSimpArgs false
set_option linter.unusedVariables false
set_option maxRecDepth 8000
namespace Go.Proofs.YtpllgpgdcbgalaaDoor
open Go Go.RowKit
inductive Bel (A:Nat→Prop):AV→Prop
  | junk:Bel A .junk
  | und:Bel A .und
  | int (k:IntKind) (n:Int):Bel A (.int k n)
  | bool (b:Bool):Bel A (.bool b)
  | bany:Bel A .bany
  | str (s:List UInt8):Bel A (.str s)
  | nilp:Bel A .nilp
  | nils:Bel A .nils
  | nilf:Bel A .nilf
  | nilm:Bel A .nilm
  | inil:Bel A .inil
  | ifc:Bel A .ifc
  | zs:Bel A .zs
  | ptr (g off:Nat):A g→Bel A (.ptr g off)
  | slc (g off len:Nat):A g→Bel A (.slc g off len)
  | amap (g:Nat):A g→Bel A (.amap g)
  | ro (xs:List (List AV)):(∀ (i:Nat) (x:List AV) (j:Nat) (v:AV),xs[i]? = some x→x[j]? = some v→Bel A v)→Bel A (.ro xs)
  | rop (cs:List AV) (o:Nat):(∀ (j:Nat) (v:AV),cs[j]? = some v→Bel A v)→Bel A (.rop cs o)
  | agg (xs:List AV):(∀ (j:Nat) (v:AV),xs[j]? = some v→Bel A v)→Bel A (.agg xs)
  | tup (xs:List AV):(∀ (j:Nat) (v:AV),xs[j]? = some v→Bel A v)→Bel A (.tup xs)
  | clo (f:FuncId) (xs:List AV):(∀ (j:Nat) (v:AV),xs[j]? = some v→Bel A v)→Bel A (.clo f xs)
def BelO (A:Nat→Prop):AObj→Prop
  | .row _ cells=>∀ (j:Nat) x,cells[j]? = some x→Bel A x
  | .mp es=>∀ (j:Nat) kv,es[j]? = some kv→Bel A kv.1∧Bel A kv.2
  | .it g _ _=>A g
theorem VRel.bel {K:zj} {ρ:Nat→Loc} {A:Nat→Prop} {v:AV} {c:Value} (h:VRel K ρ A v c):Bel A v:=by
  induction h with
  | junk v=>exact .junk
  | und=>exact .und
  | int k n=>exact .int k n
  | bool b=>exact .bool b
  | bany b=>exact .bany
  | str s=>exact .str s
  | nilp=>exact .nilp
  | nils=>exact .nils
  | nilf=>exact .nilf
  | nilm=>exact .nilm
  | inil=>exact .inil
  | ifc _ _=>exact .ifc
  | zs a=>exact .zs
  | ptr g off a hg ha=>exact .ptr g off hg
  | slc g off len cap a hg h1 h2=>exact .slc g off len hg
  | amap g r hg hr=>exact .amap g hg
  | ro xs a len cap sz b off C h1 h2 h3 h4 h5 _ ih=>exact .ro xs ih
  | rop cs o b p a C h1 h2 _ ih=>exact .rop cs o ih
  | agg xs cs h1 _ ih =>
    exact .agg xs fun j v hv=>by
      have hlt:=(List.getElem?_eq_some_iff.1 hv).1
      exact ih j v _ hv (Array.getElem?_eq_getElem (by omega))
  | tup xs cs h1 _ ih =>
    exact .tup xs fun j v hv=>by
      have hlt:=(List.getElem?_eq_some_iff.1 hv).1
      exact ih j v _ hv (Array.getElem?_eq_getElem (by omega))
  | clo f xs cs h1 _ ih =>
    exact .clo f xs fun j v hv=>by
      have hlt:=(List.getElem?_eq_some_iff.1 hv).1
      exact ih j v _ hv (Array.getElem?_eq_getElem (by omega))
theorem VRel.restrict {K:zj} {ρ:Nat→Loc} {A A':Nat→Prop} {v:AV} {c:Value} (h:VRel K ρ A v c):Bel A' v→VRel K ρ A' v c:=by
  induction h with
  | junk v=>exact fun _=>.junk v
  | und=>exact fun _=>.und
  | int k n=>exact fun _=>.int k n
  | bool b=>exact fun _=>.bool b
  | bany b=>exact fun _=>.bany b
  | str s=>exact fun _=>.str s
  | nilp=>exact fun _=>.nilp
  | nils=>exact fun _=>.nils
  | nilf=>exact fun _=>.nilf
  | nilm=>exact fun _=>.nilm
  | inil=>exact fun _=>.inil
  | ifc _ h=>exact fun _=>.ifc _ h
  | zs a=>exact fun _=>.zs a
  | ptr g off a hg ha=>intro hb; cases hb with | ptr _ _ h=>exact .ptr g off a h ha
  | slc g off len cap a hg h1 h2=>intro hb; cases hb with | slc _ _ _ h=>exact .slc g off len cap a h h1 h2
  | amap g r hg hr=>intro hb; cases hb with | amap _ h=>exact .amap g r h hr
  | ro xs a len cap sz b off C h1 h2 h3 h4 h5 _ ih=>intro hb; cases hb with | ro _ h=>exact .ro xs a len cap sz b off C h1 h2 h3 h4 h5 fun i x j v hx hv=>ih i x j v hx hv (h i x j v hx hv)
  | rop cs o b p a C h1 h2 _ ih=>intro hb; cases hb with | rop _ _ h=>exact .rop cs o b p a C h1 h2 fun j v hv=>ih j v hv (h j v hv)
  | agg xs cs h1 _ ih=>intro hb; cases hb with | agg _ h=>exact .agg xs cs h1 fun j v c hv hc=>ih j v c hv hc (h j v hv)
  | tup xs cs h1 _ ih=>intro hb; cases hb with | tup _ h=>exact .tup xs cs h1 fun j v c hv hc=>ih j v c hv hc (h j v hv)
  | clo f xs cs h1 _ ih=>intro hb; cases hb with | clo _ _ h=>exact .clo f xs cs h1 fun j v c hv hc=>ih j v c hv hc (h j v hv)
inductive Frz (H:Heap) (nx:Nat):AV→AV→Prop
  | same (v:AV):Bel (· < nx) v→Frz H nx v v
  | nils:Frz H nx .nils (.ro [])
  | zs:Frz H nx .zs (.ro [])
  | slc (g off len sz:Nat) (cells:List AV) (xs:List (List AV)):nx≤g→H g=some (.row sz cells)→off+len*sz≤cells.length→xs.length=len→(∀ x∈xs,x.length=sz) →
      (U:Nat→Nat→AV)→(∀ (i:Nat) (x:List AV) (j:Nat) (v:AV),xs[i]? = some x→x[j]? = some v→cells[off+i*sz+j]? = some (U i j)) →
      (∀ (i:Nat) (x:List AV) (j:Nat) (v:AV),xs[i]? = some x→x[j]? = some v→Frz H nx (U i j) v)→Frz H nx (.slc g off len) (.ro xs)
  | agg (xs ys:List AV):ys.length=xs.length→(∀ (j:Nat) (v u:AV),xs[j]? = some v→ys[j]? = some u→Frz H nx v u)→Frz H nx (.agg xs) (.agg ys)
  | tup (xs ys:List AV):ys.length=xs.length→(∀ (j:Nat) (v u:AV),xs[j]? = some v→ys[j]? = some u→Frz H nx v u)→Frz H nx (.tup xs) (.tup ys)
theorem Frz.rel {A:Nat→Prop} {ρ:Nat→Loc} {H H0:Heap} {w:World} {nx:Nat} (s:Sim A ρ H w) (h0:∀ g o,H0 g=some o→g < nx∧H g=some o) {v u:AV} (h:Frz H nx v u) :
    ∀ (c:Value),VRel (Kof ρ H w) ρ A v c→VRel (Kof ρ H0 w) ρ (· < nx) u c:=by
  have hK:∀ b o,Kof ρ H w b=some o→Kof ρ H0 w b=some o:=fun b o hb=>by
    obtain ⟨h1,h2⟩:=zw.1 hb
    refine zw.2 ⟨fun g hg => ?_,h2⟩
    obtain ⟨o',ho'⟩:=Option.isSome_iff_exists.1 hg
    exact h1 g (by rw [(h0 g o' ho').2]; rfl)
  induction h with
  | same v hb=>exact fun c hc=>(hc.restrict hb).mono hK (fun _ h=>⟨rfl,h⟩)
  | nils =>
    intro c hc
    cases hc
    exact .ro [] none 0 0 0 0 0 (fun _ _=>undef) rfl (Nat.le_refl _) (fun h=>absurd rfl h) (fun x hx=>by cases hx) (fun i x j v hx=>by simp at hx) (fun i x j v hx=>by simp at hx)
  | zs =>
    intro c hc
    cases hc with
    | zs a=>exact .ro [] a 0 0 0 0 0 (fun _ _=>undef) rfl (Nat.le_refl _) (fun h=>absurd rfl h) (fun x hx=>by cases hx) (fun i x j v hx=>by simp at hx) (fun i x j v hx=>by simp at hx)
  | slc g off len sz cells xs hg hH hle hl hsz U hU _ ih =>
    intro c hc
    cases hc with
    | slc _ _ _ cap a hA hcl hcap =>
      obtain ⟨cc,el,lo,hi,q1,q2,q3,q4,q5,q6⟩:=s.obj g _ hH
      have hKb:Kof ρ H0 w (ρ g).block=some (.cells cc el (lo,hi)):=by
        refine zw.2 ⟨fun x hx e => ?_,q1⟩
        obtain ⟨o',ho'⟩:=Option.isSome_iff_exists.1 hx
        obtain ⟨h1,h2⟩:=h0 x o' ho'
        have:=s.inj x g (by rw [h2]; rfl) (by rw [hH]; rfl) e
        omega
      have hex:∀ (i:Nat) (x:List AV) (j:Nat) (v:AV),xs[i]? = some x→x[j]? = some v→∃ cv,cc[(ρ g).base+(off+i*sz+j)]? = some cv∧VRel (Kof ρ H w) ρ A (U i j) cv:=fun i x j v hx hv=>q6 _ _ (hU i x j v hx hv)
      refine .ro xs a len cap sz (ρ g).block ((ρ g).base+off) (fun i j=>(cc[(ρ g).base+(off+i*sz+j)]?).getD undef) hl.symm hcl (fun hne => ?_) hsz (fun i x j v hx hv => ?_) (fun i x j v hx hv => ?_)
      · have hpos:0 < xs.length:=List.length_pos_iff.2 hne
        exact (hcap (by omega)).2
      · obtain ⟨cv,h1,h2⟩:=hex i x j v hx hv
        unfold zjf
        rw [hKb]
        simp only [h1,Option.getD_some]
        rw [← h1]; congr 1; omega
      · obtain ⟨cv,h1,h2⟩:=hex i x j v hx hv
        rw [h1]
        exact ih i x j v hx hv cv h2
  | agg xs ys hl _ ih =>
    intro c hc
    cases hc with
    | agg _ cs h1 h2 =>
    exact .agg ys cs (by omega) fun j v c hv hc=>by
        have hlt:=(List.getElem?_eq_some_iff.1 hv).1
        have hx:xs[j]? = some (xs[j]'(by omega)):=List.getElem?_eq_getElem (by omega)
        exact ih j _ v hx hv c (h2 j _ c hx hc)
  | tup xs ys hl _ ih =>
    intro c hc
    cases hc with
    | tup _ cs h1 h2 =>
    exact .tup ys cs (by omega) fun j v c hv hc=>by
        have hlt:=(List.getElem?_eq_some_iff.1 hv).1
        have hx:xs[j]? = some (xs[j]'(by omega)):=List.getElem?_eq_getElem (by omega)
        exact ih j _ v hx hv c (h2 j _ c hx hc)
theorem za.gc {P:Program} {f:FuncId} {args:List AV} {H:Heap} {nx:Nat} {Q:AV→Heap→Nat→Prop} {R:AV→Heap→Prop} (h:za P f args H nx Q)
    (hq:∀ v H' nx',Q v H' nx'→∃ r H0,R r H0∧Frz H' nx v r∧(∀ g o,H0 g=some o→g < nx∧H' g=some o∧(H g=some o∨BelO (· < nx) o))) :
    za P f args H nx fun v H' nx'=>R v H'∧nx'=nx:=by
  intro ρ w cargs s ha
  refine zae (h ρ w cargs s ha) fun cv w' ⟨v,H',nx',ρ',q1,q2,q3,q4⟩ => ?_
  obtain ⟨r,H0,hR,hF,h0⟩:=hq v H' nx' q1
  have h0':∀ g o,H0 g=some o→g < nx∧H' g=some o:=fun g o ho=>⟨(h0 g o ho).1,(h0 g o ho).2.1⟩
  have hK:∀ b o,Kof ρ' H' w' b=some o→Kof ρ' H0 w' b=some o:=fun b o hb=>by
    obtain ⟨h1,h2⟩:=zw.1 hb
    refine zw.2 ⟨fun g hg => ?_,h2⟩
    obtain ⟨o',ho'⟩:=Option.isSome_iff_exists.1 hg
    exact h1 g (by rw [(h0' g o' ho').2]; rfl)
  refine ⟨r,H0,nx,ρ',⟨hR,rfl⟩,⟨fun g o ho=>(h0 g o ho).1,fun g o ho => ?_,fun x y hx hy hb => ?_,q2.lay.mono hK⟩,hF.rel q2 h0' cv q3,⟨fun g hg=>⟨(q4.agree g hg).1,hg⟩,fun b o hb=>hK b o (q4.k b o hb),q4.os,q4.tape,q4.output,q4.size⟩⟩
  · obtain ⟨hg,hH',hbel⟩:=h0 g o ho
    have hobj:=q2.obj g o hH'
    have hcells:BelO (· < nx) o:=by
      rcases hbel with hs | hb
      · have:=s.obj g o hs
        cases o with
        | row sz cells =>
          obtain ⟨_,_,_,_,_,_,_,_,_,p6⟩:=this
          intro j x hx
          obtain ⟨cv,_,hv⟩:=p6 j x hx
          exact hv.bel
        | mp es =>
          obtain ⟨en,cl,p1,p2,p3,_⟩:=this
          intro j kv hkv
          have hlt:=(List.getElem?_eq_some_iff.1 hkv).1
          obtain ⟨a1,a2⟩:=p3 j kv _ hkv (Array.getElem?_eq_getElem (by omega))
          exact ⟨a1.bel,a2.bel⟩
        | it g c seen=>exact this.2.2
      · exact hb
    cases o with
    | row sz cells =>
      obtain ⟨c,el,lo,hi,p1,p2,p3,p4,p5,p6⟩:=hobj
      exact ⟨c,el,lo,hi,p1,p2,p3,p4,p5,fun j x hx=>let ⟨cv,a1,a2⟩:=p6 j x hx; ⟨cv,a1,(a2.restrict (hcells j x hx)).mono hK (fun _ h=>⟨rfl,h⟩)⟩⟩
    | mp es =>
      obtain ⟨en,cl,p1,p2,p3,p4⟩:=hobj
      exact ⟨en,cl,p1,p2,fun j kv x hkv hx=>let ⟨a1,a2⟩:=p3 j kv x hkv hx; ⟨(a1.restrict (hcells j kv hkv).1).mono hK (fun _ h=>⟨rfl,h⟩),(a2.restrict (hcells j kv hkv).2).mono hK (fun _ h=>⟨rfl,h⟩)⟩,p4⟩
    | it g c seen=>exact ⟨hobj.1,hobj.2.1,hcells⟩
  · obtain ⟨o1,ho1⟩:=Option.isSome_iff_exists.1 hx
    obtain ⟨o2,ho2⟩:=Option.isSome_iff_exists.1 hy
    exact q2.inj x y (by rw [(h0' x o1 ho1).2]; rfl) (by rw [(h0' y o2 ho2).2]; rfl) hb
def QC (P:Program) (f:FuncId) (args:List AV) (r:AV):Prop:=∀ H nx,za P f args H nx fun v H' nx'=>v=r∧H'=H∧nx'=nx
theorem za.tidy {P:Program} {f:FuncId} {args:List AV} {H:Heap} {nx:Nat} {Q:AV→Heap→Nat→Prop} (h:(∀ g o,H g=some o→g < nx)→za P f args H nx Q):za P f args H nx Q :=
  fun ρ w cargs s ha=>h (fun g o ho=>s.live g o ho) ρ w cargs s ha
theorem QC.of {P:Program} {f:FuncId} {args:List AV} {r:AV} (h:∀ H nx,za P f args H nx fun v H' _=>Frz H' nx v r∧∀ g,g < nx→H' g=H g):QC P f args r:=by
  intro H nx
  refine za.tidy fun hlive => ?_
  refine (za.gc (R:=fun v H'=>v=r∧H'=H) (h H nx) fun v H' nx' ⟨h1,h2⟩=>⟨r,H,⟨rfl,rfl⟩,h1,fun g o ho=>⟨hlive g o ho,by rw [h2 g (hlive g o ho)]; exact ho,.inl ho⟩⟩).mono fun v H' nx' ⟨⟨a,b⟩,c⟩=>⟨a,b,c⟩
theorem Bel.mono {A B:Nat→Prop} {v:AV} (h:Bel A v) (hAB:∀ g,A g→B g):Bel B v:=by
  induction h with
  | junk=>exact .junk
  | und=>exact .und
  | int k n=>exact .int k n
  | bool b=>exact .bool b
  | bany=>exact .bany
  | str s=>exact .str s
  | nilp=>exact .nilp
  | nils=>exact .nils
  | nilf=>exact .nilf
  | nilm=>exact .nilm
  | inil=>exact .inil
  | ifc=>exact .ifc
  | zs=>exact .zs
  | ptr g off h=>exact .ptr g off (hAB g h)
  | slc g off len h=>exact .slc g off len (hAB g h)
  | amap g h=>exact .amap g (hAB g h)
  | ro xs _ ih=>exact .ro xs ih
  | rop cs o _ ih=>exact .rop cs o ih
  | agg xs _ ih=>exact .agg xs ih
  | tup xs _ ih=>exact .tup xs ih
  | clo f xs _ ih=>exact .clo f xs ih
theorem zam.restrict {K:zj} {ρ:Nat→Loc} {A A':Nat→Prop} {w:World} {l:Loc} {o:AObj} (h:zam K ρ A w l o) (hb:BelO A' o):zam K ρ A' w l o:=by
  cases o with
  | row sz cells =>
    obtain ⟨c,el,lo,hi,p1,p2,p3,p4,p5,p6⟩:=h
    exact ⟨c,el,lo,hi,p1,p2,p3,p4,p5,fun j x hx=>let ⟨cv,a1,a2⟩:=p6 j x hx; ⟨cv,a1,a2.restrict (hb j x hx)⟩⟩
  | mp es =>
    obtain ⟨en,cl,p1,p2,p3,p4⟩:=h
    exact ⟨en,cl,p1,p2,fun j kv x hkv hx=>let ⟨a1,a2⟩:=p3 j kv x hkv hx; ⟨a1.restrict (hb j kv hkv).1,a2.restrict (hb j kv hkv).2⟩,p4⟩
  | it g c seen=>exact ⟨h.1,h.2.1,hb⟩
theorem zam.bel {K:zj} {ρ:Nat→Loc} {A:Nat→Prop} {w:World} {l:Loc} {o:AObj} (h:zam K ρ A w l o):BelO A o:=by
  cases o with
  | row sz cells =>
    obtain ⟨_,_,_,_,_,_,_,_,_,p6⟩:=h
    intro j x hx
    obtain ⟨cv,_,hv⟩:=p6 j x hx
    exact hv.bel
  | mp es =>
    obtain ⟨en,cl,p1,p2,p3,_⟩:=h
    intro j kv hkv
    have hlt:=(List.getElem?_eq_some_iff.1 hkv).1
    obtain ⟨a1,a2⟩:=p3 j kv _ hkv (Array.getElem?_eq_getElem (by omega))
    exact ⟨a1.bel,a2.bel⟩
  | it g c seen=>exact h.2.2
theorem LC.of_qc {P:Program} {f:FuncId} {args:List AV} {r:AV} (h:QC P f args r) (hr:Bel (fun _=>False) r) (H0:Heap):LC P f args H0 [] [] [] r:=by
  intro A ρ H w cargs ⟨N,hN⟩ s ha _ _
  have sN:Sim (· < N) ρ H w:=⟨fun g o ho=>hN g (s.live g o ho),fun g o ho=>(s.obj g o ho).mono rfl (fun _ _ h=>h) (fun g hg=>⟨rfl,hN g hg⟩),s.inj,s.lay⟩
  have aN:LRel (Kof ρ H w) ρ (· < N) args cargs.toList:=⟨ha.1,fun j v c hv hc=>(ha.2 j v c hv hc).mono (fun _ _ h=>h) (fun g hg=>⟨rfl,hN g hg⟩)⟩
  refine zae (h H N ρ w cargs sN aN) fun cv w' ⟨r',H',nx',ρ',⟨q0,q1,q2⟩,q3,q4,q5⟩ => ?_
  subst q0; subst q1; subst q2
  have hA:(fun x=>A x∨x∈([]:List Nat))=A:=by funext x; simp
  refine ⟨ρ',?_,?_,?_⟩
  · rw [hA]
    exact ⟨s.live,fun g o ho=>(q3.obj g o ho).restrict (s.obj g o ho).bel,q3.inj,q3.lay⟩
  · rw [hA]
    exact q4.restrict (hr.mono fun _ h=>h.elim)
  · rw [hA]
    exact ⟨fun g hg=>⟨(q5.agree g (hN g hg)).1,hg⟩,q5.k,q5.os,q5.tape,q5.output,q5.size⟩
theorem zm.of_qc {P:Program} {f:FuncId} {args cap:List AV} {r:AV} {H:Heap} {nx:Nat} {k:Kt} (h:QC P f (args ++ cap) r) (hr:Bel (fun _=>False) r) (hk:k r [] [] []):zm P (.clo f cap) args H nx k :=
  ⟨r,[],[],[],.inl rfl,LC.of_qc h hr H,hk⟩
end Go.Proofs.YtpllgpgdcbgalaaDoor
set_option maxRecDepth 8000
namespace Go.Proofs.YtpllgpgdcbgalaaDoor
open Go Go.RowKit
theorem LRel.one {K:zj} {ρ:Nat→Loc} {A:Nat→Prop} {v:AV} {c:Value} (h:VRel K ρ A v c):LRel K ρ A [v] [c]:=LRel.cons h LRel.nil
structure OpA (P:Program) (t:TypeId) {α:Type} (av:α→List AV) (ok:α→Prop):Prop where
  len:∀ x,ok x→(av x).length=P.cellsOf t
  get:∀ {H:Type} (enc:TypeId×Value→H) (w:World) (base:Nat) (sp:Nat→Bool) (held:Bool) (fuel:Nat) (cs:List Value) (x:DataW H×List MemPlace),
    DataW.trod enc P w base sp held fuel t cs=some x→(∀ n∈x.1.weights P t,n≤reachBytes)→∃ y,ok y∧∀ ρ A,LRel (fun b=>w.heap[b]?) ρ A (av y) cs
theorem zacy {P:Program} {t:TypeId} (ht:P.underlying t=some .string) (hc:P.cellsOf t=1):OpA P t (fun s:List UInt8=>[.str s]) (fun s=>s.length≤reachBytes) :=
  ⟨fun _ _=>hc.symm,fun enc w base sp held fuel cs x h hw=>by
    obtain ⟨s,rfl,rfl,_⟩:=DataW.trod_string ht h
    exact ⟨s.data.toList,hw _ (by simp [DataW.weights]),fun ρ A=>LRel.one (.str _)⟩⟩
theorem za.law {P:Program} {f:FuncId} {args:List AV} {r:AV} {cargs:Array Value} {w:World} {fn:Func} {c:Code} (hf:P.funcs[f]? = some fn) (hb:fn.body=some c) (hname:(fn.name == "runtime.NumGoroutine")=false)
    (hlay:LayK (fun b=>w.heap[b]?)) (h:∀ H nx,za P f args H nx fun v _ _=>v=r) (ha:∀ ρ A,LRel (fun b=>w.heap[b]?) ρ A args cargs.toList) :
    Calls P f cargs w fun e w'=>∃ v,e=.returned v∧(∃ K ρ A,VRel K ρ A r v)∧Below w.heap.size w w':=by
  have hk:Kof (fun _=>default) (fun _=>none) w=fun b=>w.heap[b]? := by
    funext b
    unfold Kof
    rw [if_neg (by rintro ⟨g,hg,_⟩; simp at hg)]
  have s:Sim (fun x=>x < 0) (fun _=>default) (fun _=>none) w:=⟨fun g o h=>(by cases h),fun g o h=>(by cases h),fun g g' h _ _=>(by cases h),by rw [hk]; exact hlay⟩
  have:=h (fun _=>none) 0 (fun _=>default) w cargs s (by rw [hk]; exact ha _ _)
  have hcall:(callFunc f cargs).run P w=.ok (.enter f cargs) w:=by
    have hname':¬ fn.name = "runtime.NumGoroutine" := by simpa using hname
    simp [callFunc,program,Sem.run_bind,Sem.run,hf,hname',hb,pure]
  rw [hcall] at this
  simp only [zy] at this
  refine this.mono fun e w' ⟨v,he,r',H',nx',ρ',q0,q1,q2,q3⟩ => ?_
  subst q0
  refine ⟨v,he,⟨_,_,_,q2⟩,⟨q3.os,q3.tape,q3.output,q3.size,fun k hk' => ?_⟩⟩
  have:=q3.k k (w.heap[k]) (by rw [hk]; exact Array.getElem?_eq_getElem hk')
  rw [(zw.1 this).2,Array.getElem?_eq_getElem hk']
end Go.Proofs.YtpllgpgdcbgalaaDoor
set_option maxRecDepth 8000
namespace Go.Proofs.YtpllgpgdcbgalaaDoor
open Go Go.RowKit
theorem cStr:Tryd.prog.cellsOf 9=1:=by kernel_rfl
theorem oStr:OpA Tryd.prog 9 (fun s:List UInt8=>[.str s]) (fun s=>s.length≤reachBytes):=zacy Tryd.underlying9 cStr
end Go.Proofs.YtpllgpgdcbgalaaDoor
set_option maxRecDepth 8000
namespace Go.Proofs.YtpllgpgdcbgalaaDoor
open Go Go.RowKit
section
variable (P:Program)
def szAt (t:TypeId):Nat:=match atOf P t with | some a=>a.size | none=>0
def zkg (t:TypeId):Bool:=match atOf P t with | some a=>!a.kind.isAgg && Nat.beq a.size 1 | none=>false
def zgg (ok:TypeId→Option (List AV)):List Field→Nat→Option (List AV)
  | [],_=>some []
  | f :: r,off=>if f.name ≠ "_" ∧ f.offset=off then match ok f.type with
      | some z=>match zgg ok r (off+z.length) with
        | some zr=>some (z ++ zr)
        | none=>none
      | none=>none
    else none
def zhc : Nat→TypeId→Option (List AV)
  | 0,_=>none
  | d + 1,t=>match P.underlying t with
    | some (.int k)=>if zkg P t=true then some [.int k 0] else none
    | some .string=>if zkg P t=true then some [.str []] else none
    | some .bool=>if zkg P t=true then some [.bool false] else none
    | some (.struct fs)=>if P.stoodInHeld t=false∧(match atOf P t with | some a=>a.kind.isAgg | none=>false)=true then match zgg (zhc d) fs.toList 0 with
        | some zs=>if zs.length=szAt P t then some zs else none
        | none=>none
      else none
    | _=>none
def zxa (t:TypeId):Bool:=match atOf P t with
  | some a=>a.kind.isAgg && (match zhc P 4 t with | some zs=>(zd zs a.zero).isSome | none=>false) && !(P.eqGuardType P.depth t)
  | none=>false
end
theorem zli : ∀ {xs ys:List AV} {r:Bool},zd xs ys=some r→xs.length=ys.length
  | [],[],_,_=>rfl
  | [],_ :: _,_,h=>by simp [zd] at h
  | x :: xs,[],_,h=>by cases x <;> simp [zd] at h
  | x :: xs, y :: ys,r,h=>by
    have : ∃ r',zd xs ys=some r':=by
      cases x <;> cases y <;> simp only [zd] at h <;> first
        | (cases h; done)
        | (split at h
           · obtain ⟨r',h',_⟩:=Option.map_eq_some_iff.1 h; exact ⟨r',h'⟩
           · cases h)
        | (obtain ⟨r',h',_⟩:=Option.map_eq_some_iff.1 h; exact ⟨r',h'⟩)
    obtain ⟨r',h'⟩:=this
    simp [zli h']
theorem ztz {x y:AV} {xs ys:List AV} {r:Bool} (h:zd (x :: xs) (y :: ys)=some r):∃ r1 r2,zd [x] [y]=some r1∧zd xs ys=some r2∧r=(r1 && r2):=by
  cases x <;> cases y <;> simp only [zd] at h ⊢ <;> first
    | (cases h; done)
    | (split at h
       · rename_i hk
         obtain ⟨r',h',rfl⟩:=Option.map_eq_some_iff.1 h
         exact ⟨_,r',by rw [if_pos hk]; rfl,h',by simp⟩
       · cases h)
    | (obtain ⟨r',h',rfl⟩:=Option.map_eq_some_iff.1 h
       exact ⟨_,r',rfl,h',by simp⟩)
theorem zhd : ∀ {xs ys:List AV} {r1 r2:Bool} {us vs:List AV},zd xs ys=some r1→zd us vs=some r2→zd (xs ++ us) (ys ++ vs)=some (r1 && r2)
  | [],[],r1,r2,us,vs,h,k=>by simp [zd] at h; subst h; simpa using k
  | [],_ :: _,_,_,_,_,h,_=>by simp [zd] at h
  | x :: xs,[],_,_,_,_,h,_=>by cases x <;> simp [zd] at h
  | x :: xs, y :: ys,r1,r2,us,vs,h,k=>by
    cases x <;> cases y <;> simp only [zd,List.cons_append] at h ⊢ <;> first
      | (cases h; done)
      | (split at h
         · rename_i hk
           obtain ⟨r',h',rfl⟩:=Option.map_eq_some_iff.1 h
           rw [if_pos hk,zhd h' k]; simp [Bool.and_assoc]
         · cases h)
      | (obtain ⟨r',h',rfl⟩:=Option.map_eq_some_iff.1 h
         rw [zhd h' k]; simp [Bool.and_assoc])
theorem zim:∀ (n:Nat) {xs ys:List AV} {r:Bool},zd xs ys=some r→∃ r1 r2,zd (xs.take n) (ys.take n)=some r1∧zd (xs.drop n) (ys.drop n)=some r2∧r=(r1 && r2)
  | 0,xs,ys,r,h=>⟨true,r,by simp [zd],by simpa using h,by simp⟩
  | n+1,[],[],r,h=>⟨true,r,by simp [zd],by simpa using h,by simp⟩
  | n+1,[],_ :: _,r,h=>by simp [zd] at h
  | n+1,x :: xs,[],r,h=>by cases x <;> simp [zd] at h
  | n+1,x :: xs,y :: ys,r,h=>by
    obtain ⟨r1,r2,h1,h2,rfl⟩:=ztz h
    obtain ⟨q1,q2,g1,g2,rfl⟩:=zim n h2
    refine ⟨r1 && q1,q2,?_,by simpa using g2,by simp [Bool.and_assoc]⟩
    simpa using zhd h1 g1
theorem zfl:∀ {a b c:List AV},(zd a b).isSome=true→(zd b c).isSome=true→(zd a c).isSome=true
  | [],[],c,_,h=>h
  | [],_ :: _,_,h,_=>by simp [zd] at h
  | x :: a,[],_,h,_=>by cases x <;> simp [zd] at h
  | x :: a,y :: b,[],_,h=>by cases y <;> simp [zd] at h
  | x :: a, y :: b,z :: c,h,k=>by
    cases x <;> cases y <;> simp only [zd] at h <;> try (cases h; done)
    all_goals
      cases z <;> simp only [zd] at k <;> try (cases k; done)
    · split at h
      · rename_i h1
        split at k
        · rename_i h2
          simp only [zd]
          rw [if_pos (h1.trans h2)]
          have:=zfl (a:=a) (b:=b) (c:=c) (by simpa using h) (by simpa using k)
          simpa using this
        · cases k
      · cases h
    · have:=zfl (a:=a) (b:=b) (c:=c) (by simpa using h) (by simpa using k)
      simpa [zd] using this
    · have:=zfl (a:=a) (b:=b) (c:=c) (by simpa using h) (by simpa using k)
      simpa [zd] using this
theorem zrx (n:Nat) {xs ys:List AV} (h:(zd xs ys).isSome=true):(zd (xs.take n) (ys.take n)).isSome=true∧(zd (xs.drop n) (ys.drop n)).isSome=true:=by
  obtain ⟨r,hr⟩:=Option.isSome_iff_exists.1 h
  obtain ⟨r1,r2,h1,h2,_⟩:=zim n hr
  exact ⟨by rw [h1]; rfl,by rw [h2]; rfl⟩
section
variable {P:Program}
def zup (P:Program) (t:TypeId) (z:AV):Prop:=match z with
  | .int k _=>P.underlying t=some (.int k)
  | .str _=>P.underlying t=some .string
  | .bool _=>P.underlying t=some .bool
  | _=>False
theorem zsx {t:TypeId} {k:Nat} {w:World} {K:zj} {ρ:Nat→Loc} {A:Nat→Prop} {z v u:AV} {a b:Value} {r:Bool} (hu:zup P t z) (hz:(zd [z] [v]).isSome=true)
    (hv:VRel K ρ A v a) (hw:VRel K ρ A u b) (he:zd [v] [u]=some r):(Op.equalIn (k+1) t a b).run P w=.ok r w:=by
  cases z <;> simp only [zup] at hu <;> cases v <;> simp only [zd] at hz <;> (try (cases hz; done)) <;> cases u <;> simp only [zd] at he <;> (try (cases he; done)) <;> cases hv <;> cases hw
  · split at he
    · rename_i hk
      subst hk
      rw [run_equalIn_int w k t _ _ _ _ hu]
      simpa using he
    · cases he
  · rw [run_equalIn_bool' w k t _ _ hu]; simpa using he
  · rw [run_equalIn_string w k t _ _ hu]; simpa [ByteArray.toList_eq] using he
def zacm (P:Program) (d:Nat) (t:TypeId) (zs:List AV):Prop:=∃ a,atOf P t=some a∧zs.length=a.size∧(a.kind.isAgg=false→a.size=1)∧∀ (k:Nat),d≤k→∀ (w:World) (K:zj) (ρ:Nat→Loc) (A:Nat→Prop) (cells cells':List AV) (off:Nat) (v u:AV) (r:Bool) (x y:Value),
    ldv a.kind.isAgg a.size cells off=some v→ldv a.kind.isAgg a.size cells' off=some u→(zd zs ((cells.drop off).take a.size)).isSome=true→zd ((cells.drop off).take a.size) ((cells'.drop off).take a.size)=some r→VRel K ρ A v x→VRel K ρ A u y →
    (Op.equalIn k t x y).run P w=.ok r w
theorem zkl {d:Nat} {t:TypeId} {z:AV} (hu:zup P t z) (hs:zkg P t=true):zacm P (d+1) t [z]:=by
  unfold zkg at hs
  cases ha:atOf P t with
  | none=>rw [ha] at hs; cases hs
  | some a =>
    rw [ha] at hs
    simp only [Bool.and_eq_true] at hs
    have hag:a.kind.isAgg=false:=by simpa using hs.1
    have hsz:a.size=1:=Nat.eq_of_beq_eq_true hs.2
    refine ⟨a,ha,by rw [hsz]; rfl,fun _=>hsz,fun k hk w K ρ A cells cells' off v u r x y e1 e2 e0 e3 r1 r2 => ?_⟩
    simp only [ldv,hag,cond_false] at e1 e2
    have t1:∀ {l:List AV} {q:AV},l[off]? = some q→(l.drop off).take 1=[q]:=by
      intro l q hl
      obtain ⟨hlt,rfl⟩:=List.getElem?_eq_some_iff.1 hl
      rw [List.drop_eq_getElem_cons hlt]; rfl
    rw [hsz,t1 e1] at e0
    rw [hsz,t1 e1,t1 e2] at e3
    obtain ⟨k',rfl⟩:∃ k',k=k'+1:=⟨k - 1,by omega⟩
    exact zsx hu e0 r1 r2 e3
theorem zty : ∀ (d:Nat) (t:TypeId) (zs:List AV),zhc P d t=some zs→zacm P d t zs
  | 0,t,zs,h=>by cases h
  | d + 1, t, zs, h=>by
    unfold zhc at h
    split at h
    · rename_i ki hu
      split at h
      · rename_i hs; cases h; exact zkl hu hs
      · cases h
    · rename_i hu
      split at h
      · rename_i hs; cases h; exact zkl hu hs
      · cases h
    · rename_i hu
      split at h
      · rename_i hs; cases h; exact zkl hu hs
      · cases h
    · rename_i fs hu
      by_cases hc:P.stoodInHeld t=false∧(match atOf P t with | some a=>a.kind.isAgg | none=>false)=true
      case neg=>rw [if_neg hc] at h; cases h
      rw [if_pos hc] at h
      obtain ⟨hst,h3⟩:=hc
      split at h
      case h_2=>cases h
      rename_i zs' hf
      split at h
      case isFalse=>cases h
      rename_i hlen
      obtain rfl:=Option.some.inj h
      cases ha:atOf P t with
      | none=>rw [ha] at h3; cases h3
      | some a =>
        rw [ha] at h3
        simp only at h3
        have hl:zs'.length=a.size:=by rw [hlen]; unfold szAt; rw [ha]
        refine ⟨a,ha,hl,fun e=>(by rw [h3] at e; cases e),fun k hk w K ρ A cells cells' off v u r x y e1 e2 e0 e3 r1 r2 => ?_⟩
        simp only [ldv,h3,cond_true] at e1 e2
        split at e1
        case isFalse=>cases e1
        rename_i l1
        split at e2
        case isFalse=>cases e2
        rename_i l2
        cases e1
        cases e2
        cases r1 with
        | agg _ cs g1 g2 =>
        cases r2 with
        | agg _ ds g3 g4 =>
        obtain ⟨k',rfl⟩:∃ k',k=k'+1:=⟨k - 1,by omega⟩
        have hfo:P.fieldsOf t=fs:=by simp [Program.fieldsOf,hu]
        rw [run_equalIn_struct w k' t cs ds (by rw [hfo]; exact hu) hst,hfo]
        have loop:∀ (fl:List Field) (o:Nat) (zs xs ys:List AV) (r:Bool),zgg (zhc P d) fl o=some zs→LRel K ρ A xs cs.toList→LRel K ρ A ys ds.toList→xs.length=o+zs.length→ys.length=o+zs.length →
            (zd zs (xs.drop o)).isSome=true→zd (xs.drop o) (ys.drop o)=some r→(Op.eqFields k' cs ds fl).run P w=.ok r w:=by
          intro fl
          induction fl with
          | nil =>
            intro o zs xs ys r hf q1 q2 n1 n2 hz he
            simp only [zgg,Option.some.injEq] at hf
            subst hf
            simp only [List.length_nil] at n1 n2
            rw [List.drop_of_length_le (by omega),List.drop_of_length_le (by omega)] at he
            simp only [zd,Option.some.injEq] at he
            simp [Op.eqFields,Sem.run_pure,he]
          | cons f fl ih =>
            intro o zs xs ys r hf q1 q2 n1 n2 hz he
            unfold zgg at hf
            split at hf
            case isFalse=>cases hf
            rename_i hc
            obtain ⟨c1,c2⟩:=hc
            split at hf
            case h_2=>cases hf
            rename_i z hzk
            split at hf
            case h_2=>cases hf
            rename_i zr hzr
            obtain rfl:=Option.some.inj hf
            obtain ⟨b,hb,hzl,hb1,hrun⟩:=zty d f.type z hzk
            rw [List.length_append] at n1 n2
            obtain ⟨s1,s2,t1,t2,rfl⟩:=zim z.length he
            obtain ⟨z1,z2⟩:=zrx z.length hz
            rw [List.take_left] at z1
            rw [List.drop_left,List.drop_drop] at z2
            rw [List.drop_drop,List.drop_drop] at t2
            obtain ⟨i,dd,zv,hb'⟩:=(show TOk P (atOf P) from fun _ _ h=>h).at hb
            have ld:∀ l:List AV,l.length=o+(z.length+zr.length)→∃ q,ldv b.kind.isAgg b.size l o=some q:=by
              intro l hl
              unfold ldv
              cases hag:b.kind.isAgg with
              | true=>rw [cond_true,if_pos (by omega)]; exact ⟨_,rfl⟩
              | false =>
                rw [cond_false]
                have:=hb1 hag
                exact ⟨_,List.getElem?_eq_getElem (by omega)⟩
            obtain ⟨p,hp⟩:=ld xs n1
            obtain ⟨q,hq⟩:=ld ys n2
            obtain ⟨pv,hpv,hpr⟩:=zhg (P:=P) (w:=w) hb' q1 hp
            obtain ⟨qv,hqv,hqr⟩:=zhg (P:=P) (w:=w) hb' q2 hq
            have hone:=hrun k' (by omega) w K ρ A xs ys o p q s1 pv qv hp hq (by rw [← hzl]; exact z1) (by rw [← hzl]; exact t1) hpr hqr
            have hrest:=ih (o+z.length) zr xs ys s2 hzr q1 q2 (by omega) (by omega) z2 t2
            simp only [Op.eqFields,c1,ne_eq,not_false_eq_true,if_true,Sem.run_bind,c2,hpv,hqv,hone,Result.andThen_ok]
            cases s1
            · simp [Sem.run_pure]
            · simpa using hrest
        refine loop fs.toList 0 zs' _ _ r hf ⟨by simpa using g1,fun j v c h1 h2=>g2 j v c h1 (by simpa using h2)⟩ ⟨by simpa using g3,fun j v c h1 h2=>g4 j v c h1 (by simpa using h2)⟩ (by simp; omega) (by simp; omega) ?_ ?_
        · simpa using e0
        · simpa using e3
    · cases h
theorem zadr {d:Nat} {t:TypeId} {a:AT} {zs:List AV} (hd:d≤10000) (h:zhc P d t=some zs) (hz:(zd zs a.zero).isSome=true) (hg:P.eqGuardType P.depth t=false) (ha:atOf P t=some a) (hag:a.kind.isAgg=true):EqTy P t a.zero:=by
  intro w K ρ A xs ys cs ds r x y op q1 q2 hl he
  obtain ⟨a',ha',hzl,_,hrun⟩:=zty d t zs h
  obtain rfl:a=a':=Option.some.inj (ha.symm.trans ha')
  have hlen:=zli he
  have hzx:=zfl hz hl
  have hxl:zs.length=xs.length:=by obtain ⟨r0,h0⟩:=Option.isSome_iff_exists.1 hzx; exact zli h0
  refine ⟨?_,run_eqGuard_agg w op t x y cs ds hg⟩
  unfold Op.equal Op.maxDepth
  have full:∀ l:List AV,l.length=a.size→(l.drop 0).take a.size=l:=fun l hl=>by rw [List.drop_zero,List.take_of_length_le (by omega)]
  refine hrun 10000 hd w K ρ A xs ys 0 (.agg xs) (.agg ys) r _ _ ?_ ?_ ?_ ?_ (LRel.agg q1) (LRel.agg q2)
  · simp only [ldv,hag,cond_true]; rw [if_pos (by omega),full xs (by omega)]
  · simp only [ldv,hag,cond_true]; rw [if_pos (by omega),full ys (by omega)]
  · rw [full xs (by omega)]; exact hzx
  · rw [full xs (by omega),full ys (by omega)]; exact he
theorem zabc {T:Nat→Option AT} (hT:TOk P T):EOk P T (zxa P):=by
  intro t a h ht
  have ha:=hT t a ht
  unfold zxa at h
  rw [ha] at h
  simp only [Bool.and_eq_true] at h
  obtain ⟨⟨h1,h2⟩,h3⟩:=h
  cases hk:zhc P 4 t with
  | none=>rw [hk] at h2; cases h2
  | some zs =>
    rw [hk] at h2
    exact zadr (by omega) hk h2 (by simpa using h3) ha h1
end
end Go.Proofs.YtpllgpgdcbgalaaDoor
set_option maxRecDepth 8000
namespace Go.Proofs.YtpllgpgdcbgalaaDoor
open Go Go.RowKit
theorem mixed:Tryd.prog.follows .mixedOrders=true:=by kernel_rfl
noncomputable def tab:Nat→Option AT:=atOf Tryd.prog
theorem zz:TOk Tryd.prog tab:=fun _ _ h=>h
def ztb (t:Nat):Bool:=Nat.blt t 1000000
noncomputable def eqsT (t:Nat):Bool:=bif ztb t then zxa Tryd.prog t else false
theorem zab:EOk Tryd.prog tab eqsT:=by
  intro t a h ht
  unfold eqsT at h
  generalize ztb t=b at h
  cases b with
  | true=>rw [cond_true] at h; exact zabc zz t a h ht
  | false=>rw [cond_false] at h; cases h
end Go.Proofs.YtpllgpgdcbgalaaDoor
set_option maxRecDepth 8000
namespace Go.Proofs.YtpllgpgdcbgalaaDoor
open Go Go.RowKit
theorem JN.same {J:J3} {B:J3→Prop} (h:B J):JN J B:=⟨J,fun _ _ _ h=>h,h⟩
theorem JN.cut {J:J3} {B:J3→Prop} (I:J3) (h1:∀ xs H nx,I xs H nx→J xs H nx) (h2:B I):JN J B:=⟨I,h1,h2⟩
theorem LP.mk {F:J3→J3} {xs:List AV} {H:Heap} {nx:Nat} (I:Nat→J3) (n:Nat) (h0:I n xs H nx) (hs:∀ n xs H nx,I n xs H nx→F (fun xs H nx=>∃ m,m < n∧I m xs H nx) xs H nx):LP F xs H nx:=⟨I,n,h0,hs⟩
@[simp] theorem zwr (x:AV) (xs:List AV):nth (x :: xs) 0=x:=rfl
@[simp] theorem zwq (x y:AV) (xs:List AV):nth (x :: y :: xs) 1=y:=rfl
@[simp] theorem zwp (x y z:AV) (xs:List AV):nth (x :: y :: z :: xs) 2=z:=rfl
@[simp] theorem zacd (x y z a:AV) (xs:List AV):nth (x :: y :: z :: a :: xs) 3=a:=rfl
@[simp] theorem zacc (x y z a b:AV) (xs:List AV):nth (x :: y :: z :: a :: b :: xs) 4=b:=rfl
@[simp] theorem zafb (x y z a b c:AV) (xs:List AV):nth (x :: y :: z :: a :: b :: c :: xs) 5=c:=rfl
@[simp] theorem zafa (x y z a b c d:AV) (xs:List AV):nth (x :: y :: z :: a :: b :: c :: d :: xs) 6=d:=rfl
@[simp] theorem zaez (x y z a b c d e:AV) (xs:List AV):nth (x :: y :: z :: a :: b :: c :: d :: e :: xs) 7=e:=rfl
@[simp] theorem zame (x y z a b c d e f:AV) (xs:List AV):nth (x :: y :: z :: a :: b :: c :: d :: e :: f :: xs) 8=f:=rfl
@[simp] theorem zacb (x y z a b c d e f g:AV) (xs:List AV):nth (x :: y :: z :: a :: b :: c :: d :: e :: f :: g :: xs) 9=g:=rfl
def OPTK {α:Type} (o:Option α) (k:α→Prop):Prop:=∃ v,o=some v∧k v
@[simp ↓] theorem optk {α:Type} {v:α} {k:α→Prop}:OPTK (some v) k=k v:=by simp [OPTK]
@[simp ↓] theorem zyk {α:Type} {k:α→Prop}:OPTK none k=False:=by simp [OPTK]
@[congr] theorem zajl {α:Type} {o o':Option α} {k:α→Prop} (h:o=o'):OPTK o k=OPTK o' k:=by rw [h]
def ROWK (o:Option AObj) (k:Nat→List AV→Prop):Prop:=∃ s cs,o=some (.row s cs)∧k s cs
@[simp ↓] theorem rowk {s:Nat} {cs:List AV} {k:Nat→List AV→Prop}:ROWK (some (.row s cs)) k=k s cs:=by
  apply propext; constructor
  · rintro ⟨s',cs',h,hk⟩; cases h; exact hk
  · exact fun h=>⟨s,cs,rfl,h⟩
@[congr] theorem zajk {o o':Option AObj} {k:Nat→List AV→Prop} (h:o=o'):ROWK o k=ROWK o' k:=by rw [h]
def MAPK (o:Option AObj) (k:List (AV×AV)→Prop):Prop:=∃ es,o=some (.mp es)∧k es
@[simp ↓] theorem mapk {es:List (AV×AV)} {k:List (AV×AV)→Prop}:MAPK (some (.mp es)) k=k es:=by
  apply propext; constructor
  · rintro ⟨es',h,hk⟩; cases h; exact hk
  · exact fun h=>⟨es,rfl,h⟩
@[congr] theorem zaki {o o':Option AObj} {k:List (AV×AV)→Prop} (h:o=o'):MAPK o k=MAPK o' k:=by rw [h]
def PUTH (H:Heap) (g:Nat) (o:AObj) (k:Heap→Prop):Prop:=k (H.put g (some o))
@[simp ↓] theorem puth {H:Heap} {g:Nat} {o:AObj} {k:Heap→Prop}:PUTH H g o k=k (H.put g (some o)):=rfl
section
variable {x x' y y' z z':AV} {k:AV→Prop} {H H':Heap} {nx nx':Nat}
@[congr] theorem pk_c (h:x=x') (h2:y=y') (h3:z=z'):PK x y z k=PK x' y' z' k:=by rw [h,h2,h3]
@[congr] theorem bi_c {op:BinOp} (h:x=x') (h2:y=y'):BI op x y k=BI op x' y' k:=by rw [h,h2]
@[congr] theorem bs_c {op:BinOp} (h:x=x') (h2:y=y'):BS op x y k=BS op x' y' k:=by rw [h,h2]
@[congr] theorem bb_c {op:BinOp} (h:x=x') (h2:y=y'):BB op x y k=BB op x' y' k:=by rw [h,h2]
@[congr] theorem ba_c {s:List AV} {op:BinOp} (h:x=x') (h2:y=y'):BA s op x y k=BA s op x' y' k:=by rw [h,h2]
@[congr] theorem bf_c {op:BinOp} (h:x=x') (h2:y=y'):BF op x y k=BF op x' y' k:=by rw [h,h2]
@[congr] theorem bp_c {op:BinOp} (h:x=x') (h2:y=y'):BP op x y k=BP op x' y' k:=by rw [h,h2]
@[congr] theorem uo_c {op:UnOp} (h:x=x'):UO op x k=UO op x' k:=by rw [h]
@[congr] theorem cv_c {ki:IntKind} (h:x=x'):CV ki x k=CV ki x' k:=by rw [h]
@[congr] theorem ld_c {g:Bool} {s:Nat} (h:x=x') (h2:H=H'):LD g s x H k=LD g s x' H' k:=by rw [h,h2]
@[congr] theorem zaml {g:Bool} {s:Nat} {kr:AV→List Nat→Prop} (h:x=x') (h2:H=H'):LDR g s x H kr=LDR g s x' H' kr:=by rw [h,h2]
@[congr] theorem st_c {s:Nat} {kh:Heap→Prop} (h:x=x') (h3:y=y') (h2:H=H'):ST s x y H kh=ST s x' y' H' kh:=by rw [h,h2,h3]
@[congr] theorem zaig {s:Nat} {kt:Kt} (h:x=x') (h3:y=y') (h2:H=H'):zag s x y H kt=zag s x' y' H' kt:=by rw [h,h2,h3]
@[congr] theorem nc_c (h:x=x'):NC x k=NC x' k:=by rw [h]
@[congr] theorem fa_c {o:Nat} (h:x=x'):FA o x k=FA o x' k:=by rw [h]
@[congr] theorem fi_c {g:Bool} {s o:Nat} (h:x=x'):FI g s o x k=FI g s o x' k:=by rw [h]
@[congr] theorem ia_c {s:Nat} (h:x=x') (h2:y=y'):IA s x y k=IA s x' y' k:=by rw [h,h2]
@[congr] theorem aa_c {s l:Nat} (h:x=x') (h2:y=y'):AA s l x y k=AA s l x' y' k:=by rw [h,h2]
@[congr] theorem ix_c (h:x=x') (h2:y=y'):IX x y k=IX x' y' k:=by rw [h,h2]
@[congr] theorem ai_c {g:Bool} {s l:Nat} (h:x=x') (h2:y=y'):AI g s l x y k=AI g s l x' y' k:=by rw [h,h2]
@[congr] theorem zamg (h:x=x'):LNS x k=LNS x' k:=by rw [h]
@[congr] theorem zamj (h:x=x'):LNL x k=LNL x' k:=by rw [h]
@[congr] theorem zami (h:x=x') (h2:H=H'):LNM x H k=LNM x' H' k:=by rw [h,h2]
@[congr] theorem ex_c {i:Nat} (h:x=x'):EX x i k=EX x' i k:=by rw [h]
@[congr] theorem bd_c {pl:Nat→Option (Nat×Nat)} {zs:List AV} {ps ps':List (Nat×AV)} (h:ps=ps'):BD pl zs ps k=BD pl zs ps' k:=by rw [h]
@[congr] theorem zamu {l s:Nat} {zs:List AV} {ps ps':List (Nat×AV)} {kc:List AV→Prop} (h:ps=ps'):BSL l s zs ps kc=BSL l s zs ps' kc:=by rw [h]
@[congr] theorem mk_c {b:Nat} {kn:Nat→Prop} (h:x=x') (h2:y=y'):MK b x y kn=MK b x' y' kn:=by rw [h,h2]
@[congr] theorem mm_c {b:Bool} (h:x=x') (h2:y=y'):MM b x y k=MM b x' y' k:=by rw [h,h2]
@[congr] theorem zamf {z z':AV} (h:x=x') (h2:y=y') (h3:z=z'):MX3 x y z k=MX3 x' y' z' k:=by rw [h,h2,h3]
@[congr] theorem zamc {s n:Nat} {lo lo' hi hi':Option AV} (h:x=x') (h2:lo=lo') (h3:hi=hi') (h4:H=H'):SLP s n x lo hi H k=SLP s n x' lo' hi' H' k:=by rw [h,h2,h3,h4]
@[congr] theorem zamt (h:x=x') (h2:H=H'):CBS x H k=CBS x' H' k:=by rw [h,h2]
@[congr] theorem zamp {ks:List UInt8→Prop} (h:x=x'):CSB x ks=CSB x' ks:=by rw [h]
@[congr] theorem zamb {lo lo' hi hi':Option AV} (h:x=x') (h2:lo=lo') (h3:hi=hi'):SLS x lo hi k=SLS x' lo' hi' k:=by rw [h,h2,h3]
@[congr] theorem sl_c {s:Nat} {lo lo' hi hi':Option AV} (h:x=x') (h2:lo=lo') (h3:hi=hi') (h4:H=H'):SL s x lo hi H k=SL s x' lo' hi' H' k:=by rw [h,h2,h3,h4]
@[congr] theorem zaik {s:Nat} {lo lo' hi hi':Option AV} {kt:Kt} (h:x=x') (h2:lo=lo') (h3:hi=hi') (h4:H=H'):zkz s x lo hi H kt=zkz s x' lo' hi' H' kt:=by rw [h,h2,h3,h4]
@[congr] theorem zamd {w w':AV} (h:x=x') (h2:y=y') (h3:z=z') (h4:w=w'):SL0 x y z w k=SL0 x' y' z' w' k:=by rw [h,h2,h3,h4]
@[congr] theorem lk_c {zs:List AV} {g o:Bool} (h:x=x') (h2:y=y') (h3:H=H'):LK zs g x y o H k=LK zs g x' y' o H' k:=by rw [h,h2,h3]
@[congr] theorem zakk {zs:List AV} {g o:Bool} {kt:Kt} (h:x=x') (h2:y=y') (h3:H=H'):LOOK zs g x y o H kt=LOOK zs g x' y' o H' kt:=by rw [h,h2,h3]
@[congr] theorem mu_c {kh:Heap→Prop} (h:x=x') (h2:y=y') (h3:z=z') (h4:H=H'):MU x y z H kh=MU x' y' z' H' kh:=by rw [h,h2,h3,h4]
@[congr] theorem zake {kt:Kt} (h:x=x') (h2:y=y') (h3:z=z') (h4:H=H'):MUPD x y z H kt=MUPD x' y' z' H' kt:=by rw [h,h2,h3,h4]
@[congr] theorem zamz {e b:Nat} {kk:AV→Heap→Nat→Prop} (h:x=x') (h2:y=y') (h3:H=H') (h4:nx=nx'):APP e b x y H nx kk=APP e b x' y' H' nx' kk:=by rw [h,h2,h3,h4]
@[congr] theorem zaic {e b:Nat} {kt:Kt} (h:x=x') (h2:y=y') (h3:H=H') (h4:nx=nx'):zad e b x y H nx kt=zad e b x' y' H' nx' kt:=by rw [h,h2,h3,h4]
@[congr] theorem cp_c {e:Nat} {kh:AV→Heap→Prop} (h:x=x') (h2:y=y') (h3:H=H'):CP e x y H kh=CP e x' y' H' kh:=by rw [h,h2,h3]
@[congr] theorem zakv {e:Nat} {kt:Kt} (h:x=x') (h2:y=y') (h3:H=H'):COPY e x y H kt=COPY e x' y' H' kt:=by rw [h,h2,h3]
@[congr] theorem zams {A B:Prop} (h:x=x'):CND x A B=CND x' A B:=by rw [h]
@[congr] theorem zakw {A B:Prop} (h:x=x'):CNDC x A B=CNDC x' A B:=by rw [h]
@[congr] theorem bl_c {op:BinOp} (h:x=x') (h2:y=y'):BL op x y k=BL op x' y' k:=by rw [h,h2]
@[congr] theorem zakx {P:Program} {bs bs':List AV} {kk:AV→Heap→Nat→Prop} (h:x=x') (h2:bs=bs') (h3:H=H') (h4:nx=nx'):CALL P x bs H nx kk=CALL P x' bs' H' nx' kk:=by rw [h,h2,h3,h4]
@[congr] theorem zajd {P:Program} {bs bs':List AV} {kt:Kt} (h:x=x') (h2:bs=bs') (h3:H=H') (h4:nx=nx'):zm P x bs H nx kt=zm P x' bs' H' nx' kt:=by rw [h,h2,h3,h4]
@[congr] theorem zaid {P:Program} {f:FuncId} {bs bs':List AV} {kk:AV→Heap→Nat→Prop} (h2:bs=bs') (h3:H=H') (h4:nx=nx'):za P f bs H nx kk=za P f bs' H' nx' kk:=by rw [h2,h3,h4]
@[congr] theorem jn_c {J:J3} {B:J3→Prop}:JN J B=JN J B:=rfl
@[congr] theorem lp_c {F:J3→J3} {xs xs':List AV} (h:xs=xs') (h3:H=H') (h4:nx=nx'):LP F xs H nx=LP F xs' H' nx':=by rw [h,h3,h4]
@[congr] theorem zaja {l l' m m':List Nat} {A:Prop} (h:l=l') (h2:m=m'):zb l m A=zb l' m' A:=by rw [h,h2]
@[congr] theorem zajj {p p' v v':AV} {D D':zi} {rd rd':List Nat} {A:Prop} (h:p=p') (h2:v=v') (h3:D=D') (h4:rd=rd'):SOFT p v D rd A=SOFT p' v' D' rd' A:=by rw [h,h2,h3,h4]
@[congr] theorem zajc {g g' q q':Nat} {v v':AV} {D D':zi} {A:Prop} (h:g=g') (h2:q=q') (h3:v=v') (h4:D=D'):zej g q v D A=zej g' q' v' D' A:=by rw [h,h2,h3,h4]
@[congr] theorem gd_c {b b':Bool} {A:Prop} (h:b=b'):gd b A=gd b' A:=by rw [h]
end
@[simp ↓] theorem zamq (A B:Prop):CND (.bool true) A B=A:=rfl
@[simp ↓] theorem zamr (A B:Prop):CND (.bool false) A B=B:=rfl
@[simp ↓ low] theorem cnd (b:Bool) (A B:Prop):CND (.bool b) A B=((b=true→A)∧(b=false→B)):=propext zabx
@[simp ↓] theorem zaeq (A B:Prop):CNDC (.bool true) A B=A:=rfl
@[simp ↓] theorem zzi (A B:Prop):CNDC (.bool false) A B=B:=rfl
@[simp ↓] theorem zaia (A B:Prop):CNDC .bany A B=(A∧B):=rfl
@[simp ↓ low] theorem cndc (b:Bool) (A B:Prop):CNDC (.bool b) A B=((b=true→A)∧(b=false→B)):=by cases b <;> simp
@[simp ↓] theorem pk (b:Bool) (x y:AV) (k:AV→Prop):PK (.bool b) x y k=k (bif b then x else y):=rfl
variable {ki:IntKind} {a b:Int} {k:AV→Prop}
@[simp ↓] theorem zaer:BI .add (.int ki a) (.int ki b) k=k (.int ki (ki.wrap (a+b))):=by simp [BI,BINI,IBIN,zau,PURE,qk]
@[simp ↓] theorem zalg:BI .sub (.int ki a) (.int ki b) k=k (.int ki (ki.wrap (a - b))):=by simp [BI,BINI,IBIN,zau,PURE,qk]
@[simp ↓] theorem zalm:BI .mul (.int ki a) (.int ki b) k=k (.int ki (ki.wrap (a*b))):=by simp [BI,BINI,IBIN,zau,PURE,qk]
@[simp ↓] theorem zalk:BI .quo (.int ki a) (.int ki b) k=(b ≠ 0∧k (.int ki (ki.wrap (a.tdiv b)))):=by simp [BI,BINI,IBIN,zau,PURE,qk]
@[simp ↓] theorem zalj:BI .rem (.int ki a) (.int ki b) k=(b ≠ 0∧k (.int ki (a.tmod b))):=by simp [BI,BINI,IBIN,zau,PURE,qk]
@[simp ↓] theorem zali {kj:IntKind}:BI .shl (.int ki a) (.int kj b) k=(0≤b∧k (.int ki (ki.wrap (a*2 ^ (min b.toNat ki.bits))))):=by simp [BI,BINI,IBIN,zau,PURE,qk]
@[simp ↓] theorem zalh {kj:IntKind}:BI .shr (.int ki a) (.int kj b) k=(0≤b∧k (.int ki (a.fdiv (2 ^ (min b.toNat ki.bits))))):=by simp [BI,BINI,IBIN,zau,PURE,qk]
@[simp ↓] theorem zalq:BI .eql (.int ki a) (.int ki b) k=k (.bool (decide (a=b))):=by simp [BI,BINI,IBIN,icmp,zau,PURE,qk]; rfl
@[simp ↓] theorem zall:BI .neq (.int ki a) (.int ki b) k=k (.bool (!decide (a=b))):=by simp [BI,BINI,IBIN,icmp,zau,PURE,qk]; rfl
@[simp ↓] theorem zuj:BI .lss (.int ki a) (.int ki b) k=k (.bool (decide (a < b))):=by simp [BI,BINI,IBIN,icmp,zau,PURE,qk]
@[simp ↓] theorem zaln:BI .leq (.int ki a) (.int ki b) k=k (.bool (decide (a≤b))):=by simp [BI,BINI,IBIN,icmp,zau,PURE,qk]
@[simp ↓] theorem zalo:BI .gtr (.int ki a) (.int ki b) k=k (.bool (decide (b < a))):=by simp [BI,BINI,IBIN,icmp,zau,PURE,qk]
@[simp ↓] theorem zalp:BI .geq (.int ki a) (.int ki b) k=k (.bool (decide (b≤a))):=by simp [BI,BINI,IBIN,icmp,zau,PURE,qk]
@[simp ↓] theorem zalr:BI .and (.int ki a) (.int ki b) k=k (.int ki (ki.wrap (BitVec.ofInt ki.bits a &&& BitVec.ofInt ki.bits b).toNat)):=by simp [BI,BINI,IBIN,znc,zau,PURE,qk]
@[simp ↓] theorem zamx:BI .or (.int ki a) (.int ki b) k=k (.int ki (ki.wrap (BitVec.ofInt ki.bits a ||| BitVec.ofInt ki.bits b).toNat)):=by simp [BI,BINI,IBIN,znc,zau,PURE,qk]
@[simp ↓] theorem zalf:BI .xor (.int ki a) (.int ki b) k=k (.int ki (ki.wrap (BitVec.ofInt ki.bits a ^^^ BitVec.ofInt ki.bits b).toNat)):=by simp [BI,BINI,IBIN,znc,zau,PURE,qk]
@[simp ↓] theorem cv (kj:IntKind):CV kj (.int ki a) k=k (.int kj (kj.wrap a)):=rfl
@[simp ↓] theorem zajh (c:Bool):UO .not (.bool c) k=k (.bool (!c)):=rfl
@[simp ↓] theorem zaji:UO .neg (.int ki a) k=k (.int ki (ki.wrap (0 - a))):=rfl
@[simp ↓] theorem zalb (s t:List UInt8):BS .eql (.str s) (.str t) k=k (.bool (decide (s=t))):=by
  have:(s == t)=decide (s=t):=by rw [Bool.eq_iff_iff]; simp
  rw [← this]; rfl
@[simp ↓] theorem zakz (s t:List UInt8):BS .neq (.str s) (.str t) k=k (.bool (!decide (s=t))):=by
  have:(s == t)=decide (s=t):=by rw [Bool.eq_iff_iff]; simp
  rw [← this]; rfl
@[simp ↓] theorem zala (s t:List UInt8):BS .lss (.str s) (.str t) k=k (.bool (Op.bytesLess s t)):=rfl
@[simp ↓] theorem zalc (s t:List UInt8):BS .add (.str s) (.str t) k=(s.length+t.length≤9223372036854775807∧k (.str (s ++ t))):=rfl
@[simp ↓] theorem zalv (c d:Bool):BB .eql (.bool c) (.bool d) k=k (.bool (c == d)):=by simp [BB,BINB,zaz,PURE,qk]
@[simp ↓] theorem zalu (c d:Bool):BB .neq (.bool c) (.bool d) k=k (.bool (c != d)):=by simp [BB,BINB,zaz,PURE,qk]; rfl
@[simp ↓] theorem zakf:MM true (.int ki a) (.int ki b) k=k (.int ki (min a b)):=by
  have:(if b < a then b else a)=min a b:=by split <;> omega
  simp [MM,zcl,PURE,qk,this]
@[simp ↓] theorem zakg:MM false (.int ki a) (.int ki b) k=k (.int ki (max a b)):=by
  have:(if b > a then b else a)=max a b:=by split <;> omega
  simp only [MM,zcl,PURE,qk,cond_false,this,true_and]
@[simp ↓] theorem zaiw {c:Int}:MX3 (.int ki a) (.int ki b) (.int ki c) k=k (.int ki (max (max a b) c)):=by
  have e:∀ a b:Int,(if b > a then b else a)=max a b:=by intro a b; split <;> omega
  simp only [MX3,MAX3,zcl,PURE,qk,cond_false,e,true_and]
@[simp ↓] theorem zajb (s:List UInt8) (ks:List UInt8→Prop):CSB (.str s) ks=ks s:=rfl
@[simp ↓] theorem zalx (zs xs ys:List AV):BA zs .eql (.agg xs) (.agg ys) k=((zd zs xs).isSome=true∧OPTK (zd xs ys) fun t=>k (.bool t)):=by
  simp only [BA,BINA,zaz,PURE,qk,OPTK]
  cases zd xs ys <;> simp
@[simp ↓] theorem zalw (zs xs ys:List AV):BA zs .neq (.agg xs) (.agg ys) k=((zd zs xs).isSome=true∧OPTK (zd xs ys) fun t=>k (.bool (!t))):=by
  simp only [BA,BINA,zaz,PURE,qk,OPTK]
  cases zd xs ys <;> simp
@[simp] theorem zaeu:zd [] []=some true:=rfl
@[simp] theorem zaev {ki:IntKind} {a b:Int} {r s:List AV}:zd (.int ki a :: r) (.int ki b :: s)=(zd r s).map (fun t=>a == b && t):=by simp [zd]
@[simp] theorem zaet {a b:List UInt8} {r s:List AV}:zd (.str a :: r) (.str b :: s)=(zd r s).map (fun t=>a == b && t):=rfl
@[simp] theorem zaeo {a b:Bool} {r s:List AV}:zd (.bool a :: r) (.bool b :: s)=(zd r s).map (fun t=>a == b && t):=rfl
@[simp ↓] theorem zamw (xs:List (List AV)):BL .eql (.ro xs) .nils k=((xs=[]→k .bany)∧(xs ≠ []→k (.bool false))):=by simp [BL,BINL,zaz,PURE,qk]
@[simp ↓] theorem zald (g o n:Nat):BL .eql (.slc g o n) .nils k=((n=0→k .bany)∧(n ≠ 0→k (.bool false))):=by simp [BL,BINL,zaz,PURE,qk]
@[simp ↓] theorem zamv:BL .eql .zs .nils k=k .bany:=by simp [BL,BINL,zaz,PURE,qk]
@[simp ↓] theorem zale:BL .eql .nils .nils k=k (.bool true):=by simp [BL,BINL,zaz,PURE,qk]
@[simp ↓] theorem zals:BF .eql .inil .inil k=k (.bool true):=by simp [BF,BINF,zaz,PURE,qk]
@[simp ↓] theorem zaje:BF .neq .inil .inil k=k (.bool false):=by simp [BF,BINF,zaz,PURE,qk]
@[simp ↓] theorem zalt:BF .eql .ifc .inil k=k (.bool false):=by simp [BF,BINF,zaz,PURE,qk]
@[simp ↓] theorem zajf:BF .neq .ifc .inil k=k (.bool true):=by simp [BF,BINF,zaz,PURE,qk]
@[simp ↓] theorem lns (s:List UInt8):LNS (.str s) k=k (.int .i64 (s.length:Int)):=rfl
@[simp ↓] theorem zakm (xs:List (List AV)):LNL (.ro xs) k=k (.int .i64 (xs.length:Int)):=rfl
@[simp ↓] theorem zaix (g off len:Nat):LNL (.slc g off len) k=k (.int .i64 (len:Int)):=rfl
@[simp ↓] theorem zahu:LNL .nils k=k (.int .i64 0):=rfl
@[simp ↓] theorem zakl:LNL .zs k=k (.int .i64 0):=rfl
@[simp ↓] theorem zako (s:List UInt8) (n:Int):IX (.str s) (.int ki n) k=(0≤n∧n < s.length∧k (.int .u8 ((s.getD n.toNat 0).toNat:Int))):=rfl
@[simp ↓] theorem zaci (esz:Nat) (xs:List (List AV)) (n:Int):IA esz (.ro xs) (.int ki n) k=(0≤n∧n < xs.length∧(xs.getD n.toNat []).length=esz∧k (.rop (xs.getD n.toNat []) 0)):=rfl
@[simp ↓] theorem zaen (esz g off len:Nat) (n:Int):IA esz (.slc g off len) (.int ki n) k=(0≤n∧n < len∧k (.ptr g (off+n.toNat*esz))):=rfl
@[simp ↓] theorem zaks (o:Nat) (cs:List AV) (q:Nat):FA o (.rop cs q) k=k (.rop cs (q+o)):=rfl
@[simp ↓] theorem zakt (o g q:Nat):FA o (.ptr g q) k=k (.ptr g (q+o)):=rfl
@[simp ↓] theorem zaka (cs:List AV) (q:Nat):NC (.rop cs q) k=k (.rop cs q):=rfl
@[simp ↓] theorem zakb (g q:Nat):NC (.ptr g q) k=k (.ptr g q):=rfl
@[simp] theorem zagp:(AV.int ki a).cells=[AV.int ki a]:=rfl
@[simp] theorem zagl (s:List UInt8):(AV.str s).cells=[AV.str s]:=rfl
@[simp] theorem zafl (c:Bool):(AV.bool c).cells=[AV.bool c]:=rfl
@[simp] theorem zagq (xs:List AV):(AV.agg xs).cells=xs:=rfl
@[simp] theorem zagm (g o n:Nat):(AV.slc g o n).cells=[AV.slc g o n]:=rfl
@[simp] theorem zaib (xs:List (List AV)):(AV.ro xs).cells=[AV.ro xs]:=rfl
@[simp] theorem zagw:(AV.int ki a).sure=true:=rfl
@[simp] theorem zags (s:List UInt8):(AV.str s).sure=true:=rfl
@[simp] theorem zafm:AV.bany.cells=[AV.bany]:=rfl
@[simp] theorem zafq (c:Bool):(AV.bool c).sure=true:=rfl
@[simp] theorem zagy (xs:List AV):(AV.agg xs).sure=true:=rfl
@[simp] theorem zagt (g o n:Nat):(AV.slc g o n).sure=true:=rfl
@[simp] theorem zaie (xs:List (List AV)):(AV.ro xs).sure=true:=rfl
@[simp] theorem zaiu:(AV.int ki a).one=true:=rfl
@[simp] theorem zair (s:List UInt8):(AV.str s).one=true:=rfl
@[simp] theorem zahr (c:Bool):(AV.bool c).one=true:=rfl
@[simp] theorem zais (g o n:Nat):(AV.slc g o n).one=true:=rfl
@[simp] theorem zajm (xs:List (List AV)):(AV.ro xs).one=true:=rfl
@[simp ↓] theorem zaku (vs:List AV) (i:Nat):EX (.tup vs) i k=OPTK vs[i]? k:=by
  simp only [EX,EXTR,PURE,qk,OPTK]
  cases vs[i]? <;> simp
theorem i64w {n:Int} (h : -9223372036854775808≤n∧n≤9223372036854775807):IntKind.i64.wrap n=n:=IntWalk.i64_in n h
theorem zaav {H:Heap} {nx:Nat} {c:Bool}:Frz H nx (.bool c) (.bool c):=.same _ (.bool _)
end Go.Proofs.YtpllgpgdcbgalaaDoor
set_option maxRecDepth 8000
namespace Go.Proofs.YtpllgpgdcbgalaaDoor
open Go Go.RowKit
section
variable {k:AV→Prop} {ki:IntKind} {A:Prop}
@[simp ↓] theorem zakn (sz:Nat) (cs:List AV) (q:Nat) (H:Heap):LD false sz (.rop cs q) H k=OPTK cs[q]? k:=by
  simp only [LD,LOAD,rdp,ldv,cond_false,qk,OPTK]
  cases cs[q]? <;> simp
@[simp ↓] theorem zwv (sz:Nat) (cs:List AV) (q:Nat) (H:Heap):LD true sz (.rop cs q) H k=(q+sz≤cs.length∧k (.agg ((cs.drop q).take sz))):=by
  simp only [LD,LOAD,rdp,ldv,cond_true,qk]
  by_cases h:q+sz≤cs.length <;> simp [h]
theorem zjk {o:Option AObj} {kr:Nat→List AV→Prop} (h:∀ s cs,o=some (.row s cs)→(A↔kr s cs)) (hn:(∀ s cs,o ≠ some (.row s cs))→¬ A):A=ROWK o kr:=by
  apply propext; constructor
  · intro ha
    by_cases he:∃ s cs,o=some (.row s cs)
    · obtain ⟨s,cs,he⟩:=he; exact ⟨s,cs,he,(h s cs he).1 ha⟩
    · exact absurd ha (hn fun s cs e=>he ⟨s,cs,e⟩)
  · rintro ⟨s,cs,he,hk⟩; exact (h s cs he).2 hk
@[simp ↓] theorem ld_p {sz g q:Nat} {H:Heap}:LD false sz (.ptr g q) H k=ROWK (H g) fun _ cs=>OPTK cs[q]? k:=by
  refine zjk (fun s cs h => ?_) fun h => ?_
  · simp only [LD,LOAD,rdp,qk,h,ldv,cond_false,OPTK]; cases hq:cs[q]? <;> simp [hq]
  · simp only [LD,LOAD,rdp,qk]
    exact id
@[simp ↓] theorem zaap {sz g q:Nat} {H:Heap}:LD true sz (.ptr g q) H k=ROWK (H g) fun _ cs=>q+sz≤cs.length∧k (.agg ((cs.drop q).take sz)):=by
  refine zjk (fun s cs h => ?_) fun h => ?_
  · simp only [LD,LOAD,rdp,qk,h,ldv,cond_true]; by_cases hq:q+sz≤cs.length <;> simp [hq]
  · simp only [LD,LOAD,rdp,qk]
    exact id
@[simp ↓] theorem zaiy {kr:AV→List Nat→Prop} (sz:Nat) (cs:List AV) (q:Nat) (H:Heap):LDR false sz (.rop cs q) H kr=OPTK cs[q]? fun v=>kr v []:=by
  simp only [LDR,LOAD,rdp,ldv,cond_false,OPTK]
  cases cs[q]? <;> simp
@[simp ↓] theorem zaes {kr:AV→List Nat→Prop} (sz:Nat) (cs:List AV) (q:Nat) (H:Heap):LDR true sz (.rop cs q) H kr=(q+sz≤cs.length∧kr (.agg ((cs.drop q).take sz)) []):=by
  simp only [LDR,LOAD,rdp,ldv,cond_true]
  by_cases h:q+sz≤cs.length <;> simp [h]
@[simp ↓] theorem zamk {kr:AV→List Nat→Prop} {sz g q:Nat} {H:Heap}:LDR false sz (.ptr g q) H kr=ROWK (H g) fun _ cs=>OPTK cs[q]? fun v=>kr v [g]:=by
  refine zjk (fun s cs h => ?_) fun h => ?_
  · simp only [LDR,LOAD,rdp,h,ldv,cond_false,OPTK]; cases hq:cs[q]? <;> simp [hq]
  · simp only [LDR,LOAD,rdp]
    exact id
@[simp ↓] theorem zagc {kr:AV→List Nat→Prop} {sz g q:Nat} {H:Heap}:LDR true sz (.ptr g q) H kr=ROWK (H g) fun _ cs=>q+sz≤cs.length∧kr (.agg ((cs.drop q).take sz)) [g]:=by
  refine zjk (fun s cs h => ?_) fun h => ?_
  · simp only [LDR,LOAD,rdp,h,ldv,cond_true]; by_cases hq:q+sz≤cs.length <;> simp [hq]
  · simp only [LDR,LOAD,rdp]
    exact id
@[simp ↓] theorem st_p {sz g q:Nat} {H:Heap} {v:AV} {kh:Heap→Prop} :
    ST sz (.ptr g q) v H kh=ROWK (H g) fun es cs=>v.cells.length=sz∧q+sz≤cs.length∧v.cells.all AV.one=true∧v.sure=true∧kh (H.put g (some (.row es (zao cs q v.cells)))):=by
  refine zjk (fun s cs h => ?_) fun h => ?_
  · simp only [ST,zag,h,Heap.apply]
  · simp only [ST,zag]
    exact id
@[simp ↓] theorem zaif {sz g q:Nat} {H:Heap} {v:AV} {kt:Kt} :
    zag sz (.ptr g q) v H kt=ROWK (H g) fun es cs=>v.cells.length=sz∧q+sz≤cs.length∧v.cells.all AV.one=true∧v.sure=true∧kt .und [g] [] [(g,some (.row es (zao cs q v.cells)))]:=by
  refine zjk (fun s cs h => ?_) fun h => ?_
  · simp only [zag,h]
  · simp only [zag]
    exact id
@[simp ↓] theorem zamy {pl:Nat→Option (Nat×Nat)} {z:List AV} {ps:List (Nat×AV)}:BD pl z ps k=OPTK (zbt pl z ps) fun cells=>k (.agg cells):=by
  simp only [BD,zhi,PURE,qk,OPTK]
  cases zbt pl z ps <;> simp
@[simp ↓] theorem zaky {len esz:Nat} {z:List AV} {ps:List (Nat×AV)} {kc:List AV→Prop}:BSL len esz z ps kc=OPTK (zbt (fun i=>some (i*esz,esz)) ((List.replicate len z).flatten) ps) kc:=by
  simp only [BSL,OPTK]
  cases zbt (fun i=>some (i*esz,esz)) ((List.replicate len z).flatten) ps <;> simp
@[simp] theorem zagi {pl:Nat→Option (Nat×Nat)} {z:List AV}:zbt pl z []=some z:=rfl
@[simp ↓] theorem zafi {pl:Nat→Option (Nat×Nat)} {z:List AV} {i:Nat} {v:AV} {r:List (Nat×AV)} {kc:List AV→Prop}:OPTK (zbt pl z ((i,v) :: r)) kc =
    OPTK (pl i) fun p=>v.cells.length=p.2∧p.1+p.2≤z.length∧v.sure=true∧OPTK (zbt pl (zao z p.1 v.cells) r) kc:=by
  have e:zbt pl z ((i,v) :: r)=match pl i with
    | none=>none
    | some (off,size)=>if v.cells.length=size∧off+size≤z.length∧v.sure=true then zbt pl (zao z off v.cells) r else none:=rfl
  rw [e]
  cases pl i with
  | none=>simp
  | some p =>
    obtain ⟨off,size⟩:=p
    simp only [optk]
    by_cases h:v.cells.length=size∧off+size≤z.length∧v.sure=true
    · rw [if_pos h]; simp [h]
    · rw [if_neg h]
      rw [zyk]
      apply propext
      constructor
      · intro h; exact h.elim
      · rintro ⟨h1,h2,h3,_⟩; exact h ⟨h1,h2,h3⟩
@[simp] theorem zaey {T:Nat→Option AT} {fs:List (Nat×Nat)} {i:Nat}:zl T fs i=match fs[i]? with | some (t,off)=>some (off,zc T t) | none=>none:=rfl
@[simp ↓] theorem zakh {b:Nat} {k1 k2:IntKind} {n m:Int} {kn:Nat→Prop}:MK b (.int k1 n) (.int k2 m) kn=(m=n∧0≤n∧n≤140737488355328∧n.toNat*b≤140737488355328∧kn n.toNat):=rfl
@[simp ↓] theorem zakq {s o:Nat} {xs:List AV}:FI false s o (.agg xs) k=OPTK xs[o]? k:=by
  simp only [FI,zfn,zqw,ldv,cond_false,PURE,qk,OPTK]
  cases xs[o]? <;> simp
@[simp ↓] theorem zakr {s o:Nat} {xs:List AV}:FI true s o (.agg xs) k=(o+s≤xs.length∧k (.agg ((xs.drop o).take s))):=by
  simp only [FI,zfn,zqw,ldv,cond_true,PURE,qk]
  by_cases h:o+s≤xs.length <;> simp [h]
@[simp ↓] theorem zaly {s l:Nat} {xs:List AV} {n:Int}:AI false s l (.agg xs) (.int ki n) k=(0≤n∧n < l∧OPTK xs[n.toNat*s]? k):=by
  simp only [AI,zkm,zfn,zqw,ldv,cond_false,PURE,qk,OPTK]
  cases xs[n.toNat*s]? <;> simp
@[simp ↓] theorem zama {s l g o:Nat} {n:Int}:AA s l (.ptr g o) (.int ki n) k=(0≤n∧n < l∧k (.ptr g (o+n.toNat*s))):=rfl
@[simp ↓] theorem zalz {s l o:Nat} {cs:List AV} {n:Int}:AA s l (.rop cs o) (.int ki n) k=(0≤n∧n < l∧k (.rop cs (o+n.toNat*s))):=rfl
@[simp ↓] theorem zaht:LNL (.ro []) k=k (.int .i64 0):=rfl
@[simp ↓] theorem zakc {f:FuncId} {c:List AV}:NC (.clo f c) k=k (.clo f c):=rfl
@[simp] theorem zbe {H:Heap}:H.apply []=H:=rfl
@[simp] theorem zas {H:Heap} {g:Nat} {o:Option AObj} {r:zi}:H.apply ((g,o) :: r)=(H.put g o).apply r:=rfl
@[simp ↓] theorem zagk {l:List Nat} {A:Prop}:zb [] l A=A:=rfl
@[simp ↓] theorem zxl {g:Nat} {r l:List Nat} {A:Prop}:zb (g :: r) l A=(g∉l∧zb r l A):=rfl
@[simp ↓] theorem zahb {g q:Nat} {v:AV} {D:zi} {rd:List Nat} {A:Prop}:SOFT (.ptr g q) v D rd A=zej g q v D A:=rfl
@[simp ↓] theorem zaha {cs:List AV} {q:Nat} {v:AV} {D:zi} {rd:List Nat} {A:Prop}:SOFT (.rop cs q) v D rd A=zb (domD D) rd A:=rfl
@[simp ↓] theorem zagr {g q:Nat} {v:AV} {A:Prop}:zej g q v [] A=A:=rfl
@[simp ↓] theorem zxn {g q x:Nat} {o:Option AObj} {v:AV} {r:zi} {A:Prop}:zej g q v ((x,o) :: r) A=((x=g→zff o q v)∧zej g q v r A):=rfl
@[simp] theorem zafo {s q:Nat} {cs:List AV} {v:AV}:zff (some (.row s cs)) q v=(cs[q]? = some v):=by
  apply propext
  exact ⟨fun ⟨_,_,h,h2⟩=>by cases h; exact h2,fun h=>⟨s,cs,rfl,h⟩⟩
@[simp] theorem zahz:domD []=[]:=rfl
@[simp] theorem zagj {g:Nat} {o:Option AObj} {r:zi}:domD ((g,o) :: r)=g :: domD r:=rfl
@[simp ↓] theorem zaiz {A:Prop}:gd true A=A:=rfl
@[simp] theorem zago (g o:Nat):(AV.ptr g o).cells=[AV.ptr g o]:=rfl
@[simp] theorem zafk:AV.nils.cells=[AV.nils]:=rfl
@[simp] theorem zafn (g:Nat):(AV.amap g).cells=[AV.amap g]:=rfl
@[simp] theorem zagv (g o:Nat):(AV.ptr g o).sure=true:=rfl
@[simp] theorem zafp:AV.nils.sure=true:=rfl
@[simp] theorem zafr (g:Nat):(AV.amap g).sure=true:=rfl
@[simp] theorem zait (g o:Nat):(AV.ptr g o).one=true:=rfl
@[simp] theorem zahq:AV.nils.one=true:=rfl
@[simp] theorem zahs (g:Nat):(AV.amap g).one=true:=rfl
@[simp] theorem zagx (f:FuncId) (c:List AV):(AV.clo f c).sure=true:=rfl
@[simp] theorem zaiv (f:FuncId) (c:List AV):(AV.clo f c).one=true:=rfl
@[simp] theorem zafs (cs:List AV) (o:Nat) (vs:List AV):zao cs o vs=cs.take o ++ vs ++ cs.drop (o+vs.length):=rfl
@[simp] theorem zym (x0 x1 x2 x3 x4 x5 x6 x7 x8 x9 x10:AV) (xs:List AV):nth (x0 :: x1 :: x2 :: x3 :: x4 :: x5 :: x6 :: x7 :: x8 :: x9 :: x10 :: xs) 10=x10:=rfl
@[simp] theorem zajz (x0 x1 x2 x3 x4 x5 x6 x7 x8 x9 x10 x11:AV) (xs:List AV):nth (x0 :: x1 :: x2 :: x3 :: x4 :: x5 :: x6 :: x7 :: x8 :: x9 :: x10 :: x11 :: xs) 11=x11:=rfl
@[simp] theorem zajy (x0 x1 x2 x3 x4 x5 x6 x7 x8 x9 x10 x11 x12:AV) (xs:List AV):nth (x0 :: x1 :: x2 :: x3 :: x4 :: x5 :: x6 :: x7 :: x8 :: x9 :: x10 :: x11 :: x12 :: xs) 12=x12:=rfl
@[simp] theorem zajx (x0 x1 x2 x3 x4 x5 x6 x7 x8 x9 x10 x11 x12 x13:AV) (xs:List AV):nth (x0 :: x1 :: x2 :: x3 :: x4 :: x5 :: x6 :: x7 :: x8 :: x9 :: x10 :: x11 :: x12 :: x13 :: xs) 13=x13:=rfl
@[simp] theorem zajw (x0 x1 x2 x3 x4 x5 x6 x7 x8 x9 x10 x11 x12 x13 x14:AV) (xs:List AV):nth (x0 :: x1 :: x2 :: x3 :: x4 :: x5 :: x6 :: x7 :: x8 :: x9 :: x10 :: x11 :: x12 :: x13 :: x14 :: xs) 14=x14:=rfl
@[simp] theorem zajv (x0 x1 x2 x3 x4 x5 x6 x7 x8 x9 x10 x11 x12 x13 x14 x15:AV) (xs:List AV):nth (x0 :: x1 :: x2 :: x3 :: x4 :: x5 :: x6 :: x7 :: x8 :: x9 :: x10 :: x11 :: x12 :: x13 :: x14 :: x15 :: xs) 15=x15:=rfl
@[simp] theorem zaju (x0 x1 x2 x3 x4 x5 x6 x7 x8 x9 x10 x11 x12 x13 x14 x15 x16:AV) (xs:List AV):nth (x0 :: x1 :: x2 :: x3 :: x4 :: x5 :: x6 :: x7 :: x8 :: x9 :: x10 :: x11 :: x12 :: x13 :: x14 :: x15 :: x16 :: xs) 16=x16:=rfl
@[simp] theorem zajt (x0 x1 x2 x3 x4 x5 x6 x7 x8 x9 x10 x11 x12 x13 x14 x15 x16 x17:AV) (xs:List AV):nth (x0 :: x1 :: x2 :: x3 :: x4 :: x5 :: x6 :: x7 :: x8 :: x9 :: x10 :: x11 :: x12 :: x13 :: x14 :: x15 :: x16 :: x17 :: xs) 17=x17:=rfl
@[simp] theorem zajs (x0 x1 x2 x3 x4 x5 x6 x7 x8 x9 x10 x11 x12 x13 x14 x15 x16 x17 x18:AV) (xs:List AV):nth (x0 :: x1 :: x2 :: x3 :: x4 :: x5 :: x6 :: x7 :: x8 :: x9 :: x10 :: x11 :: x12 :: x13 :: x14 :: x15 :: x16 :: x17 :: x18 :: xs) 18=x18:=rfl
@[simp] theorem zajr (x0 x1 x2 x3 x4 x5 x6 x7 x8 x9 x10 x11 x12 x13 x14 x15 x16 x17 x18 x19:AV) (xs:List AV):nth (x0 :: x1 :: x2 :: x3 :: x4 :: x5 :: x6 :: x7 :: x8 :: x9 :: x10 :: x11 :: x12 :: x13 :: x14 :: x15 :: x16 :: x17 :: x18 :: x19 :: xs) 19=x19:=rfl
@[simp] theorem zajq (x0 x1 x2 x3 x4 x5 x6 x7 x8 x9 x10 x11 x12 x13 x14 x15 x16 x17 x18 x19 x20:AV) (xs:List AV):nth (x0 :: x1 :: x2 :: x3 :: x4 :: x5 :: x6 :: x7 :: x8 :: x9 :: x10 :: x11 :: x12 :: x13 :: x14 :: x15 :: x16 :: x17 :: x18 :: x19 :: x20 :: xs) 20=x20:=rfl
@[simp] theorem zajp (x0 x1 x2 x3 x4 x5 x6 x7 x8 x9 x10 x11 x12 x13 x14 x15 x16 x17 x18 x19 x20 x21:AV) (xs:List AV):nth (x0 :: x1 :: x2 :: x3 :: x4 :: x5 :: x6 :: x7 :: x8 :: x9 :: x10 :: x11 :: x12 :: x13 :: x14 :: x15 :: x16 :: x17 :: x18 :: x19 :: x20 :: x21 :: xs) 21=x21:=rfl
@[simp] theorem zajo (x0 x1 x2 x3 x4 x5 x6 x7 x8 x9 x10 x11 x12 x13 x14 x15 x16 x17 x18 x19 x20 x21 x22:AV) (xs:List AV):nth (x0 :: x1 :: x2 :: x3 :: x4 :: x5 :: x6 :: x7 :: x8 :: x9 :: x10 :: x11 :: x12 :: x13 :: x14 :: x15 :: x16 :: x17 :: x18 :: x19 :: x20 :: x21 :: x22 :: xs) 22=x22:=rfl
@[simp] theorem zajn (x0 x1 x2 x3 x4 x5 x6 x7 x8 x9 x10 x11 x12 x13 x14 x15 x16 x17 x18 x19 x20 x21 x22 x23:AV) (xs:List AV):nth (x0 :: x1 :: x2 :: x3 :: x4 :: x5 :: x6 :: x7 :: x8 :: x9 :: x10 :: x11 :: x12 :: x13 :: x14 :: x15 :: x16 :: x17 :: x18 :: x19 :: x20 :: x21 :: x22 :: x23 :: xs) 23=x23:=rfl
attribute [simp] Heap.put_eq
@[simp] theorem Heap.put_put (H:Heap) (g:Nat) (a b:Option AObj):(H.put g a).put g b=H.put g b:=by
  funext x; simp only [Heap.put_eq]; split <;> rfl
@[simp ↓] theorem zadz {esz bytes g off len nx:Nat} {x:AV} {H:Heap} {kk:AV→Heap→Nat→Prop}:APP esz bytes (.slc g off len) x H nx kk=OPTK (zh esz H x) fun p=>ROWK (H g) fun s cells=>s=esz∧p.2.1.all AV.one=true ∧
    off+len*esz≤cells.length∧(len+p.1)*bytes≤140737488355328+(if bytes=1 then 268435456 else 0)∧kk (.slc nx 0 (len+p.1)) ((H.put g none).put nx (some (.row esz ((cells.drop off).take (len*esz) ++ p.2.1)))) (nx+1):=by
  simp only [APP,zad,OPTK,ROWK]
  cases hs:zh esz H x with
  | none=>simp
  | some p =>
    obtain ⟨m,news,rd⟩:=p
    cases hg:H g with
    | none=>simp
    | some o =>
      cases o with
      | mp es=>simp
      | it a b c=>simp
      | row sz cells =>
        simp [Heap.apply]
        constructor
        · rintro ⟨h1,rfl,h2,h3,h4⟩; exact ⟨_,_,⟨rfl,rfl⟩,rfl,h1,h2,h3,h4⟩
        · rintro ⟨_,_,⟨rfl,rfl⟩,rfl,h1,h2,h3,h4⟩; exact ⟨h1,rfl,h2,h3,h4⟩
@[simp ↓] theorem zabz {esz bytes nx:Nat} {x:AV} {H:Heap} {kk:AV→Heap→Nat→Prop}:APP esz bytes .nils x H nx kk=OPTK (zh esz H x) fun p=>p.2.1.all AV.one=true ∧
    (p.1=0→kk .nils H nx)∧(p.1 ≠ 0→p.1*bytes≤140737488355328∧kk (.slc nx 0 p.1) (H.put nx (some (.row esz p.2.1))) (nx+1)):=by
  simp only [APP,zad,OPTK]
  cases hs:zh esz H x with
  | none=>simp
  | some p=>obtain ⟨m,news,rd⟩:=p; simp [Heap.apply]
@[simp ↓] theorem zxp {esz bytes g off len nx:Nat} {x:AV} {H:Heap} {kt:Kt}:zad esz bytes (.slc g off len) x H nx kt=OPTK (zh esz H x) fun p=>ROWK (H g) fun s cells=>s=esz∧p.2.1.all AV.one=true ∧
    off+len*esz≤cells.length∧(len+p.1)*bytes≤140737488355328+(if bytes=1 then 268435456 else 0)∧kt (.slc nx 0 (len+p.1)) (g :: p.2.2) [nx] [(g,none),(nx,some (.row esz ((cells.drop off).take (len*esz) ++ p.2.1)))]:=by
  simp only [zad,OPTK,ROWK]
  cases hs:zh esz H x with
  | none=>simp
  | some p =>
    obtain ⟨m,news,rd⟩:=p
    cases hg:H g with
    | none=>simp
    | some o =>
      cases o with
      | mp es=>simp
      | it a b c=>simp
      | row sz cells =>
        simp
        constructor
        · rintro ⟨h1,rfl,h2,h3,h4⟩; exact ⟨_,_,⟨rfl,rfl⟩,rfl,h1,h2,h3,h4⟩
        · rintro ⟨_,_,⟨rfl,rfl⟩,rfl,h1,h2,h3,h4⟩; exact ⟨h1,rfl,h2,h3,h4⟩
@[simp ↓] theorem zvk {esz bytes nx:Nat} {x:AV} {H:Heap} {kt:Kt}:zad esz bytes .nils x H nx kt=OPTK (zh esz H x) fun p=>p.2.1.all AV.one=true ∧
    (p.1=0→kt .nils p.2.2 [] [])∧(p.1 ≠ 0→p.1*bytes≤140737488355328∧kt (.slc nx 0 p.1) p.2.2 [nx] [(nx,some (.row esz p.2.1))]):=by
  simp only [zad,OPTK]
  cases hs:zh esz H x with
  | none=>simp
  | some p=>obtain ⟨m,news,rd⟩:=p; simp
@[simp ↓] theorem zaii {esz g off len:Nat} {H:Heap} {kp:Nat×List AV×List Nat→Prop}:OPTK (zh esz H (.slc g off len)) kp=ROWK (H g) fun _ cells=>off+len*esz≤cells.length∧kp (len,(cells.drop off).take (len*esz),[g]):=by
  simp only [zh,OPTK,ROWK]
  cases hg:H g with
  | none=>simp
  | some o =>
    cases o with
    | mp es=>simp
    | it a b c=>simp
    | row sz cells =>
      by_cases h:off+len*esz≤cells.length
      · simp [h]
        constructor
        · intro hk; exact ⟨_,_,⟨rfl,rfl⟩,h,hk⟩
        · rintro ⟨_,_,⟨rfl,rfl⟩,_,hk⟩; exact hk
      · simp [h]
@[simp] theorem zqr {esz:Nat} {xs:List (List AV)} {H:Heap} (h:∀ x∈xs,x.length=esz):zh esz H (.ro xs)=some (xs.length,xs.flatten,[]):=by
  simp only [zh]
  rw [if_pos (by simpa using h)]
@[simp] theorem zaih {s:List UInt8} {H:Heap}:zh 1 H (.str s)=some (s.length,s.map (fun b=>.int .u8 (b.toNat:Int)),[]):=rfl
@[simp] theorem zagz {esz:Nat} {H:Heap}:zh esz H .nils=some (0,[],[]):=rfl
def Keep (nx:Nat) (H' H:Heap):Prop:=∀ g,g < nx→H' g=H g
@[simp] theorem Keep.rfl {nx:Nat} {H:Heap}:Keep nx H H=True:=by simp [Keep]
theorem Keep.put {nx g:Nat} {o:Option AObj} {H H0:Heap} (h:nx≤g):Keep nx (H.put g o) H0=Keep nx H H0:=by
  unfold Keep
  apply propext
  constructor
  · intro hk x hx; have:=hk x hx; rwa [Heap.put_ne _ _ (by omega)] at this
  · intro hk x hx; rw [Heap.put_ne _ _ (by omega)]; exact hk x hx
@[simp] theorem Keep.put0 {nx:Nat} {o:Option AObj} {H H0:Heap}:Keep nx (H.put nx o) H0=Keep nx H H0:=Keep.put (Nat.le_refl _)
@[simp] theorem Keep.putS {nx i:Nat} {o:Option AObj} {H H0:Heap}:Keep nx (H.put (nx+i) o) H0=Keep nx H H0:=Keep.put (by omega)
theorem Keep.trans {n m:Nat} {H1 H2 H3:Heap} (h:Keep m H1 H2) (hn:n≤m) (k:Keep n H2 H3):Keep n H1 H3:=fun g hg=>(h g (by omega)).trans (k g hg)
theorem QC.of' {P:Program} {f:FuncId} {args:List AV} {r:AV} (h:∀ H nx,za P f args H nx fun v H' _=>Frz H' nx v r∧Keep nx H' H):QC P f args r:=QC.of h
@[simp] theorem zamn {H:Heap} {nx:Nat} {a:Int} {r:AV}:Frz H nx (.int ki a) r=(r=.int ki a):=by
  apply propext; constructor
  · intro h; cases h; rfl
  · rintro rfl; exact .same _ (.int _ _)
@[simp] theorem zamo {H:Heap} {nx:Nat} {a:Bool} {r:AV}:Frz H nx (.bool a) r=(r=.bool a):=by
  apply propext; constructor
  · intro h; cases h; rfl
  · rintro rfl; exact .same _ (.bool _)
@[simp] theorem zamm {H:Heap} {nx:Nat} {a:List UInt8} {r:AV}:Frz H nx (.str a) r=(r=.str a):=by
  apply propext; constructor
  · intro h; cases h; rfl
  · rintro rfl; exact .same _ (.str _)
theorem QC.call {P:Program} {f:FuncId} {args:List AV} {r:AV} (h:QC P f args r) {H:Heap} {nx:Nat} {kk:AV→Heap→Nat→Prop} (hk:kk r H nx):za P f args H nx kk :=
  (h H nx).mono fun v H' nx' ⟨h1,h2,h3⟩=>by subst h1; subst h2; subst h3; exact hk
end
end Go.Proofs.YtpllgpgdcbgalaaDoor
set_option maxRecDepth 8000
namespace Go.Proofs.YtpllgpgdcbgalaaDoor
open Go Go.RowKit
section
variable {k:AV→Prop} {ki:IntKind}
@[simp ↓] theorem mu_p {g:Nat} {key v:AV} {H:Heap} {kh:Heap→Prop}:MU (.amap g) key v H kh=MAPK (H g) fun es=>OPTK (zah key es) fun r=>kh (H.put g (some (.mp (match r with | some (i,_)=>es.set i (key,v) | none=>es ++ [(key,v)])))):=by
  simp only [MU,MUPD,OPTK,MAPK]
  cases hg:H g with
  | none=>simp
  | some o =>
    cases o with
    | row s cs=>simp
    | it a b c=>simp
    | mp es =>
      simp only [Option.some.injEq,AObj.mp.injEq,exists_eq_left']
      cases zah key es with
      | none=>simp
      | some r=>cases r <;> simp [Heap.apply]
@[simp ↓] theorem lk_p {z:List AV} {agg ok:Bool} {g:Nat} {key:AV} {H:Heap}:LK z agg (.amap g) key ok H k=MAPK (H g) fun es=>OPTK (zah key es) fun r=>k (match r with | some (_,v)=>(bif ok then .tup [v,.bool true] else v) | none=>(bif ok then .tup [(bif agg then .agg z else z.getD 0 .junk),.bool false] else (bif agg then .agg z else z.getD 0 .junk))):=by
  simp only [LK,LOOK,qk,OPTK,MAPK]
  cases hg:H g with
  | none=>simp
  | some o =>
    cases o with
    | row s cs=>simp
    | it a b c=>simp
    | mp es =>
      simp only [Option.some.injEq,AObj.mp.injEq,exists_eq_left']
      cases zah key es with
      | none=>simp
      | some r=>cases r <;> simp [Heap.apply]
@[simp ↓] theorem zakj {z:List AV} {agg ok:Bool} {g:Nat} {key:AV} {H:Heap} {kt:Kt}:LOOK z agg (.amap g) key ok H kt=MAPK (H g) fun es=>OPTK (zah key es) fun r=>kt (match r with | some (_,v)=>(bif ok then .tup [v,.bool true] else v) | none=>(bif ok then .tup [(bif agg then .agg z else z.getD 0 .junk),.bool false] else (bif agg then .agg z else z.getD 0 .junk))) [g] [] []:=by
  simp only [LOOK,OPTK,MAPK]
  cases hg:H g with
  | none=>simp
  | some o =>
    cases o with
    | row s cs=>simp
    | it a b c=>simp
    | mp es =>
      simp only [Option.some.injEq,AObj.mp.injEq,exists_eq_left']
      cases zah key es with
      | none=>simp
      | some r=>cases r <;> simp [Heap.apply]
@[simp ↓] theorem zakd {g:Nat} {key v:AV} {H:Heap} {kt:Kt}:MUPD (.amap g) key v H kt=MAPK (H g) fun es=>OPTK (zah key es) fun r=>kt .und [g] [] [(g,some (.mp (match r with | some (i,_)=>es.set i (key,v) | none=>es ++ [(key,v)])))]:=by
  simp only [MUPD,OPTK,MAPK]
  cases hg:H g with
  | none=>simp
  | some o =>
    cases o with
    | row s cs=>simp
    | it a b c=>simp
    | mp es =>
      simp only [Option.some.injEq,AObj.mp.injEq,exists_eq_left']
      cases zah key es with
      | none=>simp
      | some r=>cases r <;> simp [Heap.apply]
@[simp ↓ high] theorem zakp {α:Type} {esz:Nat} {l:List α} {f:α→List AV} {n:Int}:IA esz (.ro (l.map f)) (.int ki n) k=(0≤n∧n < l.length∧OPTK l[n.toNat]? fun x=>(f x).length=esz∧k (.rop (f x) 0)):=by
  rw [zaci]
  apply propext
  constructor
  · rintro ⟨h0,h1,h2,h3⟩
    have hlt:n.toNat < l.length:=by simp at h1; omega
    refine ⟨h0,by simpa using h1,l[n.toNat],by simp [hlt],?_⟩
    simp [List.getD_eq_getElem?_getD,hlt] at h2 h3
    exact ⟨h2,h3⟩
  · rintro ⟨h0,h1,x,h2,h3,h4⟩
    refine ⟨h0,by simpa using h1,?_⟩
    simp [List.getD_eq_getElem?_getD,h2]
    exact ⟨h3,h4⟩
@[simp] theorem zagg {key:AV}:zah key []=some none:=rfl
theorem zrd {key v:AV} {q:AV} {r:List (AV×AV)}:zah key ((q,v) :: r)=match zdu key q with
    | some true=>some (some (0,v))
    | some false=>(zah key r).map (fun o=>o.map fun p=>(p.1+1,p.2))
    | none=>none:=rfl
@[simp] theorem zagh {k1:IntKind} {x y:Int} {v:AV} {r:List (AV×AV)}:zah (.int k1 x) ((.int k1 y,v) :: r)=if x=y then some (some (0,v)) else (zah (.int k1 x) r).map (fun o=>o.map fun p=>(p.1+1,p.2)):=by
  rw [zrd]
  by_cases h:x=y
  · simp [zdu,h]
  · have e:(x == y)=false:=by simpa using h
    simp [zdu,h,e]
@[simp] theorem zoi {x y:List UInt8} {v:AV} {r:List (AV×AV)}:zah (.str x) ((.str y,v) :: r)=if x=y then some (some (0,v)) else (zah (.str x) r).map (fun o=>o.map fun p=>(p.1+1,p.2)):=by
  rw [zrd]
  by_cases h:x=y
  · simp [zdu,h]
  · have e:(x == y)=false:=by simpa using h
    simp [zdu,h,e]
@[simp] theorem zage {k1:IntKind} {a b:Int}:zdu (.int k1 a) (.int k1 b)=some (a == b):=by simp [zdu]
@[simp] theorem zagd {a b:List UInt8}:zdu (.str a) (.str b)=some (a == b):=rfl
@[simp] theorem zafh {k1 k2:IntKind} {a:Int}:zn (.int k1) (.int k2 a)=true:=rfl
@[simp] theorem zwz {a:List UInt8}:zn .str (.str a)=true:=rfl
theorem Frz.tup2 {H:Heap} {nx:Nat} {a b x y:AV} (h1:Frz H nx a x) (h2:Frz H nx b y):Frz H nx (.tup [a,b]) (.tup [x,y]):=by
  refine .tup _ _ rfl fun j v u hv hu => ?_
  match j,hv,hu with
  | 0,hv,hu=>cases hv; cases hu; exact h1
  | 1,hv,hu=>cases hv; cases hu; exact h2
@[simp] theorem zahv {H:Heap} {nx:Nat} {a b x y:AV}:Frz H nx (.tup [a,b]) (.tup [x,y])=(Frz H nx a x∧Frz H nx b y):=by
  apply propext; constructor
  · intro h
    cases h with
    | same _ h=>cases h with | tup _ h=>exact ⟨.same _ (h 0 _ rfl),.same _ (h 1 _ rfl)⟩
    | tup _ _ _ h=>exact ⟨h 0 _ _ rfl rfl,h 1 _ _ rfl rfl⟩
  · rintro ⟨h1,h2⟩; exact h1.tup2 h2
theorem Frz.row {H:Heap} {nx g:Nat} {sz len:Nat} {cells:List AV} {xs:List (List AV)} (hg:nx≤g) (hH:H g=some (.row sz cells)) (hl:xs.length=len) (hs:∀ x∈xs,x.length=sz) (hc:xs.flatten=cells) (hb:∀ c∈cells,Bel (· < nx) c) :
    Frz H nx (.slc g 0 len) (.ro xs):=by
  have hflat:∀ (xs:List (List AV)),(∀ x∈xs,x.length=sz)→∀ (i:Nat) (x:List AV) (j:Nat) (v:AV),xs[i]? = some x→x[j]? = some v→xs.flatten[i*sz+j]? = some v:=by
    intro xs
    induction xs with
    | nil=>intro _ i x j v hx; simp at hx
    | cons y r ih =>
      intro hs i x j v hx hv
      have hy:y.length=sz:=hs y (by simp)
      cases i with
      | zero =>
        simp at hx; subst hx
        have hj:=(List.getElem?_eq_some_iff.1 hv).1
        rw [List.flatten_cons,List.getElem?_append_left (by omega)]; simpa using hv
      | succ i =>
        have hm:(i+1)*sz=sz+i*sz:=by rw [Nat.succ_mul,Nat.add_comm]
        rw [List.flatten_cons,List.getElem?_append_right (by omega)]
        rw [show (i+1)*sz+j - y.length=i*sz+j by omega]
        exact ih (fun z hz=>hs z (by simp [hz])) i x j v (by simpa using hx) hv
  have hlen:cells.length=len*sz:=by
    have:∀ xs:List (List AV),(∀ x∈xs,x.length=sz)→xs.flatten.length=xs.length*sz:=by
      intro xs
      induction xs with
      | nil=>intro _; simp
      | cons y r ih=>intro hs; rw [List.flatten_cons,List.length_append,ih fun z hz=>hs z (by simp [hz]),hs y (by simp),List.length_cons,Nat.succ_mul,Nat.add_comm]
    rw [← hc,← hl]; exact this xs hs
  refine .slc g 0 len sz cells xs hg hH (by omega) hl hs (fun i j=>(xs.getD i []).getD j .junk) (fun i x j v hx hv => ?_) (fun i x j v hx hv => ?_)
  · have:=hflat xs hs i x j v hx hv
    rw [hc] at this
    simp only [Nat.zero_add,this,List.getD_eq_getElem?_getD,hx,Option.getD_some,hv]
  · have:=hflat xs hs i x j v hx hv
    rw [hc] at this
    simp only [List.getD_eq_getElem?_getD,hx,Option.getD_some,hv]
    exact .same _ (hb v (List.mem_of_getElem? this))
@[simp] theorem zahw {H:Heap} {nx:Nat}:Frz H nx .nils (.ro [])=True:=by simp [Frz.nils]
end
end Go.Proofs.YtpllgpgdcbgalaaDoor
