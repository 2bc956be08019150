/- Rows of one's own, by value from now on: cell by cell. The parser's expressions: forms. The parser's expressions: the heads of forms; expressions as a whole. The parser's statements: up to a bracket. The parser's statements: their kinds. The parser's statements: their parts. The parser's statements: their expressions; statements as a whole. The parser's statements, as a whole. The parser's functions: their parameters. The parser: texts as a whole. The parser: what Parse tells. Names that are there: what a program's functions have wrong, as a plain function; lists of names. scope: expressions. scope: expressions. scope: names of one's own. scope: blocks. scope: statements. scope: blocks as a whole. scope: a statement's expressions, and blocks. scope: Check. scope: Check, as a whole. -/
import Derived.Test.YtpllgpgdcbgalaaDoorG8
set_option linter.unusedSimpArgs false
set_option linter.unusedVariables false
set_option maxRecDepth 8000
namespace Go.Proofs.YtpllgpgdcbgalaaDoor
open Go Go.RowKit
inductive FL (H:Heap) (nx:Nat):List AV→List AV→Prop
  | nil:FL H nx [] []
  | cons {u v:AV} {us vs:List AV}:Frz H nx u v→FL H nx us vs→FL H nx (u :: us) (v :: vs)
section
variable {H:Heap} {nx:Nat}
theorem FL.append:∀ {us vs us' vs':List AV},FL H nx us vs→FL H nx us' vs'→FL H nx (us ++ us') (vs ++ vs')
  | _,_,_,_,.nil,k=>k
  | _,_,_,_,.cons a b,k=>.cons a (b.append k)
theorem FL.same:∀ {l:List AV},(∀ c∈l,Bel (· < nx) c)→FL H nx l l
  | [],_=>.nil
  | c :: r,h=>.cons (.same _ (h c (by simp))) (FL.same fun x hx=>h x (by simp [hx]))
theorem FL.get:∀ {us vs:List AV},FL H nx us vs→∀ {j:Nat} {v:AV},vs[j]? = some v→∃ u,us[j]? = some u∧Frz H nx u v
  | _,_,.nil,j,v,h=>by simp at h
  | _,_,.cons a b,0,v,h=>by simp at h; subst h; exact ⟨_,rfl,a⟩
  | _,_,.cons a b,j+1,v,h=>by simpa using b.get (j:=j) (by simpa using h)
theorem FL.len:∀ {us vs:List AV},FL H nx us vs→us.length=vs.length
  | _,_,.nil=>rfl
  | _,_,.cons a b=>by simp [b.len]
theorem Frz.rowL {g off len sz:Nat} {cells:List AV} {xs:List (List AV)} (hg:nx≤g) (hH:H g=some (.row sz cells)) (hl:xs.length=len) (hs:∀ x∈xs,x.length=sz) (hb:off+len*sz≤cells.length) (hc:FL H nx ((cells.drop off).take (len*sz)) xs.flatten) :
    Frz H nx (.slc g off len) (.ro xs):=by
  have key:∀ (i:Nat) (x:List AV) (j:Nat) (v:AV),xs[i]? = some x→x[j]? = some v→∃ u,cells[off+i*sz+j]? = some u∧Frz H nx u v:=fun i x j v hx hv=>by
    have e1:=zpb hs hx
    have hj:j < sz:=by rw [← hs x (List.mem_of_getElem? hx)]; exact (List.getElem?_eq_some_iff.1 hv).1
    have hv2:xs.flatten[i*sz+j]? = some v:=by
      have e2:=congrArg (·[j]?) e1
      simp only [List.getElem?_take,List.getElem?_drop,hj,if_true] at e2
      rw [e2]; exact hv
    obtain ⟨u,q1,q2⟩:=hc.get hv2
    refine ⟨u,?_,q2⟩
    rw [List.getElem?_take] at q1
    split at q1
    · rw [List.getElem?_drop] at q1; rw [Nat.add_assoc]; exact q1
    · cases q1
  refine .slc g off _ sz cells _ hg hH hb hl hs (fun i j=>(cells[off+i*sz+j]?).getD .junk) (fun i x j v hx hv => ?_) (fun i x j v hx hv => ?_)
  · obtain ⟨u,q1,q2⟩:=key i x j v hx hv; rw [q1]; rfl
  · obtain ⟨u,q1,q2⟩:=key i x j v hx hv; rw [q1]; exact q2
theorem Frz.rowW {g len sz:Nat} {cells:List AV} {xs:List (List AV)} (hg:nx≤g) (hH:H g=some (.row sz cells)) (hl:xs.length=len) (hs:∀ x∈xs,x.length=sz) (hc:FL H nx cells xs.flatten):Frz H nx (.slc g 0 len) (.ro xs):=by
  have e:cells.length=len*sz:=by rw [hc.len,zne hs,hl]
  refine .rowL hg hH hl hs (by omega) ?_
  rw [List.drop_zero,List.take_of_length_le (by omega)]; exact hc
theorem FL.agg {us vs:List AV} (h:FL H nx us vs):Frz H nx (.agg us) (.agg vs):=by
  refine .agg _ _ h.len.symm fun j v u hv hu => ?_
  obtain ⟨w,q1,q2⟩:=h.get hu
  rw [hv] at q1; cases q1; exact q2
theorem FL.tup {us vs:List AV} (h:FL H nx us vs):Frz H nx (.tup us) (.tup vs):=by
  refine .tup _ _ h.len.symm fun j v u hv hu => ?_
  obtain ⟨w,q1,q2⟩:=h.get hu
  rw [hv] at q1; cases q1; exact q2
end
end Go.Proofs.YtpllgpgdcbgalaaDoor
set_option maxRecDepth 8000
namespace Go.Proofs.YtpllgpgdcbgalaaDoor
open Go Go.RowKit
theorem zaaw {H H':Heap} {lo hi gx N:Nat} {l:List Ex} {A:AV} (h:ArgS H lo hi gx l A) (hN:N≤lo) (hk:∀ y,lo≤y→y ≠ gx→H' y=H y):Frz H' N A (.ro (l.map Ex.avs)):=by
  cases h with
  | nil=>exact .nils
  | @row l ga h1 h2 h3 h4 =>
    refine Frz.rowW (cells:=rowE l) (sz:=4) (by omega) (by rw [hk _ h1 h3]; exact h4) (by simp) (fun x hx => ?_) (FL.same fun c hc => ?_)
    · obtain ⟨y,_,rfl⟩:=List.mem_map.1 hx; exact zbs y
    · unfold rowE at hc
      obtain ⟨x,hx,hc⟩:=List.mem_flatten.1 hc
      obtain ⟨y,_,rfl⟩:=List.mem_map.1 hx
      exact zoq _ y c hc
def fits (want:Int) (k:Nat):Prop:=if 0≤want then (k:Int)=want else k≤4
instance (want:Int) (k:Nat):Decidable (fits want k):=by unfold fits; exact inferInstance
theorem ExL.done {H0 H:Heap} {n g gx m:Nat} {dz k z:Int} {t:Str} {l:List Ex} {st:VM.St} {A:AV} {Q:QT} (h:ExL H0 n g gx dz (.int .i64 k) (.int .i64 z) (.str t) l st H m) (hA:H gx=some (.row 4 [.int .i64 k,.int .i64 z,.str t,A])) (hq:ExQ H0 n g (.agg (Ex.mk k z t l).avs) st Q) (o:Option AObj) (m':Nat):Q (.agg [.int .i64 k,.int .i64 z,.str t,A]) (H.put (n+2) o) m':=by
  have hb:=h.gb
  obtain ⟨A',h1,h2⟩:=h.rx
  rw [hA] at h1
  cases h1
  refine hq _ _ _ ?_ (by rw [Heap.put_ne _ _ (by omega)]; exact h.rg) fun y hy hne=>by rw [Heap.put_ne _ _ (by omega)]; exact h.keep y hy hne
  rw [zho]
  exact FL.agg (.cons (.same _ (.int _ _)) (.cons (.same _ (.int _ _)) (.cons (.same _ (.str _)) (.cons (zaaw h2 (by omega) fun y hy _=>Heap.put_ne _ _ (by omega)) .nil))))
theorem zaby {H:Heap} {lo hi gx:Nat} {l:List Ex} {A:AV} (h:ArgS H lo hi gx l A) {k:AV→Prop}:LNL A k=k (.int .i64 (l.length:Int)):=by
  cases h with
  | nil=>simp
  | row=>simp
theorem zun {H:Heap} {lo hi gx:Nat} {l:List Ex} {A:AV} (h:ArgS H lo hi gx l A):A.one=true:=by
  cases h <;> rfl
set_option maxHeartbeats 1000000 in
theorem zaax {H0 H:Heap} {n g gx m:Nat} {dz k z want:Int} {t:Str} {l:List Ex} {st:VM.St} {v:AV} {Q:QT} (h:ExL H0 n g gx dz (.int .i64 k) (.int .i64 z) (.str t) l st H m) (hq:ExQ H0 n g (.agg (Ex.mk k z t l).avs) (if fits want l.length then st else VM.badF 5 st) Q) :
    zbb [.ptr n 0,.ptr (n+1) 0,.ptr (n+2) 0,.ptr gx 0,.int .i64 want] Q v H m:=by
  obtain ⟨A,rx,ra⟩:=h.rx
  obtain ⟨cs,r2,r2l⟩:=h.r2
  have r0:=h.r0
  have ho:=zun ra
  have hlen:=fun k=>zaby (k:=k) ra
  have gb:=h.gb
  have g0:=h.gx0
  have bad:¬ fits want l.length→za Tryd.prog 48 [.ptr g 0,.int .i64 5] H m (zbo [.ptr n 0,.ptr (n+1) 0,.ptr (n+2) 0,.ptr gx 0,.int .i64 want] Q):=by
    intro hf
    rw [if_neg hf] at hq
    refine zdl h.rg ?_
    have h1:=h.put (VM.flow_bad 5 st)
    obtain ⟨cs',q2,q2l⟩:=h1.r2
    obtain ⟨A',q1,q3⟩:=h1.rx
    generalize H.put g (some (PR (VM.badF 5 st)))=HX at *
    have ne_0:n ≠ n+1∧n+1 ≠ n∧n ≠ n+2∧n+2 ≠ n∧n ≠ gx∧gx ≠ n∧n+1 ≠ n+2∧n+2 ≠ n+1∧n+1 ≠ gx∧gx ≠ n+1∧n+2 ≠ gx∧gx ≠ n+2:=⟨by omega,by omega,by omega,by omega,by omega,by omega,by omega,by omega,by omega,by omega,by omega,by omega⟩
    simp [zbo,q1,q2,q2l,ne_0]
    exact ⟨zun q3,h1.done q1 hq _ _⟩
  have good:fits want l.length→∀ o,Q (.agg [.int .i64 k,.int .i64 z,.str t,A]) (H.put (n+2) o) m:=by
    intro hf o
    rw [if_pos hf] at hq
    exact h.done rx hq _ _
  have ne_1:n ≠ n+1∧n+1 ≠ n∧n ≠ n+2∧n+2 ≠ n∧n ≠ gx∧gx ≠ n∧n+1 ≠ n+2∧n+2 ≠ n+1∧n+1 ≠ gx∧gx ≠ n+1∧n+2 ≠ gx∧gx ≠ n+2:=⟨by omega,by omega,by omega,by omega,by omega,by omega,by omega,by omega,by omega,by omega,by omega,by omega⟩
  by_cases hw:0≤want
  · have hw':¬ want < 0:=by omega
    by_cases he:(l.length:Int)=want
    · have hf:fits want l.length:=by unfold fits; rw [if_pos hw]; exact he
      simp [zbb,hw,hw',rx,hlen,he,r2,r2l,ne_1]
      exact ⟨ho,good hf _⟩
    · have hf:¬ fits want l.length:=by unfold fits; rw [if_pos hw]; exact he
      simp [zbb,hw,hw',rx,hlen,he,r0,ne_1]
      exact bad hf
  · have hw':want < 0:=by omega
    by_cases he:l.length≤4
    · have hf:fits want l.length:=by unfold fits; rw [if_neg hw]; exact he
      have he':¬ (4:Int) < l.length:=by omega
      simp [zbb,hw,hw',rx,hlen,he',r2,r2l,ne_1]
      exact ⟨ho,good hf _⟩
    · have hf:¬ fits want l.length:=by unfold fits; rw [if_neg hw]; exact he
      have he':(4:Int) < l.length:=by omega
      simp [zbb,hw,hw',rx,hlen,he',r0,ne_1]
      exact bad hf
def ops5:List Str:=[[43],[45],[42],[60],[61]]
def ops6:List Str:=[[99,101,108,108],[108,101,102,116],[114,105,103,104,116],[97,115,107],[104,101,114,101],[103,111]]
def zqo:List Int:=[2,1,1,1,0,1]
structure Hd where
  k:Int
  z:Int
  t:Str
  want:Int
def Hd.avs (h:Hd):List AV:=[.int .i64 h.k,.int .i64 h.z,.str h.t,.nils]
def st5 (w:Str):Nat→Hd
  | 0=>⟨11,0,w,-1⟩
  | i+1=>if ops5.getD i []=w then ⟨4,i+1,[],2⟩ else st5 w i
def st6 (w:Str) (p:Hd):Nat→Hd
  | 0=>p
  | i+1=>if ops6.getD i []=w then ⟨5+i,0,[],zqo.getD i 0⟩ else st6 w p i
theorem zadi (w:Str):st6 w (st5 w 5) 6=match VM.headOf w with
    | some (k,n,want)=>⟨k,n,[],want⟩
    | none=>⟨11,0,w,-1⟩:=by
  unfold VM.headOf
  by_cases h1:w=[43]
  · subst h1; rfl
  by_cases h2:w=[45]
  · subst h2; rfl
  by_cases h3:w=[42]
  · subst h3; rfl
  by_cases h4:w=[60]
  · subst h4; rfl
  by_cases h5:w=[61]
  · subst h5; rfl
  by_cases h6:w=[99,101,108,108]
  · subst h6; rfl
  by_cases h7:w=[108,101,102,116]
  · subst h7; rfl
  by_cases h8:w=[114,105,103,104,116]
  · subst h8; rfl
  by_cases h9:w=[97,115,107]
  · subst h9; rfl
  by_cases h10:w=[104,101,114,101]
  · subst h10; rfl
  by_cases h11:w=[103,111]
  · subst h11; rfl
  simp [h1,h2,h3,h4,h5,h6,h7,h8,h9,h10,h11,st6,st5,ops5,ops6,Ne.symm h1,Ne.symm h2,Ne.symm h3,Ne.symm h4,Ne.symm h5,Ne.symm h6,Ne.symm h7,Ne.symm h8,Ne.symm h9,Ne.symm h10,Ne.symm h11]
structure FmH (H0:Heap) (n g gx:Nat) (dz:Int) (st:VM.St) (p:Hd) (H:Heap):Prop where
  r0:H n=some (.row 1 [.ptr g 0])
  r1:H (n+1)=some (.row 1 [.int .i64 dz])
  r2:H (n+2)=some (.row 4 [.int .i64 0,.int .i64 0,.str [],.nils])
  rg:H g=some (PR st)
  rx:H gx=some (.row 4 p.avs)
  gb:g < n
  gx0:n+3≤gx
  keep:∀ y,y < n→y ≠ g→H y=H0 y
theorem FmH.put {H0 H:Heap} {n g gx x:Nat} {dz:Int} {st:VM.St} {p:Hd} {o:Option AObj} (h:FmH H0 n g gx dz st p H) (hx:gx < x):FmH H0 n g gx dz st p (H.put x o):=by
  have h1:=h.gb
  have h2:=h.gx0
  exact ⟨by rw [Heap.put_ne _ _ (by omega)]; exact h.r0,by rw [Heap.put_ne _ _ (by omega)]; exact h.r1,by rw [Heap.put_ne _ _ (by omega)]; exact h.r2,by rw [Heap.put_ne _ _ (by omega)]; exact h.rg,by rw [Heap.put_ne _ _ (by omega)]; exact h.rx,h1,h2,fun y hy hne=>by rw [Heap.put_ne _ _ (by omega)]; exact h.keep y hy hne⟩
theorem FmH.head {H0 H:Heap} {n g gx:Nat} {dz:Int} {st:VM.St} {p q:Hd} (h:FmH H0 n g gx dz st p H):FmH H0 n g gx dz st q (H.put gx (some (.row 4 q.avs))):=by
  have h1:=h.gb
  have h2:=h.gx0
  exact ⟨by rw [Heap.put_ne _ _ (by omega)]; exact h.r0,by rw [Heap.put_ne _ _ (by omega)]; exact h.r1,by rw [Heap.put_ne _ _ (by omega)]; exact h.r2,by rw [Heap.put_ne _ _ (by omega)]; exact h.rg,Heap.put_at _ _ _,h1,h2,fun y hy hne=>by rw [Heap.put_ne _ _ (by omega)]; exact h.keep y hy hne⟩
theorem FmH.state {H0 H:Heap} {n g gx:Nat} {dz:Int} {st st':VM.St} {p:Hd} (h:FmH H0 n g gx dz st p H):FmH H0 n g gx dz st' p (H.put g (some (PR st'))):=by
  have h1:=h.gb
  have h2:=h.gx0
  exact ⟨by rw [Heap.put_ne _ _ (by omega)]; exact h.r0,by rw [Heap.put_ne _ _ (by omega)]; exact h.r1,by rw [Heap.put_ne _ _ (by omega)]; exact h.r2,Heap.put_at _ _ _,by rw [Heap.put_ne _ _ (by omega)]; exact h.rx,h1,h2,fun y hy hne=>by rw [Heap.put_ne _ _ hne]; exact h.keep y hy hne⟩
theorem FmH.exL {H0 H:Heap} {n g gx m:Nat} {dz:Int} {st:VM.St} {p:Hd} (h:FmH H0 n g gx dz st p H) (hm:gx < m) (hs:st.1.length≤1500):ExL H0 n g gx dz (.int .i64 p.k) (.int .i64 p.z) (.str p.t) [] st H m :=
  ⟨h.r0,h.r1,⟨_,h.r2,rfl⟩,⟨.nils,h.rx,.nil⟩,h.rg,h.gb,h.gx0,hm,h.keep,by have:=VM.left_le st; simp only [List.length_nil]; omega,hs⟩
theorem zrv {d:Nat} (hE:zgk d) (hd:d≤11) {H0 H:Heap} {n g gx m:Nat} {st:VM.St} {p:Hd} {Q:QT} (h:FmH H0 n g gx (10 - (d:Int)) st p H) (hm:gx < m) (hs:st.1.length≤1500)
    (hq:ExQ H0 n g (.agg (Ex.mk p.k p.z p.t (VM.manyF (VM.exprF d) st).1).avs) (if fits p.want (VM.manyF (VM.exprF d) st).1.length then (VM.manyF (VM.exprF d) st).2 else VM.badF 5 (VM.manyF (VM.exprF d) st).2) Q) :
    zdg Q [.ptr n 0,.ptr (n+1) 0,.ptr (n+2) 0,.ptr gx 0,.int .i64 p.want] H m:=by
  have r0:=h.r0
  simp [zdg,r0]
  refine zqc (VM.nice_expr d) (fun l s H' n'=>ExL H0 n g gx (10 - (d:Int)) (.int .i64 p.k) (.int .i64 p.z) (.str p.t) l s H' n') (fun _ _ _ _ h=>h.rg) (fun _ _ _ _ _ h hf=>h.put hf) (fun l s H' n' K h he hk=>zabb hE h he hd hk) (h.exL hm hs) fun H' n' h=>zaax h hq
theorem zadm {d:Nat} (hE:zgk d) (hd:d≤11) {H0 H:Heap} {n g gx m:Nat} {st:VM.St} {p:Hd} {w:Str} {x6 x7 x8:AV} {Q:QT} (h:FmH H0 n g gx (10 - (d:Int)) st p H) (hm:gx < m) (hs:st.1.length≤1500) (hw:w.length≤1500)
    (hq:∀ s1,s1=(if 0≤p.want then st else if VM.name w then st else VM.badF 7 st)→ExQ H0 n g (.agg (Ex.mk p.k p.z p.t (VM.manyF (VM.exprF d) s1).1).avs) (if fits p.want (VM.manyF (VM.exprF d) s1).1.length then (VM.manyF (VM.exprF d) s1).2 else VM.badF 5 (VM.manyF (VM.exprF d) s1).2) Q) :
    JN (zdg Q) (zdi [.ptr n 0,.ptr (n+1) 0,.ptr (n+2) 0,.str w,.ptr gx 0,.int .i64 p.want,x6,x7,x8] H m):=by
  refine JN.same ?_
  by_cases hz:0≤p.want
  · have hz':¬ p.want < 0:=by omega
    have q:=hq _ rfl
    rw [if_pos hz] at q
    simp [zdi,hz']
    exact zrv hE hd h hm hs q
  · have hz':p.want < 0:=by omega
    have q:=hq _ rfl
    rw [if_neg hz] at q
    simp [zdi,hz']
    refine zrt hw ?_
    by_cases hn:VM.name w=true
    · rw [if_pos hn] at q
      simp [zeq,hn]
      exact zrv hE hd h hm hs q
    · rw [if_neg hn] at q
      have hn':VM.name w=false:=by simpa using hn
      have r0:=h.r0
      simp [zeq,hn',r0]
      refine zdl h.rg ?_
      simp [zit]
      exact zrv hE hd h.state hm hs q
end Go.Proofs.YtpllgpgdcbgalaaDoor
set_option maxRecDepth 8000
namespace Go.Proofs.YtpllgpgdcbgalaaDoor
open Go Go.RowKit
def zacl (H0:Heap) (n g d:Nat) (w:Str) (st:VM.St) (p:Hd) (Q:QT):Prop:=∀ s1,s1=(if 0≤p.want then st else if VM.name w then st else VM.badF 7 st)→ExQ H0 n g (.agg (Ex.mk p.k p.z p.t (VM.manyF (VM.exprF d) s1).1).avs) (if fits p.want (VM.manyF (VM.exprF d) s1).1.length then (VM.manyF (VM.exprF d) s1).2 else VM.badF 5 (VM.manyF (VM.exprF d) s1).2) Q
theorem zyl {l:List Str} {i:Nat} (h:i < l.length):(l.map AV.str)[i]? = some (.str (l.getD i [])):=by
  rw [List.getElem?_map,List.getElem?_eq_getElem h,List.getD_eq_getElem?_getD,List.getElem?_eq_getElem h]; rfl
set_option maxHeartbeats 1000000 in
theorem zadl {d:Nat} (hE:zgk d) (hd:d≤11) {H0 H:Heap} {n g gx m:Nat} {st:VM.St} {p:Hd} {w:Str} {Q:QT} (h:FmH H0 n g gx (10 - (d:Int)) st p H) (hm:gx+2 < m) (hs:st.1.length≤1500) (hw:w.length≤1500)
    (ho:H (gx+2)=some (.row 1 (ops6.map AV.str))) (hq:zacl H0 n g d w st (st6 w p 6) Q) :
    LP (zby Q) [.ptr n 0,.ptr (n+1) 0,.ptr (n+2) 0,.str w,.ptr gx 0,.int .i64 p.want,.slc (gx+2) 0 6,.int .i64 6,.int .i64 0] H m:=by
  refine LP.mk (fun k xs H' n'=>∃ i:Nat,i≤6∧k=6 - i∧xs=[.ptr n 0,.ptr (n+1) 0,.ptr (n+2) 0,.str w,.ptr gx 0,.int .i64 (st6 w p i).want,.slc (gx+2) 0 6,.int .i64 6,.int .i64 i]∧FmH H0 n g gx (10 - (d:Int)) st (st6 w p i) H'∧H' (gx+2)=some (.row 1 (ops6.map AV.str))∧gx+2 < n') 6 ⟨0,by omega,by omega,rfl,h,ho,hm⟩ ?_
  rintro k xs H' n' ⟨i,hi,rfl,rfl,h,ho,hm⟩
  generalize hJ:(fun (xs:List AV) (H:Heap) (nx:Nat)=>∃ k,k < 6 - i∧∃ i:Nat,i≤6∧k=6 - i∧xs=[.ptr n 0,.ptr (n+1) 0,.ptr (n+2) 0,.str w,.ptr gx 0,.int .i64 (st6 w p i).want,.slc (gx+2) 0 6,.int .i64 6,.int .i64 i]∧FmH H0 n g gx (10 - (d:Int)) st (st6 w p i) H∧H (gx+2)=some (.row 1 (ops6.map AV.str))∧gx+2 < nx)=J
  by_cases hlt:i < 6
  · have hi':(i:Int) < 6:=by omega
    have hi0:(0:Int)≤i:=by omega
    have hx:=zyl (l:=ops6) (i:=i) hlt
    have hwr:IntKind.i64.wrap ((i:Int)+1)=(i:Int)+1:=i64w (by omega)
    have hwr5:IntKind.i64.wrap (5+(i:Int))=5+(i:Int):=i64w (by omega)
    have rx:=h.rx
    have e1:st6 w p (i+1)=if ops6.getD i []=w then ⟨5+i,0,[],zqo.getD i 0⟩ else st6 w p i:=rfl
    generalize ops6.getD i []=op at hx e1
    by_cases he:op=w
    · rw [if_pos he] at e1
      subst he
      have hwx:[AV.int .i64 2,.int .i64 1,.int .i64 1,.int .i64 1,.int .i64 0,.int .i64 1][i]? = some (.int .i64 (zqo.getD i 0)):=by
        have:i=0∨i=1∨i=2∨i=3∨i=4∨i=5:=by omega
        rcases this with rfl | rfl | rfl | rfl | rfl | rfl <;> rfl
      generalize zqo.getD i 0=wi at hwx e1
      simp only [Hd.avs] at rx
      have ne_0:gx ≠ gx+2∧gx+2 ≠ gx∧gx ≠ n'∧n' ≠ gx∧gx+2 ≠ n'∧n' ≠ gx+2:=⟨by omega,by omega,by omega,by omega,by omega,by omega⟩
      simp [zby,hi',hi0,ho,hx,hwr5,hwr,hwx,rx,ne_0]
      rw [← hJ]
      refine ⟨6 - (i+1),by omega,i+1,by omega,rfl,by rw [e1]; rfl,?_,?_,by omega⟩
      · rw [e1]
        exact (h.put (x:=n') (by omega)).head (q:=⟨5+i,0,[],wi⟩)
      · rw [Heap.put_ne _ _ (by omega),Heap.put_ne _ _ (by omega)]; exact ho
    · rw [if_neg he] at e1
      simp [zby,hi',hi0,ho,hx,he,hwr]
      rw [← hJ]
      exact ⟨6 - (i+1),by omega,i+1,by omega,rfl,by rw [e1]; rfl,by rw [e1]; exact h,ho,hm⟩
  · have e6:i=6:=by omega
    subst e6
    simp [zby]
    exact zadm hE hd h (by omega) hs hw hq
set_option maxHeartbeats 1000000 in
theorem zadk {d:Nat} (hE:zgk d) (hd:d≤11) {H0 H:Heap} {n g gx:Nat} {st:VM.St} {w:Str} {Q:QT} (h:FmH H0 n g gx (10 - (d:Int)) st (st5 w 0) H) (hs:st.1.length≤1500) (hw:w.length≤1500)
    (ho:H (gx+1)=some (.row 1 (ops5.map AV.str))) (hq:zacl H0 n g d w st (st6 w (st5 w 5) 6) Q) :
    LP (zbx Q) [.ptr n 0,.ptr (n+1) 0,.ptr (n+2) 0,.str w,.ptr gx 0,.int .i64 (-1),.slc (gx+1) 0 5,.int .i64 5,.int .i64 0] H (gx+2):=by
  refine LP.mk (fun k xs H' n'=>∃ i:Nat,i≤5∧k=5 - i∧xs=[.ptr n 0,.ptr (n+1) 0,.ptr (n+2) 0,.str w,.ptr gx 0,.int .i64 (st5 w i).want,.slc (gx+1) 0 5,.int .i64 5,.int .i64 i]∧FmH H0 n g gx (10 - (d:Int)) st (st5 w i) H'∧H' (gx+1)=some (.row 1 (ops5.map AV.str))∧n'=gx+2) 5 ⟨0,by omega,by omega,rfl,h,ho,rfl⟩ ?_
  rintro k xs H' n' ⟨i,hi,rfl,rfl,h,ho,rfl⟩
  generalize hJ:(fun (xs:List AV) (H:Heap) (nx:Nat)=>∃ k,k < 5 - i∧∃ i:Nat,i≤5∧k=5 - i∧xs=[.ptr n 0,.ptr (n+1) 0,.ptr (n+2) 0,.str w,.ptr gx 0,.int .i64 (st5 w i).want,.slc (gx+1) 0 5,.int .i64 5,.int .i64 i]∧FmH H0 n g gx (10 - (d:Int)) st (st5 w i) H∧H (gx+1)=some (.row 1 (ops5.map AV.str))∧nx=gx+2)=J
  by_cases hlt:i < 5
  · have hi':(i:Int) < 5:=by omega
    have hi0:(0:Int)≤i:=by omega
    have hx:=zyl (l:=ops5) (i:=i) hlt
    have hwr:IntKind.i64.wrap ((i:Int)+1)=(i:Int)+1:=i64w (by omega)
    have rx:=h.rx
    have e1:st5 w (i+1)=if ops5.getD i []=w then ⟨4,i+1,[],2⟩ else st5 w i:=rfl
    generalize ops5.getD i []=op at hx e1
    by_cases he:op=w
    · rw [if_pos he] at e1
      subst he
      simp only [Hd.avs] at rx
      simp [zbx,hi',hi0,ho,hx,hwr,rx]
      rw [← hJ]
      refine ⟨5 - (i+1),by omega,i+1,by omega,rfl,by rw [e1]; rfl,?_,?_,rfl⟩
      · rw [e1]
        exact h.head (q:=⟨4,i+1,[],2⟩)
      · rw [Heap.put_ne _ _ (by omega)]; exact ho
    · rw [if_neg he] at e1
      simp [zbx,hi',hi0,ho,hx,he,hwr]
      rw [← hJ]
      exact ⟨5 - (i+1),by omega,i+1,by omega,rfl,by rw [e1]; rfl,by rw [e1]; exact h,ho,rfl⟩
  · have e5:i=5:=by omega
    subst e5
    have hk6:AObj.row 1 (ops6.map AV.str)=AObj.row 1 [AV.str [99,101,108,108],AV.str [108,101,102,116],AV.str [114,105,103,104,116],AV.str [97,115,107],AV.str [104,101,114,101],AV.str [103,111]]:=rfl
    simp only [zbx,← hk6]
    simp
    exact zadl hE hd (h.put (by omega)) (by omega) hs hw (Heap.put_at _ _ _) hq
set_option maxHeartbeats 1000000 in
theorem zadn {d:Nat} (hE:zgk d) (hd:d≤11) {H0 H:Heap} {n g m:Nat} {c:UInt8} {r:Str} {Q:QT} (h:ExE H0 n g (10 - (d:Int)) (c :: r,0) H) (hs:r.length≤1499) (hm:n+3≤m)
    (hq:ExQ H0 n g (.agg (VM.formF (VM.exprF d) (VM.wF (r,0)).1 (VM.wF (r,0)).2).1.avs) (VM.formF (VM.exprF d) (VM.wF (r,0)).1 (VM.wF (r,0)).2).2 Q):zba Q n (.int .u8 40) H m:=by
  have r0:=h.r0
  have rg:H g=some (.row 2 [.str (c :: r),.int .i64 0]):=h.rg
  have gb:=h.gb
  have hle:(1:Int)≤r.length+1:=by omega
  have ne_1:g ≠ n∧n ≠ g∧g ≠ n+1∧n+1 ≠ g∧g ≠ n+2∧n+2 ≠ g∧n ≠ n+1∧n+1 ≠ n∧n ≠ n+2∧n+2 ≠ n∧n+1 ≠ n+2∧n+2 ≠ n+1:=⟨by omega,by omega,by omega,by omega,by omega,by omega,by omega,by omega,by omega,by omega,by omega,by omega⟩
  simp [zba,r0,rg,hle,ne_1]
  have h1:ExE H0 n g (10 - (d:Int)) (r,0) (H.put g (some (.row 2 [.str r,.int .i64 0]))):=h.put (st':=(r,0))
  generalize H.put g (some (.row 2 [.str r,.int .i64 0]))=HX at *
  have hwl:=zms (r,0)
  refine w_ac (by simp only; omega) h1.rg ?_
  have h2:ExE H0 n g (10 - (d:Int)) (VM.wF (r,0)).2 (HX.put g (some (PR (VM.wF (r,0)).2))):=h1.put
  generalize HX.put g (some (PR (VM.wF (r,0)).2))=HY at *
  generalize VM.wF (r,0)=ws at *
  obtain ⟨w,s1⟩:=ws
  simp only at *
  have hk5:AObj.row 1 (ops5.map AV.str)=AObj.row 1 [AV.str [43],AV.str [45],AV.str [42],AV.str [60],AV.str [61]]:=rfl
  simp only [zis,← hk5]
  simp
  have f0:FmH H0 n g m (10 - (d:Int)) s1 (st5 w 0) (HY.put m (some (.row 4 [.int .i64 11,.int .i64 0,.str w,.nils]))) :=
    ⟨by rw [Heap.put_ne _ _ (by omega)]; exact h2.r0,by rw [Heap.put_ne _ _ (by omega)]; exact h2.r1,by rw [Heap.put_ne _ _ (by omega)]; exact h2.r2,by rw [Heap.put_ne _ _ (by omega)]; exact h2.rg,Heap.put_at _ _ _,gb,hm,fun y hy hne=>by rw [Heap.put_ne _ _ (by omega)]; exact h2.keep y hy hne⟩
  refine ⟨zqx,zadk hE hd (f0.put (by omega)) (by omega) (by omega) (Heap.put_at _ _ _) fun s2 e2 => ?_⟩
  rw [zadi] at e2 ⊢
  unfold VM.formF at hq
  cases hw:VM.headOf w with
  | some p =>
    obtain ⟨k,z,want⟩:=p
    rw [hw] at hq e2
    simp only at hq e2 ⊢
    rw [if_pos (by omega)] at e2
    subst e2
    have hf:fits (want:Int) (VM.manyF (VM.exprF d) s2).1.length↔(VM.manyF (VM.exprF d) s2).1.length=want:=by
      unfold fits
      rw [if_pos (by omega)]
      omega
    by_cases hl:(VM.manyF (VM.exprF d) s2).1.length=want
    · rw [if_pos hl] at hq; rw [if_pos (hf.2 hl)]; exact hq
    · rw [if_neg hl] at hq; rw [if_neg (fun h=>hl (hf.1 h))]; exact hq
  | none =>
    rw [hw] at hq e2
    simp only at hq e2 ⊢
    rw [if_neg (by omega)] at e2
    rw [← e2] at hq
    have hf:fits (-1) (VM.manyF (VM.exprF d) s2).1.length↔(VM.manyF (VM.exprF d) s2).1.length≤4:=by
      unfold fits
      rw [if_neg (by omega)]
    by_cases hl:(VM.manyF (VM.exprF d) s2).1.length≤4
    · rw [if_pos hl] at hq; rw [if_pos (hf.2 hl)]; exact hq
    · rw [if_neg hl] at hq; rw [if_neg (fun h=>hl (hf.1 h))]; exact hq
set_option maxHeartbeats 1000000 in
theorem zadp:∀ d,d≤11→zgk d:=by
  intro d
  induction d with
  | zero =>
    intro _ st g H n Q hs hg hq
    refine za.parser (st':=(VM.exprF 0 st).2) hg (fun hgn => ?_) hq
    suffices main:∀ Q:QT,ExQ H n g (.agg (VM.exprF 0 st).1.avs) (VM.exprF 0 st).2 Q→za Tryd.prog 69 [.ptr g 0,.int .i64 (11 - ((0:Nat):Int))] H n Q from main _ fun v H' n' a b c=>⟨a,b,c⟩
    intro Q hq
    refine zgn _ _ _ _ _ ?_
    simp [zfs]
    have h0:ExE H n g 11 st (((H.put n (some (.row 1 [.ptr g 0]))).put (n+1) (some (.row 1 [.int .i64 11]))).put (n+2) (some (.row 4 [.int .i64 0,.int .i64 0,.str [],.nils]))) :=
      ⟨by rw [Heap.put_ne _ _ (by omega),Heap.put_ne _ _ (by omega),Heap.put_at],by rw [Heap.put_ne _ _ (by omega),Heap.put_at],Heap.put_at _ _ _,by rw [Heap.put_ne _ _ (by omega),Heap.put_ne _ _ (by omega),Heap.put_ne _ _ (by omega)]; exact hg,hgn,fun y hy _=>by rw [Heap.put_ne _ _ (by omega),Heap.put_ne _ _ (by omega),Heap.put_ne _ _ (by omega)]⟩
    generalize Heap.put (Heap.put (Heap.put H n _) (n+1) _) (n+2) _=H3 at h0 ⊢
    refine zpd h0.rg ?_
    have r2:=h0.r2
    have hb:=h0.gb
    rw [if_neg (by omega)]
    have ne_2:g ≠ n∧n ≠ g∧g ≠ n+1∧n+1 ≠ g∧g ≠ n+2∧n+2 ≠ g∧n ≠ n+1∧n+1 ≠ n∧n ≠ n+2∧n+2 ≠ n∧n+1 ≠ n+2∧n+2 ≠ n+1:=⟨by omega,by omega,by omega,by omega,by omega,by omega,by omega,by omega,by omega,by omega,by omega,by omega⟩
    simp [zcp,r2,ne_2]
    exact h0.leafP hq
  | succ d ih =>
    intro hd st g H n Q hs hg hq
    have hE:=ih (by omega)
    refine za.parser (st':=(VM.exprF (d+1) st).2) hg (fun hgn => ?_) hq
    suffices main:∀ Q:QT,ExQ H n g (.agg (VM.exprF (d+1) st).1.avs) (VM.exprF (d+1) st).2 Q→za Tryd.prog 69 [.ptr g 0,.int .i64 (11 - ((d+1:Nat):Int))] H n Q from main _ fun v H' n' a b c=>⟨a,b,c⟩
    intro Q hq
    have hz:(11:Int) - ((d+1:Nat):Int)=10 - (d:Int):=by omega
    rw [hz]
    refine zgn _ _ _ _ _ ?_
    simp [zfs]
    have h0:ExE H n g (10 - (d:Int)) st (((H.put n (some (.row 1 [.ptr g 0]))).put (n+1) (some (.row 1 [.int .i64 (10 - (d:Int))]))).put (n+2) (some (.row 4 [.int .i64 0,.int .i64 0,.str [],.nils]))) :=
      ⟨by rw [Heap.put_ne _ _ (by omega),Heap.put_ne _ _ (by omega),Heap.put_at],by rw [Heap.put_ne _ _ (by omega),Heap.put_at],Heap.put_at _ _ _,by rw [Heap.put_ne _ _ (by omega),Heap.put_ne _ _ (by omega),Heap.put_ne _ _ (by omega)]; exact hg,hgn,fun y hy _=>by rw [Heap.put_ne _ _ (by omega),Heap.put_ne _ _ (by omega),Heap.put_ne _ _ (by omega)]⟩
    generalize Heap.put (Heap.put (Heap.put H n _) (n+1) _) (n+2) _=H3 at h0 ⊢
    have r0:=h0.r0
    have r2:=h0.r2
    have hb:=h0.gb
    refine zpd h0.rg ?_
    have hd10:(10:Int) - (d:Int)≤10:=by omega
    rw [if_pos hd10,Heap.put_same h0.rg]
    unfold VM.exprF at hq
    by_cases he:st.2=0
    · rw [if_neg (by simpa using he)] at hq
      have hd11:¬ (10:Int) < 10 - (d:Int):=by omega
      simp [zcp,he,r0,hd10,hd11]
      refine zmb h0.rg ?_
      have h1:ExE H n g (10 - (d:Int)) (VM.trim st.1,st.2) (H3.put g (some (PR (VM.trim st.1,st.2)))):=h0.put
      generalize H3.put g (some (PR (VM.trim st.1,st.2)))=HX at h1 ⊢
      have hts:=VM.trim_le st.1
      by_cases h39:VM.nxt st.1=39
      · rw [if_pos h39] at hq
        obtain ⟨c,r,hc⟩:=zjm (b:=st.1) (by rw [h39]; decide)
        rw [hc] at hq h1 hts
        rw [h39]
        simp [zba]
        exact zyh h1 (by simp at hts; omega) (by omega) hq
      · rw [if_neg h39] at hq
        by_cases h40:VM.nxt st.1=40
        · rw [if_neg (by simpa using h40)] at hq
          obtain ⟨c,r,hc⟩:=zjm (b:=st.1) (by rw [h40]; decide)
          rw [hc,he] at hq h1
          rw [hc] at hts
          rw [h40]
          exact zadn hE (by omega) h1 (by simp at hts; omega) (by omega) hq
        · rw [if_pos h40] at hq
          exact zaah h1 (by simp only; omega) h39 h40 hq
    · rw [if_pos he] at hq
      simp [zcp,he,r2]
      exact h0.leafN hq
end Go.Proofs.YtpllgpgdcbgalaaDoor
set_option maxRecDepth 8000
namespace Go.Proofs.YtpllgpgdcbgalaaDoor
open Go Go.RowKit
mutual
theorem zmj (A:Nat→Prop):∀ x:Sm,∀ v∈x.avs,Bel A v
  | .mk k nm ar t e=>by
    rw [Sm.avs]
    intro v hv
    simp only [List.mem_cons,List.not_mem_nil,or_false] at hv
    rcases hv with rfl | rfl | rfl | rfl | rfl
    · exact .int _ _
    · exact .str _
    · exact zcv fun x hx v hv=>by obtain ⟨y,_,rfl⟩:=List.mem_map.1 hx; exact zoq A y v hv
    · exact zcv (zry A t)
    · exact zcv (zry A e)
theorem zry (A:Nat→Prop):∀ l:List Sm,∀ x∈Sm.avsL l,∀ v∈x,Bel A v
  | []=>by simp [Sm.avsL]
  | x :: r=>by
    rw [Sm.avsL]
    intro y hy
    rcases List.mem_cons.1 hy with rfl | h
    · exact zmj A x
    · exact zry A r y h
end
theorem zadt (x:Sm) (A:Nat→Prop):Bel A (.agg x.avs):=.agg _ fun _ v hv=>zmj A x v (List.mem_of_getElem? hv)
theorem zth (x:Sm):∀ v∈x.avs,v.one=true:=by
  cases x
  rw [zay]
  intro v hv
  simp only [List.mem_cons,List.not_mem_nil,or_false] at hv
  rcases hv with rfl | rfl | rfl | rfl | rfl <;> rfl
inductive RowS {α:Type} (f:α→List AV) (sz:Nat) (H:Heap) (lo hi:Nat):List α→AV→Prop
  | nil:RowS f sz H lo hi [] .nils
  | row {l:List α} {ga:Nat}:lo≤ga→ga < hi→H ga=some (.row sz (l.map f).flatten)→RowS f sz H lo hi l (.slc ga 0 l.length)
section
variable {α:Type} {f:α→List AV} {sz:Nat}
theorem RowS.keep {H H':Heap} {lo hi hi':Nat} {l:List α} {A:AV} (h:RowS f sz H lo hi l A) (hh:hi≤hi') (hk:∀ y,lo≤y→y < hi→H' y=H y):RowS f sz H' lo hi' l A:=by
  cases h with
  | nil=>exact .nil
  | row h1 h2 h4=>exact .row h1 (by omega) (by rw [hk _ h1 h2]; exact h4)
theorem zap (hf:∀ x,(f x).length=sz) (l:List α):((l.map f).flatten).length=l.length*sz:=by
  induction l with
  | nil=>simp
  | cons x r ih=>rw [List.map_cons,List.flatten_cons,List.length_append,ih,hf,List.length_cons,Nat.succ_mul]; omega
theorem zbu (l:List α) (x:α):((l ++ [x]).map f).flatten=(l.map f).flatten ++ f x:=by simp
theorem RowS.frz {H H':Heap} {lo hi N:Nat} {l:List α} {A:AV} (h:RowS f sz H lo hi l A) (hf:∀ x,(f x).length=sz) (hb:∀ (A:Nat→Prop) x,∀ v∈f x,Bel A v) (hN:N≤lo) (hk:∀ y,lo≤y→y < hi→H' y=H y):Frz H' N A (.ro (l.map f)):=by
  cases h with
  | nil=>exact .nils
  | @row l ga h1 h2 h4 =>
    refine Frz.rowW (cells:=(l.map f).flatten) (sz:=sz) (by omega) (by rw [hk _ h1 h2]; exact h4) (by simp) (fun x hx => ?_) (FL.same fun c hc => ?_)
    · obtain ⟨y,_,rfl⟩:=List.mem_map.1 hx; exact hf y
    · obtain ⟨x,hx,hc⟩:=List.mem_flatten.1 hc
      obtain ⟨y,_,rfl⟩:=List.mem_map.1 hx
      exact hb _ y c hc
theorem RowS.lnl {H:Heap} {lo hi:Nat} {l:List α} {A:AV} (h:RowS f sz H lo hi l A) {k:AV→Prop}:LNL A k=k (.int .i64 (l.length:Int)):=by
  cases h with
  | nil=>simp
  | row=>simp
theorem RowS.one {H:Heap} {lo hi:Nat} {l:List α} {A:AV} (h:RowS f sz H lo hi l A):A.one=true:=by
  cases h <;> rfl
end
def ztd (d:Nat):Prop:=∀ (st:VM.St) (g:Nat) (H:Heap) (n:Nat) (Q:QT),st.1.length≤1500→H g=some (PR st)→Q (.agg (VM.stmtF d st).1.avs) (H.put g (some (PR (VM.stmtF d st).2))) n→za Tryd.prog 51 [.ptr g 0,.int .i64 (11 - (d:Int))] H n Q
def zot (d:Nat):Prop:=∀ (st:VM.St) (g:Nat) (H:Heap) (n:Nat) (Q:QT),st.1.length≤1500→H g=some (PR st)→Q (.ro ((VM.manyF (VM.stmtF d) st).1.map Sm.avs)) (H.put g (some (PR (VM.manyF (VM.stmtF d) st).2))) n→za Tryd.prog 32 [.ptr g 0,.int .i64 (11 - (d:Int))] H n Q
theorem zm.stmt {d:Nat} (hE:ztd d) {st:VM.St} {g n:Nat} {H:Heap} {kt:Kt} (hs:st.1.length≤1500) (hg:H g=some (PR st)) (hk:kt (.agg (VM.stmtF d st).1.avs) [g] [] [(g,some (PR (VM.stmtF d st).2))]):zm Tryd.prog (.clo 51 []) [.ptr g 0,.int .i64 (11 - (d:Int))] H n kt :=
  ⟨_,[g],[],_,.inl rfl,LC.parser hg (zadt _) fun H n Q h1 h2=>hE st g H n Q hs h1 h2,hk⟩
structure StL (H0:Heap) (b g:Nat) (dz:Int) (l:List Sm) (st:VM.St) (H:Heap) (n:Nat):Prop where
  r0:H b=some (.row 1 [.ptr g 0])
  r1:H (b+1)=some (.row 1 [.int .i64 dz])
  rx:∃ A,H (b+2)=some (.row 1 [A])∧RowS Sm.avs 5 H (b+3) n l A
  rg:H g=some (PR st)
  gb:g < b
  bn:b+3≤n
  keep:∀ y,y < b→y ≠ g→H y=H0 y
  few:l.length+VM.left st≤1502
  short:st.1.length≤1500
theorem StL.put {H0 H:Heap} {b g n:Nat} {dz:Int} {l:List Sm} {st st':VM.St} (h:StL H0 b g dz l st H n) (hf:VM.Flow st st'):StL H0 b g dz l st' (H.put g (some (PR st'))) n:=by
  have hb:=h.gb
  obtain ⟨A,h4,h5⟩:=h.rx
  exact ⟨by rw [Heap.put_ne _ _ (by omega)]; exact h.r0,by rw [Heap.put_ne _ _ (by omega)]; exact h.r1,⟨A,by rw [Heap.put_ne _ _ (by omega)]; exact h4,h5.keep (Nat.le_refl _) fun y hy _=>Heap.put_ne _ _ (by omega)⟩,Heap.put_at _ _ _,hb,h.bn,fun y hy hne=>by rw [Heap.put_ne _ _ hne]; exact h.keep y hy hne,by have:=hf.left; have:=h.few; omega,Nat.le_trans hf.1 h.short⟩
theorem StL.next {H0 H HF:Heap} {b g n:Nat} {dz:Int} {l:List Sm} {st st':VM.St} (h:StL H0 b g dz l st H n) (x:Sm) (hl:VM.left st' < VM.left st) (hle:st'.1.length≤st.1.length) (f1:HF g=some (PR st')) (f2:HF (b+2)=some (.row 1 [.slc (n+1) 0 (l.length+1)])) (f3:HF (n+1)=some (.row 5 ((l ++ [x]).map Sm.avs).flatten))
    (f4:∀ y,y < b+2→y ≠ g→HF y=H y):StL H0 b g dz (l ++ [x]) st' HF (n+2):=by
  have hb:=h.gb
  have hx0:=h.bn
  have hfew:=h.few
  have hsh:=h.short
  refine ⟨by rw [f4 b (by omega) (by omega)]; exact h.r0,by rw [f4 _ (by omega) (by omega)]; exact h.r1,⟨_,f2,?_⟩,f1,hb,by omega,fun y hy hne=>by rw [f4 y (by omega) hne]; exact h.keep y hy hne,by rw [List.length_append]; simp only [List.length_cons,List.length_nil]; omega,by omega⟩
  have:=RowS.row (f:=Sm.avs) (sz:=5) (H:=HF) (lo:=b+3) (hi:=n+2) (l:=l ++ [x]) (ga:=n+1) (by omega) (by omega) f3
  rw [List.length_append] at this
  exact this
set_option maxHeartbeats 1000000 in
theorem zxu {d:Nat} (hE:ztd d) {H0 H:Heap} {b g n:Nat} {l:List Sm} {st:VM.St} {K:QT} (h:StL H0 b g (11 - (d:Int)) l st H n) (he:st.2=0)
    (hk:∀ H' n',StL H0 b g (11 - (d:Int)) (l ++ [(VM.stmtF d st).1]) (VM.stmtF d st).2 H' n'→K (.tup []) H' n'):za Tryd.prog 50 [.ptr (b+2) 0,.ptr b 0,.ptr (b+1) 0] H n K:=by
  refine zlc _ _ _ _ _ _ ?_
  have hb:=h.gb
  have hbn:=h.bn
  obtain ⟨A,rx,ra⟩:=h.rx
  have r0:=h.r0
  have r1:=h.r1
  have hfew:=h.few
  have hleft:=VM.left_lt' (VM.nice_stmt d) he
  have hle:=(VM.nice_stmt d).le st
  have hsh:=h.short
  cases ra with
  | nil =>
    simp [zdm,rx,r0,r1]
    refine zm.stmt hE h.short h.rg ?_
    have xl:=zly (VM.stmtF d st).1
    have xo:=zth (VM.stmtF d st).1
    generalize hxa:(VM.stmtF d st).1.avs=xa at xl xo
    have xd:xa.drop 5=[]:=List.drop_of_length_le (by omega)
    have ne_0:g ≠ b∧b ≠ g∧g ≠ b+1∧b+1 ≠ g∧g ≠ b+2∧b+2 ≠ g∧b ≠ b+1∧b+1 ≠ b∧b ≠ b+2∧b+2 ≠ b∧b+1 ≠ b+2∧b+2 ≠ b+1∧g ≠ n∧n ≠ g∧g ≠ n+1∧n+1 ≠ g∧b ≠ n∧n ≠ b∧b ≠ n+1∧n+1 ≠ b∧b+1 ≠ n∧n ≠ b+1∧b+1 ≠ n+1∧n+1 ≠ b+1∧b+2 ≠ n∧n ≠ b+2∧b+2 ≠ n+1∧n+1 ≠ b+2:=⟨by omega,by omega,by omega,by omega,by omega,by omega,by omega,by omega,by omega,by omega,by omega,by omega,by omega,by omega,by omega,by omega,by omega,by omega,by omega,by omega,by omega,by omega,by omega,by omega,by omega,by omega,by omega,by omega⟩
    simp [zdn,rx,xl,xd,hxa,ne_0]
    refine ⟨xo,hk _ _ (h.next _ (by omega) hle ?_ ?_ ?_ fun y hy hne => ?_)⟩
    · rw [Heap.put_ne _ _ (by omega),Heap.put_ne _ _ (by omega),Heap.put_ne _ _ (by omega),Heap.put_at]
    · rw [Heap.put_at]; rfl
    · rw [Heap.put_ne _ _ (by omega),Heap.put_at,zbu,hxa]; rfl
    · rw [Heap.put_ne _ _ (by omega),Heap.put_ne _ _ (by omega),Heap.put_ne _ _ (by omega),Heap.put_ne _ _ hne]
  | @row l ga a1 a2 a4 =>
    simp [zdm,rx,r0,r1]
    refine zm.stmt hE h.short h.rg ?_
    have xl:=zly (VM.stmtF d st).1
    have xo:=zth (VM.stmtF d st).1
    generalize hxa:(VM.stmtF d st).1.avs=xa at xl xo
    have xd:xa.drop 5=[]:=List.drop_of_length_le (by omega)
    have rl:=zap zly l
    have h1:(l.length+1)*96≤140737488355328:=by omega
    have h2:(l.length:Int) < l.length+1:=by omega
    generalize hrr:(l.map Sm.avs).flatten=rr at rl a4
    have h3:rr.take (l.length*5)=rr:=List.take_of_length_le (by omega)
    have ne_1:g ≠ b∧b ≠ g∧g ≠ b+1∧b+1 ≠ g∧g ≠ b+2∧b+2 ≠ g∧g ≠ ga∧ga ≠ g∧b ≠ b+1∧b+1 ≠ b∧b ≠ b+2∧b+2 ≠ b∧b ≠ ga∧ga ≠ b∧b+1 ≠ b+2∧b+2 ≠ b+1∧b+1 ≠ ga∧ga ≠ b+1∧b+2 ≠ ga∧ga ≠ b+2∧g ≠ n∧n ≠ g∧g ≠ n+1∧n+1 ≠ g∧b ≠ n∧n ≠ b∧b ≠ n+1∧n+1 ≠ b∧b+1 ≠ n∧n ≠ b+1∧b+1 ≠ n+1∧n+1 ≠ b+1∧b+2 ≠ n∧n ≠ b+2∧b+2 ≠ n+1∧n+1 ≠ b+2∧ga ≠ n∧n ≠ ga∧ga ≠ n+1∧n+1 ≠ ga:=⟨by omega,by omega,by omega,by omega,by omega,by omega,by omega,by omega,by omega,by omega,by omega,by omega,by omega,by omega,by omega,by omega,by omega,by omega,by omega,by omega,by omega,by omega,by omega,by omega,by omega,by omega,by omega,by omega,by omega,by omega,by omega,by omega,by omega,by omega,by omega,by omega,by omega,by omega,by omega,by omega⟩
    simp [zdn,rx,a4,rl,h1,h2,h3,xl,xd,hxa,ne_1]
    have h4:(rr ++ [AV.int .i64 0,.str [],.nils,.nils,.nils]).drop (l.length*5+5)=[]:=List.drop_of_length_le (by rw [List.length_append,rl]; simp)
    rw [h4]
    refine ⟨xo,hk _ _ (h.next _ (by omega) hle ?_ ?_ ?_ fun y hy hne => ?_)⟩
    · rw [Heap.put_ne _ _ (by omega),Heap.put_ne _ _ (by omega),Heap.put_ne _ _ (by omega),Heap.put_ne _ _ (by omega),Heap.put_at]
    · rw [Heap.put_at]
    · rw [Heap.put_ne _ _ (by omega),Heap.put_at,zbu,hxa,hrr,List.append_nil]
    · rw [Heap.put_ne _ _ (by omega),Heap.put_ne _ _ (by omega),Heap.put_ne _ _ (by omega),Heap.put_ne _ _ (by omega),Heap.put_ne _ _ hne]
theorem ztg {d:Nat} (hE:ztd d):zot d:=by
  intro st g H n Q hs hg hq
  refine za.parser (st':=(VM.manyF (VM.stmtF d) st).2) hg (fun hgn => ?_) hq
  suffices main:∀ Q:QT,ExQ H n g (.ro ((VM.manyF (VM.stmtF d) st).1.map Sm.avs)) (VM.manyF (VM.stmtF d) st).2 Q→za Tryd.prog 32 [.ptr g 0,.int .i64 (11 - (d:Int))] H n Q from main _ fun v H' n' a b c=>⟨a,b,c⟩
  intro Q hq
  refine zmn _ _ _ _ _ ?_
  simp [zip]
  have h0:StL H n g (11 - (d:Int)) [] st (((H.put n (some (.row 1 [.ptr g 0]))).put (n+1) (some (.row 1 [.int .i64 (11 - (d:Int))]))).put (n+2) (some (.row 1 [.nils]))) (n+3) :=
    ⟨by rw [Heap.put_ne _ _ (by omega),Heap.put_ne _ _ (by omega),Heap.put_at],by rw [Heap.put_ne _ _ (by omega),Heap.put_at],⟨_,Heap.put_at _ _ _,.nil⟩,by rw [Heap.put_ne _ _ (by omega),Heap.put_ne _ _ (by omega),Heap.put_ne _ _ (by omega)]; exact hg,hgn,by omega,fun y hy _=>by rw [Heap.put_ne _ _ (by omega),Heap.put_ne _ _ (by omega),Heap.put_ne _ _ (by omega)],by have:=VM.left_le st; simp only [List.length_nil]; omega,hs⟩
  generalize Heap.put (Heap.put (Heap.put H n _) (n+1) _) (n+2) _=H3 at h0 ⊢
  refine zqc (VM.nice_stmt d) (fun l s H' n'=>StL H n g (11 - (d:Int)) l s H' n') (fun _ _ _ _ h=>h.rg) (fun _ _ _ _ _ h hf=>h.put hf) (fun l s H' n' K h he hk=>zxu hE h he hk) h0 fun H' n' h => ?_
  obtain ⟨A,rx,ra⟩:=h.rx
  simp [ziq,rx]
  exact hq _ _ _ (ra.frz zly zmj (by omega) fun _ _ _=>rfl) h.rg h.keep
end Go.Proofs.YtpllgpgdcbgalaaDoor
set_option maxRecDepth 8000
namespace Go.Proofs.YtpllgpgdcbgalaaDoor
open Go Go.RowKit
theorem zada {g:Nat} {es:List (AV×AV)} {key v:AV} {H H0:Heap} {kh:Heap→Prop} (hH:H g=some (.mp es)) (hy:∀ y,y ≠ g→H y=H0 y) (hf:zah key es=some none)
    (hk:∀ H',H' g=some (.mp (es ++ [(key,v)]))→(∀ y,y ≠ g→H' y=H0 y)→kh H'):MU (.amap g) key v H kh:=by
  rw [mu_p,hH,mapk,hf,optk]
  exact hk _ (Heap.put_at _ _ _) fun y hne=>by rw [Heap.put_ne _ _ hne]; exact hy y hne
def zqz:List (Str×Int):=[([108,101,116],1),([115,101,116],2),([105,102],3),([119,104,105,108,101],4),([115,97,121],5),([114,101,116,117,114,110],6),([112,117,116,108],7),([112,117,116,114],8),([100,111],9)]
def zru:List (AV×AV):=zqz.map fun p=>(.str p.1,.int .i64 p.2)
theorem zyw (w:Str):∃ r,zah (.str w) zru=some r∧(match r with | some (_,v)=>v | none=>.int .i64 0)=.int .i64 (VM.stKind w):=by
  by_cases h1:w=[108,101,116]
  · subst h1; exact ⟨some (0,.int .i64 1),rfl,rfl⟩
  by_cases h2:w=[115,101,116]
  · subst h2; exact ⟨some (1,.int .i64 2),rfl,rfl⟩
  by_cases h3:w=[105,102]
  · subst h3; exact ⟨some (2,.int .i64 3),rfl,rfl⟩
  by_cases h4:w=[119,104,105,108,101]
  · subst h4; exact ⟨some (3,.int .i64 4),rfl,rfl⟩
  by_cases h5:w=[115,97,121]
  · subst h5; exact ⟨some (4,.int .i64 5),rfl,rfl⟩
  by_cases h6:w=[114,101,116,117,114,110]
  · subst h6; exact ⟨some (5,.int .i64 6),rfl,rfl⟩
  by_cases h7:w=[112,117,116,108]
  · subst h7; exact ⟨some (6,.int .i64 7),rfl,rfl⟩
  by_cases h8:w=[112,117,116,114]
  · subst h8; exact ⟨some (7,.int .i64 8),rfl,rfl⟩
  by_cases h9:w=[100,111]
  · subst h9; exact ⟨some (8,.int .i64 9),rfl,rfl⟩
  refine ⟨none,?_,?_⟩
  · simp [zru,zqz,h1,h2,h3,h4,h5,h6,h7,h8,h9]
  · simp [VM.stKind,h1,h2,h3,h4,h5,h6,h7,h8,h9]
set_option maxHeartbeats 1000000 in
theorem zzt {n m g:Nat} {dz:Int} {w:Str} {H:Heap} {Q:QT} (hk:∀ H',H' (m+1)=some (.row 5 [.int .i64 (VM.stKind w),.str [],.nils,.nils,.nils])→(∀ y,y ≠ m→y ≠ m+1→H' y=H y)→JN (zbv Q) (zbw (.int .i64 (VM.stKind w)) (.ptr g 0) H' m (.int .i64 dz) n)) :
    zep Q (.ptr g 0) (.int .i64 dz) n (.str w) H m:=by
  simp only [zep,puth,zwz,true_and]
  have hH:(H.put m (some (.mp []))) m=some (.mp []):=Heap.put_at _ _ _
  have hy:∀ y,y ≠ m→(H.put m (some (.mp []))) y=H y:=fun y hne=>Heap.put_ne _ _ hne
  generalize H.put m (some (.mp []))=H1 at *
  repeat (refine zada hH hy (by rfl) ?_; clear hH hy; clear H1; intro H1 hH hy)
  simp only [List.nil_append,List.cons_append] at hH
  obtain ⟨r,h1,h2⟩:=zyw w
  have hH':H1 m=some (.mp zru):=hH
  simp only [lk_p,hH',mapk,h1,optk,cond_false]
  have fin:∀ v,v=.int .i64 (VM.stKind w)→JN (zbv Q) (zbw v (.ptr g 0) ((H1.put (m+1) (some (.row 5 [v,.str [],.nils,.nils,.nils])))) m (.int .i64 dz) n):=by
    rintro v rfl
    refine hk _ (Heap.put_at _ _ _) fun y h1 h2 => ?_
    rw [Heap.put_ne _ _ h2]; exact hy y h1
  cases r with
  | none =>
    have:=fin _ h2
    simp
    exact this
  | some p =>
    obtain ⟨i,v⟩:=p
    simp only at h2
    subst h2
    have:=fin _ rfl
    simp
    exact this
end Go.Proofs.YtpllgpgdcbgalaaDoor
set_option maxRecDepth 8000
namespace Go.Proofs.YtpllgpgdcbgalaaDoor
open Go Go.RowKit
namespace VM
def tailF (d:Nat) (k:Int) (nm:Str) (a:List Ex×St):Sm×St :=
  if k=3 then
    (.mk k nm a.1 (manyF (stmtF d) (mustF 40 a.2)).1 (manyF (stmtF d) (mustF 40 (manyF (stmtF d) (mustF 40 a.2)).2)).1,mustF 41 (manyF (stmtF d) (mustF 40 (manyF (stmtF d) (mustF 40 a.2)).2)).2)
  else if k=4 then (.mk k nm a.1 (manyF (stmtF d) a.2).1 [],(manyF (stmtF d) a.2).2)
  else (.mk k nm a.1 [] [],mustF 41 a.2)
end VM
inductive Lst:List Sm→AV→Prop
  | nils:Lst [] .nils
  | ro (l:List Sm):Lst l (.ro (l.map Sm.avs))
theorem Lst.frz {H:Heap} {n:Nat} {l:List Sm} {A:AV} (h:Lst l A):Frz H n A (.ro (l.map Sm.avs)):=by
  cases h with
  | nils=>exact .nils
  | ro=>exact .same _ (zcv fun x hx v hv=>by obtain ⟨y,_,rfl⟩:=List.mem_map.1 hx; exact zmj _ y v hv)
theorem Lst.one {l:List Sm} {A:AV} (h:Lst l A):A.one=true:=by cases h <;> rfl
theorem Lst.sure {l:List Sm} {A:AV} (h:Lst l A):A.sure=true:=by cases h <;> rfl
structure SmE (H0:Heap) (n g:Nat) (k:Int) (nm:Str) (ar:List Ex) (A2 A3:AV) (st:VM.St) (H:Heap) (m:Nat):Prop where
  rb:∃ cs,H n=some (.row 5 cs)∧cs.length=5
  rx:∃ A,H (n+2)=some (.row 5 [.int .i64 k,.str nm,A,A2,A3])∧RowS Ex.avs 4 H (n+3) m ar A
  rg:H g=some (PR st)
  gb:g < n
  bm:n+3≤m
  keep:∀ y,y < n→y ≠ g→H y=H0 y
  short:st.1.length≤1500
section
variable {H0 H:Heap} {n g m:Nat} {k:Int} {nm:Str} {ar:List Ex} {A2 A3:AV} {st st':VM.St} {Q:QT}
theorem SmE.state (h:SmE H0 n g k nm ar A2 A3 st H m) (hf:VM.Flow st st'):SmE H0 n g k nm ar A2 A3 st' (H.put g (some (PR st'))) m:=by
  have hb:=h.gb
  obtain ⟨A,h4,h5⟩:=h.rx
  obtain ⟨cs,h6,h7⟩:=h.rb
  exact ⟨⟨cs,by rw [Heap.put_ne _ _ (by omega)]; exact h6,h7⟩,⟨A,by rw [Heap.put_ne _ _ (by omega)]; exact h4,h5.keep (Nat.le_refl _) fun y hy _=>Heap.put_ne _ _ (by omega)⟩,Heap.put_at _ _ _,hb,h.bm,fun y hy hne=>by rw [Heap.put_ne _ _ hne]; exact h.keep y hy hne,Nat.le_trans hf.1 h.short⟩
theorem SmE.cells {k':Int} {nm':Str} {B2 B3:AV} {A:AV} (h:SmE H0 n g k nm ar A2 A3 st H m) (hA:H (n+2)=some (.row 5 [.int .i64 k,.str nm,A,A2,A3])):SmE H0 n g k' nm' ar B2 B3 st (H.put (n+2) (some (.row 5 [.int .i64 k',.str nm',A,B2,B3]))) m:=by
  have hb:=h.gb
  obtain ⟨A',h4,h5⟩:=h.rx
  rw [hA] at h4
  cases h4
  obtain ⟨cs,h6,h7⟩:=h.rb
  exact ⟨⟨cs,by rw [Heap.put_ne _ _ (by omega)]; exact h6,h7⟩,⟨A,Heap.put_at _ _ _,h5.keep (Nat.le_refl _) fun y hy _=>Heap.put_ne _ _ (by omega)⟩,by rw [Heap.put_ne _ _ (by omega)]; exact h.rg,hb,h.bm,fun y hy hne=>by rw [Heap.put_ne _ _ (by omega)]; exact h.keep y hy hne,h.short⟩
theorem SmE.done {t e:List Sm} {A:AV} (h:SmE H0 n g k nm ar A2 A3 st H m) (hA:H (n+2)=some (.row 5 [.int .i64 k,.str nm,A,A2,A3])) (h2:Lst t A2) (h3:Lst e A3) (hq:ExQ H0 n g (.agg (Sm.mk k nm ar t e).avs) st Q) (o:Option AObj) (m':Nat):Q (.agg [.int .i64 k,.str nm,A,A2,A3]) (H.put n o) m':=by
  have hb:=h.gb
  obtain ⟨A',q1,q2⟩:=h.rx
  rw [hA] at q1
  cases q1
  refine hq _ _ _ ?_ (by rw [Heap.put_ne _ _ (by omega)]; exact h.rg) fun y hy hne=>by rw [Heap.put_ne _ _ (by omega)]; exact h.keep y hy hne
  rw [zay]
  exact FL.agg (.cons (.same _ (.int _ _)) (.cons (.same _ (.str _)) (.cons (q2.frz zbs zoq (by omega) fun y hy _=>Heap.put_ne _ _ (by omega)) (.cons h2.frz (.cons h3.frz .nil)))))
theorem zvn {x0 x1 x3 x5 x6 v:AV} {t e:List Sm} (h:SmE H0 n g k nm ar A2 A3 st H m) (h2:Lst t A2) (h3:Lst e A3) (hq:ExQ H0 n g (.agg (Sm.mk k nm ar t e).avs) st Q):zda [x0,x1,.ptr n 0,x3,.ptr (n+2) 0,x5,x6] Q v H m:=by
  obtain ⟨A,rx,ra⟩:=h.rx
  obtain ⟨cs,rb,rbl⟩:=h.rb
  simp [zda,rx,rb,rbl,ra.one,h2.one,h3.one]
  exact h.done rx h2 h3 hq _ _
end
set_option maxHeartbeats 1000000 in
theorem zxv {d:Nat} (hd:d≤11) (hS:zot d) {H0 H:Heap} {n g m:Nat} {k cnt i:Int} {nm:Str} {ar:List Ex} {st:VM.St} {Q:QT} {K:J3} (h:SmE H0 n g k nm ar .nils .nils st H m) (hi:¬ i < cnt)
    (hq:ExQ H0 n g (.agg (VM.tailF d k nm (ar,st)).1.avs) (VM.tailF d k nm (ar,st)).2 Q):zan Q K [.ptr g 0,.int .i64 (10 - (d:Int)),.ptr n 0,.int .i64 k,.ptr (n+2) 0,.int .i64 cnt,.int .i64 i] H m:=by
  have hw:IntKind.i64.wrap (10 - (d:Int)+1)=11 - (d:Int):=by rw [i64w (by omega)]; omega
  unfold VM.tailF at hq
  by_cases h3:k=3
  · rw [if_pos h3] at hq
    subst h3
    simp [zan,hi]
    refine zeh (by decide) h.rg ?_
    have f1:=VM.flow_must 40 st
    have h1:=h.state f1
    generalize H.put g (some (PR (VM.mustF 40 st)))=H1 at h1 ⊢
    simp [zjt,hw]
    refine hS _ g H1 m _ h1.short h1.rg ?_
    have f2:=(VM.nice_many (VM.nice_stmt d)).flow (VM.mustF 40 st)
    have h2:=h1.state f2
    generalize H1.put g _=H2 at h2 ⊢
    obtain ⟨A,rx,ra⟩:=h2.rx
    simp [zju,rx]
    have h3:=h2.cells (k':=3) (nm':=nm) (B2:=.ro ((VM.manyF (VM.stmtF d) (VM.mustF 40 st)).1.map Sm.avs)) (B3:=.nils) rx
    generalize H2.put (n+2) _=H3 at h3 ⊢
    generalize VM.manyF (VM.stmtF d) (VM.mustF 40 st)=t at *
    refine zeh (by decide) h3.rg ?_
    have h4:=h3.state (VM.flow_must 40 t.2)
    generalize H3.put g _=H4 at h4 ⊢
    simp [zjv,hw]
    refine hS _ g H4 m _ h4.short h4.rg ?_
    have h5:=h4.state ((VM.nice_many (VM.nice_stmt d)).flow (VM.mustF 40 t.2))
    generalize H4.put g _=H5 at h5 ⊢
    obtain ⟨B,ry,rb⟩:=h5.rx
    simp [zjw,ry]
    have h6:=h5.cells (k':=3) (nm':=nm) (B2:=.ro (t.1.map Sm.avs)) (B3:=.ro ((VM.manyF (VM.stmtF d) (VM.mustF 40 t.2)).1.map Sm.avs)) ry
    generalize H5.put (n+2) _=H6 at h6 ⊢
    generalize VM.manyF (VM.stmtF d) (VM.mustF 40 t.2)=e at *
    refine zeh (by decide) h6.rg ?_
    exact zvn (h6.state (VM.flow_must 41 e.2)) (.ro t.1) (.ro e.1) hq
  · rw [if_neg h3] at hq
    by_cases h4:k=4
    · rw [if_pos h4] at hq
      subst h4
      simp [zan,hi,hw]
      refine hS _ g H m _ h.short h.rg ?_
      have h1:=h.state ((VM.nice_many (VM.nice_stmt d)).flow st)
      generalize H.put g _=H1 at h1 ⊢
      obtain ⟨A,rx,ra⟩:=h1.rx
      have h2:=h1.cells (k':=4) (nm':=nm) (B2:=.ro ((VM.manyF (VM.stmtF d) st).1.map Sm.avs)) (B3:=.nils) rx
      have hb:=h1.gb
      obtain ⟨cs,rb,rbl⟩:=h2.rb
      have hrb:H1 n=some (.row 5 cs):=by rw [← rb,Heap.put_ne _ _ (by omega)]
      have ne_0:g ≠ n∧n ≠ g∧g ≠ n+2∧n+2 ≠ g∧n ≠ n+2∧n+2 ≠ n:=⟨by omega,by omega,by omega,by omega,by omega,by omega⟩
      simp [zjs,rx,hrb,rbl,ra.one,ne_0]
      exact h2.done (Heap.put_at _ _ _) (.ro _) .nils hq _ _
    · rw [if_neg h4] at hq
      simp [zan,hi,h3,h4]
      refine zeh (by decide) h.rg ?_
      exact zvn (h.state (VM.flow_must 41 st)) .nils .nils hq
end Go.Proofs.YtpllgpgdcbgalaaDoor
set_option maxRecDepth 8000
namespace Go.Proofs.YtpllgpgdcbgalaaDoor
open Go Go.RowKit
theorem SmE.next {H0 H HF:Heap} {n g m:Nat} {k:Int} {nm:Str} {ar:List Ex} {A2 A3:AV} {st st':VM.St} (h:SmE H0 n g k nm ar A2 A3 st H m) (x:Ex) (hle:st'.1.length≤st.1.length) (f1:HF g=some (PR st')) (f2:HF (n+2)=some (.row 5 [.int .i64 k,.str nm,.slc (m+1) 0 (ar.length+1),A2,A3])) (f3:HF (m+1)=some (.row 4 ((ar ++ [x]).map Ex.avs).flatten))
    (f4:∀ y,y < n+2→y ≠ g→HF y=H y):SmE H0 n g k nm (ar ++ [x]) A2 A3 st' HF (m+2):=by
  have hb:=h.gb
  have hbm:=h.bm
  have hsh:=h.short
  obtain ⟨cs,h6,h7⟩:=h.rb
  refine ⟨⟨cs,by rw [f4 _ (by omega) (by omega)]; exact h6,h7⟩,⟨_,f2,?_⟩,f1,hb,by omega,fun y hy hne=>by rw [f4 y (by omega) hne]; exact h.keep y hy hne,by omega⟩
  have:=RowS.row (f:=Ex.avs) (sz:=4) (H:=HF) (lo:=n+3) (hi:=m+2) (l:=ar ++ [x]) (ga:=m+1) (by omega) (by omega) f3
  rw [List.length_append] at this
  exact this
set_option maxHeartbeats 1000000 in
theorem zaco {d:Nat} (hd:d≤11) (hE:zgk d) (hS:zot d) {H0 H:Heap} {n g m:Nat} {k:Int} {nm:Str} {st:VM.St} {cnt:Nat} {Q:QT} (hc:cnt≤2) (h:SmE H0 n g k nm [] .nils .nils st H m)
    (hq:ExQ H0 n g (.agg (VM.tailF d k nm (VM.timesF (VM.exprF d) cnt st)).1.avs) (VM.tailF d k nm (VM.timesF (VM.exprF d) cnt st)).2 Q):LP (zan Q) [.ptr g 0,.int .i64 (10 - (d:Int)),.ptr n 0,.int .i64 k,.ptr (n+2) 0,.int .i64 cnt,.int .i64 0] H m:=by
  refine LP.mk (fun j xs H' n'=>∃ (i:Nat) (ar:List Ex) (s:VM.St),i+j=cnt∧ar.length=i∧xs=[.ptr g 0,.int .i64 (10 - (d:Int)),.ptr n 0,.int .i64 k,.ptr (n+2) 0,.int .i64 cnt,.int .i64 i]∧SmE H0 n g k nm ar .nils .nils s H' n'∧VM.timesF (VM.exprF d) cnt st=(ar ++ (VM.timesF (VM.exprF d) j s).1,(VM.timesF (VM.exprF d) j s).2)) cnt ⟨0,[],st,by omega,rfl,rfl,h,rfl⟩ ?_
  rintro j xs H' n' ⟨i,ar,s,hij,hal,rfl,h,hgo⟩
  generalize hJ:(fun (xs:List AV) (H:Heap) (nx:Nat)=>∃ j',j' < j∧∃ (i:Nat) (ar:List Ex) (s:VM.St),i+j'=cnt∧ar.length=i∧xs=[.ptr g 0,.int .i64 (10 - (d:Int)),.ptr n 0,.int .i64 k,.ptr (n+2) 0,.int .i64 cnt,.int .i64 i]∧SmE H0 n g k nm ar .nils .nils s H nx∧VM.timesF (VM.exprF d) cnt st=(ar ++ (VM.timesF (VM.exprF d) j' s).1,(VM.timesF (VM.exprF d) j' s).2))=J
  cases j with
  | zero =>
    rw [hgo] at hq
    simp only [VM.timesF,List.append_nil] at hq
    exact zxv hd hS h (by omega) hq
  | succ j =>
    have hlt:i < cnt:=by omega
    have hw:IntKind.i64.wrap (10 - (d:Int)+1)=10 - (d:Int)+1:=i64w (by omega)
    have hwi:IntKind.i64.wrap ((i:Int)+1)=(i:Int)+1:=i64w (by omega)
    have hle:=(VM.nice_expr d).le s
    have hb:=h.gb
    have hbm:=h.bm
    obtain ⟨A,rx,ra⟩:=h.rx
    have stepq:∀ HF,SmE H0 n g k nm (ar ++ [(VM.exprF d s).1]) .nils .nils (VM.exprF d s).2 HF (n'+2)→J [.ptr g 0,.int .i64 (10 - (d:Int)),.ptr n 0,.int .i64 k,.ptr (n+2) 0,.int .i64 cnt,.int .i64 ((i:Int)+1)] HF (n'+2):=by
      intro HF hF
      rw [← hJ]
      refine ⟨j,by omega,i+1,_,_,by omega,by rw [List.length_append,hal]; rfl,rfl,hF,?_⟩
      rw [hgo]
      simp only [VM.timesF,List.append_assoc,List.singleton_append]
    cases ra with
    | nil =>
      simp [zan,hlt,rx,hw]
      refine zm.expr hE (by omega) h.short h.rg ?_
      have xl:=zbs (VM.exprF d s).1
      have xo:=zfe (VM.exprF d s).1
      generalize hxa:(VM.exprF d s).1.avs=xa at xl xo
      have xd:xa.drop 4=[]:=List.drop_of_length_le (by omega)
      have ne_0:g ≠ n∧n ≠ g∧g ≠ n+2∧n+2 ≠ g∧n ≠ n+2∧n+2 ≠ n∧g ≠ n'∧n' ≠ g∧g ≠ n'+1∧n'+1 ≠ g∧n ≠ n'∧n' ≠ n∧n ≠ n'+1∧n'+1 ≠ n∧n+2 ≠ n'∧n' ≠ n+2∧n+2 ≠ n'+1∧n'+1 ≠ n+2:=⟨by omega,by omega,by omega,by omega,by omega,by omega,by omega,by omega,by omega,by omega,by omega,by omega,by omega,by omega,by omega,by omega,by omega,by omega⟩
      simp [zfr,rx,xl,xd,hxa,hwi,ne_0]
      rw [List.take_of_length_le (by omega)]
      refine ⟨xo,stepq _ (h.next _ hle ?_ ?_ ?_ fun y hy hne => ?_)⟩
      · rw [Heap.put_ne _ _ (by omega),Heap.put_ne _ _ (by omega),Heap.put_ne _ _ (by omega),Heap.put_at]
      · rw [Heap.put_at]; rfl
      · rw [Heap.put_ne _ _ (by omega),Heap.put_at,zbu,hxa]; rfl
      · rw [Heap.put_ne _ _ (by omega),Heap.put_ne _ _ (by omega),Heap.put_ne _ _ (by omega),Heap.put_ne _ _ hne]
    | @row ar ga a1 a2 a4 =>
      simp [zan,hlt,rx,hw]
      refine zm.expr hE (by omega) h.short h.rg ?_
      have xl:=zbs (VM.exprF d s).1
      have xo:=zfe (VM.exprF d s).1
      generalize hxa:(VM.exprF d s).1.avs=xa at xl xo
      have xd:xa.drop 4=[]:=List.drop_of_length_le (by omega)
      have rl:=zap zbs ar
      have h1:(ar.length+1)*56≤140737488355328:=by omega
      generalize hrr:(ar.map Ex.avs).flatten=rr at rl a4
      have h3:rr.take (ar.length*4)=rr:=List.take_of_length_le (by omega)
      have ne_1:g ≠ n∧n ≠ g∧g ≠ n+2∧n+2 ≠ g∧g ≠ ga∧ga ≠ g∧n ≠ n+2∧n+2 ≠ n∧n ≠ ga∧ga ≠ n∧n+2 ≠ ga∧ga ≠ n+2∧g ≠ n'∧n' ≠ g∧g ≠ n'+1∧n'+1 ≠ g∧n ≠ n'∧n' ≠ n∧n ≠ n'+1∧n'+1 ≠ n∧n+2 ≠ n'∧n' ≠ n+2∧n+2 ≠ n'+1∧n'+1 ≠ n+2∧ga ≠ n'∧n' ≠ ga∧ga ≠ n'+1∧n'+1 ≠ ga:=⟨by omega,by omega,by omega,by omega,by omega,by omega,by omega,by omega,by omega,by omega,by omega,by omega,by omega,by omega,by omega,by omega,by omega,by omega,by omega,by omega,by omega,by omega,by omega,by omega,by omega,by omega,by omega,by omega⟩
      simp [zfr,rx,a4,rl,h1,h3,xl,xd,hxa,hwi,ne_1]
      rw [List.take_of_length_le (l:=xa) (by omega)]
      refine ⟨xo,stepq _ (h.next _ hle ?_ ?_ ?_ fun y hy hne => ?_)⟩
      · rw [Heap.put_ne _ _ (by omega),Heap.put_ne _ _ (by omega),Heap.put_ne _ _ (by omega),Heap.put_ne _ _ (by omega),Heap.put_at]
      · rw [Heap.put_at]
      · rw [Heap.put_ne _ _ (by omega),Heap.put_at,zbu,hxa,hrr]
      · rw [Heap.put_ne _ _ (by omega),Heap.put_ne _ _ (by omega),Heap.put_ne _ _ (by omega),Heap.put_ne _ _ (by omega),Heap.put_ne _ _ hne]
theorem zwy (w:Str):0≤VM.stKind w∧VM.stKind w≤9:=by
  unfold VM.stKind
  repeat' split
  all_goals decide
theorem zady {k:Int} (h:0≤k∧k≤9):[AV.int .i64 0,AV.int .i64 1,AV.int .i64 1,AV.int .i64 1,AV.int .i64 1,AV.int .i64 1,AV.int .i64 1,AV.int .i64 2,AV.int .i64 2,AV.int .i64 1][k.toNat]? = some (.int .i64 (VM.argsOf k)):=by
  have:k=0∨k=1∨k=2∨k=3∨k=4∨k=5∨k=6∨k=7∨k=8∨k=9:=by omega
  rcases this with rfl | rfl | rfl | rfl | rfl | rfl | rfl | rfl | rfl | rfl <;> rfl
theorem zzm (k:Int):VM.argsOf k≤2:=by unfold VM.argsOf; split <;> (try split) <;> omega
theorem SmE.old {H0 H:Heap} {n g m m' x:Nat} {k:Int} {nm:Str} {ar:List Ex} {A2 A3:AV} {st:VM.St} {o:Option AObj} (h:SmE H0 n g k nm ar A2 A3 st H m) (hx:m≤x) (hm:m≤m'):SmE H0 n g k nm ar A2 A3 st (H.put x o) m':=by
  have hb:=h.gb
  have hbm:=h.bm
  obtain ⟨A,h4,h5⟩:=h.rx
  obtain ⟨cs,h6,h7⟩:=h.rb
  exact ⟨⟨cs,by rw [Heap.put_ne _ _ (by omega)]; exact h6,h7⟩,⟨A,by rw [Heap.put_ne _ _ (by omega)]; exact h4,h5.keep hm fun y hy _=>Heap.put_ne _ _ (by omega)⟩,by rw [Heap.put_ne _ _ (by omega)]; exact h.rg,hb,by omega,fun y hy hne=>by rw [Heap.put_ne _ _ (by omega)]; exact h.keep y hy hne,h.short⟩
theorem zvp {d:Nat} (hd:d≤11) (hE:zgk d) (hS:zot d) {H0 H:Heap} {n g m:Nat} {k:Int} (hk:0≤k∧k≤9) {nm:Str} {st:VM.St} {Q:QT} (h:SmE H0 n g k nm [] .nils .nils st H m)
    (hq:ExQ H0 n g (.agg (VM.tailF d k nm (VM.timesF (VM.exprF d) (VM.argsOf k) st)).1.avs) (VM.tailF d k nm (VM.timesF (VM.exprF d) (VM.argsOf k) st)).2 Q):zdb Q [.ptr g 0,.int .i64 (10 - (d:Int)),.ptr n 0,.int .i64 k,.ptr (n+2) 0] H m:=by
  obtain ⟨hxb,hx⟩:=List.getElem?_eq_some_iff.1 (zady hk)
  have h0:=hk.1
  have h10:k < 10:=by omega
  have h1:=h.old (x:=m) (m':=m+1) (o:=some (.row 1 [.int .i64 0,.int .i64 1,.int .i64 1,.int .i64 1,.int .i64 1,.int .i64 1,.int .i64 1,.int .i64 2,.int .i64 2,.int .i64 1])) (by omega) (by omega)
  simp [zdb,h0,h10,hx]
  exact zaco hd hE hS (zzm k) h1 hq
theorem zvo {d:Nat} (hd:d≤11) (hE:zgk d) (hS:zot d) {H0 H:Heap} {n g m:Nat} {k:Int} (hk:0≤k∧k≤9) {st:VM.St} {Q:QT} (h:SmE H0 n g k [] [] .nils .nils st H m)
    (hq:ExQ H0 n g (.agg (VM.tailF d k (VM.nmF k st).1 (VM.timesF (VM.exprF d) (VM.argsOf k) (VM.nmF k st).2)).1.avs) (VM.tailF d k (VM.nmF k st).1 (VM.timesF (VM.exprF d) (VM.argsOf k) (VM.nmF k st).2)).2 Q):zbv Q [.ptr g 0,.int .i64 (10 - (d:Int)),.ptr n 0,.int .i64 k,.ptr (n+2) 0] H m:=by
  simp [zbv]
  refine JN.same ?_
  have named:k=1∨k=2→za Tryd.prog 29 [.ptr g 0] H m (zcz [.ptr g 0,.int .i64 (10 - (d:Int)),.ptr n 0,.int .i64 k,.ptr (n+2) 0] (zdb Q)):=by
    intro hk2
    have e:VM.nmF k st=VM.nF st:=by unfold VM.nmF; rw [if_pos hk2]
    rw [e] at hq
    refine zws h.short h.rg ?_
    have h1:=h.state (VM.nice_n.flow st)
    generalize H.put g _=H1 at h1 ⊢
    obtain ⟨A,rx,ra⟩:=h1.rx
    have h2:=h1.cells (k':=k) (nm':=(VM.nF st).1) (B2:=.nils) (B3:=.nils) rx
    simp [zcz,rx]
    exact zvp hd hE hS hk h2 hq
  by_cases h1:k=1
  · simp [zdc,h1]
    have:=named (.inl h1)
    rw [h1] at this
    exact this
  · by_cases h2:k=2
    · simp [zdc,h2]
      have:=named (.inr h2)
      rw [h2] at this
      exact this
    · have e:VM.nmF k st=([],st):=by unfold VM.nmF; rw [if_neg (by omega)]
      rw [e] at hq
      simp [zdc,h1,h2]
      exact zvp hd hE hS hk h hq
theorem zzu (d:Nat) {st:VM.St} (h:st.2=0):VM.stmtF (d+1) st=VM.tailF d (VM.stKind (VM.wF (VM.mustF 40 st)).1) (VM.nmF (VM.stKind (VM.wF (VM.mustF 40 st)).1) (if VM.stKind (VM.wF (VM.mustF 40 st)).1=0 then VM.badF 1 (VM.wF (VM.mustF 40 st)).2 else (VM.wF (VM.mustF 40 st)).2)).1
    (VM.timesF (VM.exprF d) (VM.argsOf (VM.stKind (VM.wF (VM.mustF 40 st)).1)) (VM.nmF (VM.stKind (VM.wF (VM.mustF 40 st)).1) (if VM.stKind (VM.wF (VM.mustF 40 st)).1=0 then VM.badF 1 (VM.wF (VM.mustF 40 st)).2 else (VM.wF (VM.mustF 40 st)).2)).2):=by
  simp only [VM.stmtF,VM.tailF]
  rw [if_neg (by simpa using h)]
end Go.Proofs.YtpllgpgdcbgalaaDoor
set_option maxRecDepth 8000
namespace Go.Proofs.YtpllgpgdcbgalaaDoor
open Go Go.RowKit
theorem zvr {H:Heap} {n:Nat}:Frz H n (.agg [.int .i64 0,.str [],.nils,.nils,.nils]) (.agg VM.sm0.avs):=by
  unfold VM.sm0
  rw [zay]
  exact FL.agg (.cons (.same _ (.int _ _)) (.cons (.same _ (.str _)) (.cons .nils (.cons .nils (.cons .nils .nil)))))
set_option maxHeartbeats 1000000 in
theorem zacp:∀ d,d≤11→ztd d:=by
  intro d
  induction d with
  | zero =>
    intro _ st g H n Q hs hg hq
    refine za.parser (st':=(VM.stmtF 0 st).2) hg (fun hgn => ?_) hq
    suffices main:∀ Q:QT,ExQ H n g (.agg (VM.stmtF 0 st).1.avs) (VM.stmtF 0 st).2 Q→za Tryd.prog 51 [.ptr g 0,.int .i64 (11 - ((0:Nat):Int))] H n Q from main _ fun v H' n' a b c=>⟨a,b,c⟩
    intro Q hq
    refine zgm _ _ _ _ _ ?_
    simp [zfq]
    have hg0:(H.put n (some (.row 5 [.int .i64 0,.str [],.nils,.nils,.nils]))) g=some (PR st):=by rw [Heap.put_ne _ _ (by omega)]; exact hg
    have hn0:(H.put n (some (.row 5 [.int .i64 0,.str [],.nils,.nils,.nils]))) n=some (.row 5 [.int .i64 0,.str [],.nils,.nils,.nils]):=Heap.put_at _ _ _
    have hk0:∀ y,y < n→y ≠ g→(H.put n (some (.row 5 [.int .i64 0,.str [],.nils,.nils,.nils]))) y=H y:=fun y hy _=>Heap.put_ne _ _ (by omega)
    generalize H.put n _=H1 at hg0 hn0 hk0 ⊢
    refine zpd hg0 ?_
    rw [if_neg (by omega)]
    have ne_0:g ≠ n∧n ≠ g:=⟨by omega,by omega⟩
    simp [zco,hn0,ne_0]
    exact hq _ _ _ zvr (by rw [Heap.put_ne _ _ (by omega),Heap.put_at]; rfl) fun y hy hne=>by rw [Heap.put_ne _ _ (by omega),Heap.put_ne _ _ hne]; exact hk0 y hy hne
  | succ d ih =>
    intro hd st g H n Q hs hg hq
    have hE:=zadp d (by omega)
    have hS:=ztg (ih (by omega))
    refine za.parser (st':=(VM.stmtF (d+1) st).2) hg (fun hgn => ?_) hq
    suffices main:∀ Q:QT,ExQ H n g (.agg (VM.stmtF (d+1) st).1.avs) (VM.stmtF (d+1) st).2 Q→za Tryd.prog 51 [.ptr g 0,.int .i64 (11 - ((d+1:Nat):Int))] H n Q from main _ fun v H' n' a b c=>⟨a,b,c⟩
    intro Q hq
    have hz:(11:Int) - ((d+1:Nat):Int)=10 - (d:Int):=by omega
    rw [hz]
    refine zgm _ _ _ _ _ ?_
    simp [zfq]
    have hg0:(H.put n (some (.row 5 [.int .i64 0,.str [],.nils,.nils,.nils]))) g=some (PR st):=by rw [Heap.put_ne _ _ (by omega)]; exact hg
    have hn0:(H.put n (some (.row 5 [.int .i64 0,.str [],.nils,.nils,.nils]))) n=some (.row 5 [.int .i64 0,.str [],.nils,.nils,.nils]):=Heap.put_at _ _ _
    have hk0:∀ y,y < n→y ≠ g→(H.put n (some (.row 5 [.int .i64 0,.str [],.nils,.nils,.nils]))) y=H y:=fun y hy _=>Heap.put_ne _ _ (by omega)
    generalize H.put n _=H1 at hg0 hn0 hk0 ⊢
    refine zpd hg0 ?_
    have hd10:(10:Int) - (d:Int)≤10:=by omega
    have hd11:¬ (10:Int) < 10 - (d:Int):=by omega
    rw [if_pos hd10,Heap.put_same hg0]
    by_cases he:st.2=0
    · rw [zzu d he] at hq
      simp [zco,he,hd10,hd11]
      refine zeh (by decide) hg0 ?_
      have f1:=VM.flow_must 40 st
      generalize VM.mustF 40 st=s1 at f1 hq ⊢
      have hg1:(H1.put g (some (PR s1))) g=some (PR s1):=Heap.put_at _ _ _
      have hn1:(H1.put g (some (PR s1))) n=some (.row 5 [.int .i64 0,.str [],.nils,.nils,.nils]):=by rw [Heap.put_ne _ _ (by omega)]; exact hn0
      have hk1:∀ y,y < n→y ≠ g→(H1.put g (some (PR s1))) y=H y:=fun y hy hne=>by rw [Heap.put_ne _ _ hne]; exact hk0 y hy hne
      generalize H1.put g (some (PR s1))=H2 at hg1 hn1 hk1 ⊢
      simp [zir]
      have hs1:s1.1.length≤1500:=Nat.le_trans f1.1 hs
      refine w_ac (by omega) hg1 ?_
      have f2:=VM.flow_w s1
      generalize VM.wF s1=ws at f2 hq ⊢
      obtain ⟨w,s2⟩:=ws
      simp only at f2 hq ⊢
      have hg2:(H2.put g (some (PR s2))) g=some (PR s2):=Heap.put_at _ _ _
      have hn2:(H2.put g (some (PR s2))) n=some (.row 5 [.int .i64 0,.str [],.nils,.nils,.nils]):=by rw [Heap.put_ne _ _ (by omega)]; exact hn1
      have hk2:∀ y,y < n→y ≠ g→(H2.put g (some (PR s2))) y=H y:=fun y hy hne=>by rw [Heap.put_ne _ _ hne]; exact hk1 y hy hne
      generalize H2.put g (some (PR s2))=H3 at hg2 hn2 hk2 ⊢
      refine zzt fun H4 hx hy => ?_
      have kr:=zwy w
      have h0:SmE H n g (VM.stKind w) [] [] .nils .nils s2 H4 (n+3) :=
        ⟨⟨_,by rw [hy n (by omega) (by omega)]; exact hn2,rfl⟩,⟨.nils,hx,.nil⟩,by rw [hy g (by omega) (by omega)]; exact hg2,hgn,by omega,fun y hy1 hne=>by rw [hy y (by omega) (by omega)]; exact hk2 y hy1 hne,Nat.le_trans f2.1 hs1⟩
      generalize VM.stKind w=k at *
      refine JN.same ?_
      by_cases hk:k=0
      · rw [if_pos hk] at hq
        subst hk
        simp [zbw]
        refine zdl h0.rg ?_
        have h1:=h0.state (VM.flow_bad 1 s2)
        generalize H4.put g _=H5 at h1 ⊢
        simp [zjr]
        exact zvo (by omega) hE hS kr h1 hq
      · rw [if_neg hk] at hq
        simp [zbw,hk]
        exact zvo (by omega) hE hS kr h0 hq
    · have e:VM.stmtF (d+1) st=(VM.sm0,st):=by simp only [VM.stmtF]; rw [if_pos he]
      rw [e] at hq
      simp [zco,he,hn0]
      exact hq _ _ _ zvr (by rw [Heap.put_ne _ _ (by omega)]; exact hg0) fun y hy hne=>by rw [Heap.put_ne _ _ (by omega)]; exact hk0 y hy hne
end Go.Proofs.YtpllgpgdcbgalaaDoor
set_option maxRecDepth 8000
namespace Go.Proofs.YtpllgpgdcbgalaaDoor
open Go Go.RowKit
def strC (w:Str):List AV:=[.str w]
theorem zm.n {st:VM.St} {g n:Nat} {H:Heap} {kt:Kt} (hs:st.1.length≤1500) (hg:H g=some (PR st)) (hk:kt (.str (VM.nF st).1) [g] [] [(g,some (PR (VM.nF st).2))]):zm Tryd.prog (.clo 29 []) [.ptr g 0] H n kt :=
  ⟨_,[g],[],_,.inl rfl,LC.parser hg (fun _=>.str _) fun H n Q h1 h2=>zws hs h1 h2,hk⟩
structure PmL (H1:Heap) (n f0:Nat) (nm:Str) (ps:List Str) (st:VM.St) (H:Heap) (m:Nat):Prop where
  rf:∃ A,H f0=some (.row 3 [.str nm,A,.nils])∧RowS strC 1 H (f0+1) m ps A
  rg:H n=some (PR st)
  r1:H (n+1)=some (.row 1 [.ptr n 0])
  nf:n+2≤f0
  fm:f0 < m
  keep:∀ y,y < f0→y ≠ n→H y=H1 y
  few:ps.length+VM.left st≤1502
  short:st.1.length≤1500
theorem PmL.put {H1 H:Heap} {n f0 m:Nat} {nm:Str} {ps:List Str} {st st':VM.St} (h:PmL H1 n f0 nm ps st H m) (hf:VM.Flow st st'):PmL H1 n f0 nm ps st' (H.put n (some (PR st'))) m:=by
  have hb:=h.nf
  obtain ⟨A,h4,h5⟩:=h.rf
  exact ⟨⟨A,by rw [Heap.put_ne _ _ (by omega)]; exact h4,h5.keep (Nat.le_refl _) fun y hy _=>Heap.put_ne _ _ (by omega)⟩,Heap.put_at _ _ _,by rw [Heap.put_ne _ _ (by omega)]; exact h.r1,hb,h.fm,fun y hy hne=>by rw [Heap.put_ne _ _ hne]; exact h.keep y hy hne,by have:=hf.left; have:=h.few; omega,Nat.le_trans hf.1 h.short⟩
theorem PmL.next {H1 H HF:Heap} {n f0 m:Nat} {nm:Str} {ps:List Str} {st st':VM.St} (h:PmL H1 n f0 nm ps st H m) (x:Str) (hl:VM.left st' < VM.left st) (hle:st'.1.length≤st.1.length) (f1:HF n=some (PR st')) (f2:HF f0=some (.row 3 [.str nm,.slc (m+1) 0 (ps.length+1),.nils])) (f3:HF (m+1)=some (.row 1 ((ps ++ [x]).map strC).flatten))
    (f4:∀ y,y < f0→y ≠ n→HF y=H y):PmL H1 n f0 nm (ps ++ [x]) st' HF (m+2):=by
  have hb:=h.nf
  have hx0:=h.fm
  have hfew:=h.few
  have hsh:=h.short
  refine ⟨⟨_,f2,?_⟩,f1,by rw [f4 _ (by omega) (by omega)]; exact h.r1,hb,by omega,fun y hy hne=>by rw [f4 y hy hne]; exact h.keep y hy hne,by rw [List.length_append]; simp only [List.length_cons,List.length_nil]; omega,by omega⟩
  have:=RowS.row (f:=strC) (sz:=1) (H:=HF) (lo:=f0+1) (hi:=m+2) (l:=ps ++ [x]) (ga:=m+1) (by omega) (by omega) f3
  rw [List.length_append] at this
  exact this
set_option maxHeartbeats 1000000 in
theorem zyj {H1 H:Heap} {n f0 m:Nat} {nm:Str} {ps:List Str} {st:VM.St} {K:QT} (h:PmL H1 n f0 nm ps st H m) (he:st.2=0)
    (hk:∀ H' n',PmL H1 n f0 nm (ps ++ [(VM.nF st).1]) (VM.nF st).2 H' n'→K (.tup []) H' n'):za Tryd.prog 31 [.ptr f0 0,.ptr (n+1) 0] H m K:=by
  refine zml _ _ _ _ _ ?_
  have hb:=h.nf
  have hbn:=h.fm
  obtain ⟨A,rf,ra⟩:=h.rf
  have r1:=h.r1
  have hfew:=h.few
  have hleft:=VM.left_lt' VM.nice_n he
  have hle:=VM.nice_n.le st
  have hsh:=h.short
  have hsl:∀ x,(strC x).length=1:=fun _=>rfl
  cases ra with
  | nil =>
    simp [zel,rf,r1]
    refine zm.n h.short h.rg ?_
    have ne_0:n ≠ n+1∧n+1 ≠ n∧n ≠ f0∧f0 ≠ n∧n+1 ≠ f0∧f0 ≠ n+1∧n ≠ m∧m ≠ n∧n ≠ m+1∧m+1 ≠ n∧n+1 ≠ m∧m ≠ n+1∧n+1 ≠ m+1∧m+1 ≠ n+1∧f0 ≠ m∧m ≠ f0∧f0 ≠ m+1∧m+1 ≠ f0:=⟨by omega,by omega,by omega,by omega,by omega,by omega,by omega,by omega,by omega,by omega,by omega,by omega,by omega,by omega,by omega,by omega,by omega,by omega⟩
    simp [zem,rf,ne_0]
    refine hk _ _ (h.next _ (by omega) hle ?_ ?_ ?_ fun y hy hne => ?_)
    · rw [Heap.put_ne _ _ (by omega),Heap.put_ne _ _ (by omega),Heap.put_ne _ _ (by omega),Heap.put_at]
    · rw [Heap.put_at]; rfl
    · rw [Heap.put_ne _ _ (by omega),Heap.put_at]; rfl
    · rw [Heap.put_ne _ _ (by omega),Heap.put_ne _ _ (by omega),Heap.put_ne _ _ (by omega),Heap.put_ne _ _ hne]
  | @row ps ga a1 a2 a4 =>
    simp [zel,rf,r1]
    refine zm.n h.short h.rg ?_
    have rl:=zap hsl ps
    have h1:(ps.length+1)*16≤140737488355328:=by omega
    generalize hrr:(ps.map strC).flatten=rr at rl a4
    have h3:rr.take ps.length=rr:=List.take_of_length_le (by omega)
    have ne_1:n ≠ n+1∧n+1 ≠ n∧n ≠ f0∧f0 ≠ n∧n ≠ ga∧ga ≠ n∧n+1 ≠ f0∧f0 ≠ n+1∧n+1 ≠ ga∧ga ≠ n+1∧f0 ≠ ga∧ga ≠ f0∧n ≠ m∧m ≠ n∧n ≠ m+1∧m+1 ≠ n∧n+1 ≠ m∧m ≠ n+1∧n+1 ≠ m+1∧m+1 ≠ n+1∧f0 ≠ m∧m ≠ f0∧f0 ≠ m+1∧m+1 ≠ f0∧ga ≠ m∧m ≠ ga∧ga ≠ m+1∧m+1 ≠ ga:=⟨by omega,by omega,by omega,by omega,by omega,by omega,by omega,by omega,by omega,by omega,by omega,by omega,by omega,by omega,by omega,by omega,by omega,by omega,by omega,by omega,by omega,by omega,by omega,by omega,by omega,by omega,by omega,by omega⟩
    simp [zem,rf,a4,rl,h1,h3,ne_1]
    refine hk _ _ (h.next _ (by omega) hle ?_ ?_ ?_ fun y hy hne => ?_)
    · rw [Heap.put_ne _ _ (by omega),Heap.put_ne _ _ (by omega),Heap.put_ne _ _ (by omega),Heap.put_ne _ _ (by omega),Heap.put_at]
    · rw [Heap.put_at]
    · rw [Heap.put_ne _ _ (by omega),Heap.put_at,zbu,hrr]; rfl
    · rw [Heap.put_ne _ _ (by omega),Heap.put_ne _ _ (by omega),Heap.put_ne _ _ (by omega),Heap.put_ne _ _ (by omega),Heap.put_ne _ _ hne]
end Go.Proofs.YtpllgpgdcbgalaaDoor
set_option maxRecDepth 8000
namespace Go.Proofs.YtpllgpgdcbgalaaDoor
open Go Go.RowKit
inductive PsS (H:Heap) (lo hi gx:Nat):List Str→AV→Prop
  | nil:PsS H lo hi gx [] .nils
  | row {l:List Str} {ga:Nat}:lo≤ga→ga < hi→ga ≠ gx→H ga=some (.row 1 (l.map strC).flatten)→PsS H lo hi gx l (.slc ga 0 l.length)
def rawF (p:Fnc×AV):List AV:=[.str p.1.name,p.2,.ro (p.1.body.map Sm.avs)]
inductive OutS (H:Heap) (lo hi:Nat):List (Fnc×AV)→AV→Prop
  | nil:OutS H lo hi [] .nils
  | row {l:List (Fnc×AV)} {ga:Nat}:lo≤ga→ga < hi→H ga=some (.row 3 (l.map rawF).flatten)→(∀ p∈l,PsS H lo hi ga p.1.params p.2)→OutS H lo hi l (.slc ga 0 l.length)
theorem PsS.keep {H H':Heap} {lo hi hi' gx gy:Nat} {l:List Str} {A:AV} (h:PsS H lo hi gx l A) (hh:hi≤hi') (hy:gy=gx∨hi≤gy) (hk:∀ y,lo≤y→y < hi→y ≠ gx→H' y=H y):PsS H' lo hi' gy l A:=by
  cases h with
  | nil=>exact .nil
  | row h1 h2 h3 h4=>exact .row h1 (by omega) (by omega) (by rw [hk _ h1 h2 h3]; exact h4)
theorem OutS.keep {H H':Heap} {lo hi hi':Nat} {l:List (Fnc×AV)} {A:AV} (h:OutS H lo hi l A) (hh:hi≤hi') (hk:∀ y,lo≤y→y < hi→H' y=H y):OutS H' lo hi' l A:=by
  cases h with
  | nil=>exact .nil
  | row h1 h2 h4 h5=>exact .row h1 (by omega) (by rw [hk _ h1 h2]; exact h4) fun p hp=>(h5 p hp).keep hh (.inl rfl) fun y h1 h2 _=>hk y h1 h2
theorem zjn (f:Fnc):f.avs.length=3:=rfl
theorem zaag (p:Fnc×AV):(rawF p).length=3:=rfl
theorem zadv (A:Nat→Prop) (f:Fnc):∀ v∈f.avs,Bel A v:=by
  intro v hv
  simp only [Fnc.avs,List.mem_cons,List.not_mem_nil,or_false] at hv
  rcases hv with rfl | rfl | rfl
  · exact .str _
  · exact zcv fun x hx v hv=>by
      obtain ⟨y,_,rfl⟩:=List.mem_map.1 hx
      rw [List.mem_singleton.1 hv]; exact .str _
  · exact zcv fun x hx v hv=>by obtain ⟨y,_,rfl⟩:=List.mem_map.1 hx; exact zmj A y v hv
theorem PsS.frz {H:Heap} {lo hi gx N:Nat} {l:List Str} {A:AV} (h:PsS H lo hi gx l A) (hN:N≤lo):Frz H N A (.ro (l.map strC)):=by
  cases h with
  | nil=>exact .nils
  | @row l ga h1 h2 h3 h4 =>
    refine Frz.rowW (cells:=(l.map strC).flatten) (sz:=1) (by omega) h4 (by simp) (fun x hx => ?_) (FL.same fun c hc => ?_)
    · obtain ⟨y,_,rfl⟩:=List.mem_map.1 hx; rfl
    · obtain ⟨x,hx,hc⟩:=List.mem_flatten.1 hc
      obtain ⟨y,_,rfl⟩:=List.mem_map.1 hx
      rw [List.mem_singleton.1 hc]; exact .str _
theorem zvt {H:Heap} {lo hi ga N:Nat} (hN:N≤lo):∀ {l:List (Fnc×AV)},(∀ p∈l,PsS H lo hi ga p.1.params p.2)→FL H N (l.map rawF).flatten (l.map fun p=>p.1.avs).flatten
  | [],_=>.nil
  | p :: r,h=>by
    rw [List.map_cons,List.flatten_cons,List.map_cons,List.flatten_cons]
    refine FL.append ?_ (zvt hN fun q hq=>h q (by simp [hq]))
    refine .cons (.same _ (.str _)) (.cons ((h p (by simp)).frz hN) (.cons (.same _ (zcv fun x hx v hv => ?_)) .nil))
    obtain ⟨y,_,rfl⟩:=List.mem_map.1 hx
    exact zmj _ y v hv
theorem OutS.frz {H:Heap} {lo hi N:Nat} {l:List (Fnc×AV)} {A:AV} (h:OutS H lo hi l A) (hN:N≤lo):Frz H N A (.ro (l.map fun p=>p.1.avs)):=by
  cases h with
  | nil=>exact .nils
  | @row l ga h1 h2 h4 h5 =>
    refine Frz.rowW (cells:=(l.map rawF).flatten) (sz:=3) (by omega) h4 (by simp) (fun x hx => ?_) (zvt hN h5)
    obtain ⟨y,_,rfl⟩:=List.mem_map.1 hx; rfl
structure PaL (H0:Heap) (n:Nat) (l:List (Fnc×AV)) (A:AV) (st:VM.St) (H:Heap) (m:Nat):Prop where
  rg:H n=some (PR st)
  r1:H (n+1)=some (.row 1 [.ptr n 0])
  out:OutS H (n+2) m l A
  bm:n+2≤m
  keep:∀ y,y < n→H y=H0 y
  few:l.length+VM.left st≤1502
  short:st.1.length≤1500
theorem PaL.put {H0 H:Heap} {n m:Nat} {l:List (Fnc×AV)} {A:AV} {st st':VM.St} (h:PaL H0 n l A st H m) (hf:VM.Flow st st'):PaL H0 n l A st' (H.put n (some (PR st'))) m:=by
  have hb:=h.bm
  exact ⟨Heap.put_at _ _ _,by rw [Heap.put_ne _ _ (by omega)]; exact h.r1,h.out.keep (Nat.le_refl _) fun y hy _=>Heap.put_ne _ _ (by omega),hb,fun y hy=>by rw [Heap.put_ne _ _ (by omega)]; exact h.keep y hy,by have:=hf.left; have:=h.few; omega,Nat.le_trans hf.1 h.short⟩
theorem RowS.ps {H H':Heap} {lo lo' hi hi' gx:Nat} {l:List Str} {A:AV} (h:RowS strC 1 H lo hi l A) (hl:lo'≤lo) (hh:hi≤hi') (hg:hi≤gx) (hk:∀ y,lo≤y→y < hi→H' y=H y):PsS H' lo' hi' gx l A:=by
  cases h with
  | nil=>exact .nil
  | row h1 h2 h3=>exact .row (by omega) (by omega) (by omega) (by rw [hk _ h1 h2]; exact h3)
set_option maxHeartbeats 2000000 in
theorem zwn {H0 H:Heap} {n m:Nat} {l:List (Fnc×AV)} {A:AV} {st:VM.St} {K:J3} (h:PaL H0 n l A st H m) (he:st.2=0)
    (hk:∀ B H' m',PaL H0 n (l ++ [((VM.fnF st).1,B)]) (.slc m' 0 (l.length+1)) (VM.fnF st).2 H' (m'+1)→K [.ptr (n+1) 0,.slc m' 0 (l.length+1)] H' (m'+1)):za Tryd.prog 28 [.ptr n 0,.int .u8 40] H m (zgd [.ptr (n+1) 0,A] K):=by
  have hb:=h.bm
  refine zeh (by decide) h.rg ?_
  have h1:=h.put (VM.flow_must 40 st)
  have hfn:VM.fnF st=(⟨(VM.nF (VM.mustF 40 st)).1,(VM.manyF VM.nF (VM.mustF 40 (VM.nF (VM.mustF 40 st)).2)).1,(VM.manyF (VM.stmtF 11) (VM.manyF VM.nF (VM.mustF 40 (VM.nF (VM.mustF 40 st)).2)).2).1⟩,(VM.manyF (VM.stmtF 11) (VM.manyF VM.nF (VM.mustF 40 (VM.nF (VM.mustF 40 st)).2)).2).2):=rfl
  have hleft:=VM.left_lt' VM.nice_fn he
  have hfle:=VM.nice_fn.le st
  rw [hfn] at hk hleft hfle
  generalize H.put n _=H1 at h1 ⊢
  generalize VM.mustF 40 st=s1 at *
  simp [zgd,h1.r1]
  refine zws h1.short h1.rg ?_
  have h2:=h1.put (VM.nice_n.flow s1)
  generalize H1.put n _=H2 at h2 ⊢
  generalize VM.nF s1=nm at *
  have ne_0:n ≠ n+1∧n+1 ≠ n∧n ≠ m∧m ≠ n∧n ≠ m+1∧m+1 ≠ n∧n+1 ≠ m∧m ≠ n+1∧n+1 ≠ m+1∧m+1 ≠ n+1:=⟨by omega,by omega,by omega,by omega,by omega,by omega,by omega,by omega,by omega,by omega⟩
  simp [zko,h2.r1,ne_0]
  have p0:PmL H2 n m nm.1 [] nm.2 (H2.put m (some (.row 3 [.str nm.1,.nils,.nils]))) (m+1) :=
    ⟨⟨_,Heap.put_at _ _ _,.nil⟩,by rw [Heap.put_ne _ _ (by omega)]; exact h2.rg,by rw [Heap.put_ne _ _ (by omega)]; exact h2.r1,hb,by omega,fun y hy _=>Heap.put_ne _ _ (by omega),by have:=VM.left_le nm.2; have:=h2.short; simp only [List.length_nil]; omega,h2.short⟩
  generalize H2.put m _=H3 at p0 ⊢
  refine zeh (by decide) p0.rg ?_
  have p1:=p0.put (VM.flow_must 40 nm.2)
  generalize H3.put n _=H4 at p1 ⊢
  simp [zkp,p1.r1]
  refine zqc VM.nice_n (fun ps s H' n'=>PmL H2 n m nm.1 ps s H' n') (fun _ _ _ _ h=>h.rg) (fun _ _ _ _ _ h hf=>h.put hf) (fun l s H' n' K h he hk=>zyj h he hk) p1 fun H5 m5 p2 => ?_
  generalize VM.manyF VM.nF (VM.mustF 40 nm.2)=ps at *
  simp [zkq,p2.r1]
  refine ztg (zacp 11 (by omega)) ps.2 n H5 m5 _ p2.short p2.rg ?_
  have p3:=p2.put ((VM.nice_many (VM.nice_stmt 11)).flow ps.2)
  generalize H5.put n _=H6 at p3 ⊢
  generalize VM.manyF (VM.stmtF 11) ps.2=b at *
  obtain ⟨B,rf,rb⟩:=p3.rf
  have hfm:=p3.fm
  have hB1:=rb.one
  have out:=h2.out
  have hfew:=h.few
  cases out with
  | nil =>
    have ne_1:n ≠ n+1∧n+1 ≠ n∧n ≠ m∧m ≠ n∧n+1 ≠ m∧m ≠ n+1∧n ≠ m5∧m5 ≠ n∧n ≠ m5+1∧m5+1 ≠ n∧n+1 ≠ m5∧m5 ≠ n+1∧n+1 ≠ m5+1∧m5+1 ≠ n+1∧m ≠ m5∧m5 ≠ m∧m ≠ m5+1∧m5+1 ≠ m:=⟨by omega,by omega,by omega,by omega,by omega,by omega,by omega,by omega,by omega,by omega,by omega,by omega,by omega,by omega,by omega,by omega,by omega,by omega⟩
    simp [zge,rf,hB1,ne_1]
    refine hk B _ (m5+1) ⟨?_,?_,?_,by omega,fun y hy => ?_,?_,?_⟩
    · rw [Heap.put_ne _ _ (by omega),Heap.put_ne _ _ (by omega),Heap.put_ne _ _ (by omega)]; exact p3.rg
    · rw [Heap.put_ne _ _ (by omega),Heap.put_ne _ _ (by omega),Heap.put_ne _ _ (by omega)]; exact p3.r1
    · refine OutS.row (l:=[(_,B)]) (by omega) (by omega) (Heap.put_at _ _ _) fun p hp => ?_
      rw [List.mem_singleton.1 hp]
      exact rb.ps (by omega) (by omega) (by omega) fun y h1 h2=>by rw [Heap.put_ne _ _ (by omega),Heap.put_ne _ _ (by omega),Heap.put_ne _ _ (by omega)]
    · rw [Heap.put_ne _ _ (by omega),Heap.put_ne _ _ (by omega),Heap.put_ne _ _ (by omega),p3.keep y (by omega) (by omega)]; exact h2.keep y hy
    · have:=h.few; simp only [List.length_append,List.length_cons,List.length_nil] at *; omega
    · have:=h.short; simp only at hfle ⊢; omega
  | @row l ga a1 a2 a4 a5 =>
    have hg6:H6 ga=some (.row 3 (l.map rawF).flatten):=by rw [p3.keep ga a2 (by omega)]; exact a4
    have rl:=zap zaag l
    have h1:(l.length+1)*64≤140737488355328:=by omega
    generalize hrr:(l.map rawF).flatten=rr at rl hg6
    have h3:rr.take (l.length*3)=rr:=List.take_of_length_le (by omega)
    have ne_2:n ≠ n+1∧n+1 ≠ n∧n ≠ m∧m ≠ n∧n ≠ ga∧ga ≠ n∧n+1 ≠ m∧m ≠ n+1∧n+1 ≠ ga∧ga ≠ n+1∧m ≠ ga∧ga ≠ m∧n ≠ m5∧m5 ≠ n∧n ≠ m5+1∧m5+1 ≠ n∧n+1 ≠ m5∧m5 ≠ n+1∧n+1 ≠ m5+1∧m5+1 ≠ n+1∧m ≠ m5∧m5 ≠ m∧m ≠ m5+1∧m5+1 ≠ m∧ga ≠ m5∧m5 ≠ ga∧ga ≠ m5+1∧m5+1 ≠ ga:=⟨by omega,by omega,by omega,by omega,by omega,by omega,by omega,by omega,by omega,by omega,by omega,by omega,by omega,by omega,by omega,by omega,by omega,by omega,by omega,by omega,by omega,by omega,by omega,by omega,by omega,by omega,by omega,by omega⟩
    simp [zge,rf,hB1,hg6,rl,h1,h3,ne_2]
    refine hk B _ (m5+1) ⟨?_,?_,?_,by omega,fun y hy => ?_,?_,?_⟩
    · rw [Heap.put_ne _ _ (by omega),Heap.put_ne _ _ (by omega),Heap.put_ne _ _ (by omega),Heap.put_ne _ _ (by omega)]; exact p3.rg
    · rw [Heap.put_ne _ _ (by omega),Heap.put_ne _ _ (by omega),Heap.put_ne _ _ (by omega),Heap.put_ne _ _ (by omega)]; exact p3.r1
    · have := OutS.row (H:=(((H6.put m (some (.row 3 [.str nm.1,B,.ro (b.1.map Sm.avs)]))).put m5 (some (.row 3 [.str nm.1,B,.ro (b.1.map Sm.avs)]))).put ga none).put (m5+1) (some (.row 3 (rr ++ [.str nm.1,B,.ro (b.1.map Sm.avs)])))) (lo:=n+2) (hi:=m5+1+1) (l:=l ++ [((⟨nm.1,ps.1,b.1⟩:Fnc),B)]) (ga:=m5+1) (by omega) (by omega) (by rw [Heap.put_at,zbu,hrr]; rfl) fun p hp => ?_
      · rw [List.length_append] at this
        exact this
      · rcases List.mem_append.1 hp with hp | hp
        · exact (a5 p hp).keep (by omega) (.inr (by omega)) fun y h1 h2 h3=>by rw [Heap.put_ne _ _ (by omega),Heap.put_ne _ _ h3,Heap.put_ne _ _ (by omega),Heap.put_ne _ _ (by omega),p3.keep y h2 (by omega)]
        · rw [List.mem_singleton.1 hp]
          exact rb.ps (by omega) (by omega) (by omega) fun y h1 h2=>by rw [Heap.put_ne _ _ (by omega),Heap.put_ne _ _ (by omega),Heap.put_ne _ _ (by omega),Heap.put_ne _ _ (by omega)]
    · rw [Heap.put_ne _ _ (by omega),Heap.put_ne _ _ (by omega),Heap.put_ne _ _ (by omega),Heap.put_ne _ _ (by omega),p3.keep y (by omega) (by omega)]; exact h2.keep y hy
    · have:=h.few; simp only [List.length_append,List.length_cons,List.length_nil] at *; omega
    · have:=h.short; simp only at hfle ⊢; omega
end Go.Proofs.YtpllgpgdcbgalaaDoor
set_option maxRecDepth 8000
namespace Go.Proofs.YtpllgpgdcbgalaaDoor
open Go Go.RowKit
set_option maxHeartbeats 2000000 in
theorem zaai (s:Str):QC Tryd.prog 10 [.str s] (.tup [.ro ((VM.parseF s).1.map Fnc.avs),.int .i64 (VM.parseF s).2]):=by
  refine QC.of' fun H n => ?_
  suffices main:∀ Q:QT,(∀ v H' n',Frz H' n v (.tup [.ro ((VM.parseF s).1.map Fnc.avs),.int .i64 (VM.parseF s).2])→Keep n H' H→Q v H' n')→za Tryd.prog 10 [.str s] H n Q from main _ fun v H' n' a b=>⟨a,b⟩
  intro Q hq
  refine znv _ _ _ _ ?_
  have none_:∀ (e:Int),VM.parseF s=([],e)→∀ H' n',Keep n H' H→Q (.tup [.nils,.int .i64 e]) H' n':=by
    intro e he H' n' hK
    rw [he] at hq
    exact hq _ _ _ (.tup2 .nils (.same _ (.int _ _))) hK
  by_cases hs:1500 < s.length
  · have hs':(1500:Int) < s.length:=by omega
    have e:VM.parseF s=([],4):=by unfold VM.parseF; rw [if_pos hs]
    simp [zga,hs']
    exact none_ 4 e H n (by simp)
  · have hs':¬ (1500:Int) < s.length:=by omega
    have hpf:VM.parseF s=if (VM.fnsF (s.length+2) (s,0)).2.2 ≠ 0 then ([],(VM.fnsF (s.length+2) (s,0)).2.2) else ((VM.fnsF (s.length+2) (s,0)).1,0):=by unfold VM.parseF; rw [if_neg hs]
    have ne_0:n ≠ n+1∧n+1 ≠ n:=⟨by omega,by omega⟩
    simp [zga,hs',ne_0]
    have h0:PaL H n [] .nils (s,0) ((H.put n (some (.row 2 [.str s,.int .i64 0]))).put (n+1) (some (.row 1 [.ptr n 0]))) (n+2) :=
      ⟨by rw [Heap.put_ne _ _ (by omega),Heap.put_at]; rfl,Heap.put_at _ _ _,.nil,by omega,fun y hy=>by rw [Heap.put_ne _ _ (by omega),Heap.put_ne _ _ (by omega)],by have:=VM.left_le (s,0); simp only [List.length_nil] at *; omega,by simp only; omega⟩
    generalize Heap.put (Heap.put H n _) (n+1) _=H1 at h0 ⊢
    refine LP.mk (fun k xs H' n'=>∃ l A st,xs=[.ptr (n+1) 0,A]∧PaL H n l A st H' n'∧VM.left st < k∧VM.fnsF (s.length+2) (s,0)=(l.map (·.1) ++ (VM.fnsF k st).1,(VM.fnsF k st).2)) (s.length+2) ⟨[],_,_,rfl,h0,VM.left_le (s,0),rfl⟩ ?_
    rintro k xs H' n' ⟨l,A,st,rfl,h,hle,hgo⟩
    generalize hJ:(fun (xs:List AV) (H':Heap) (n':Nat)=>∃ j,j < k∧∃ l A st,xs=[.ptr (n+1) 0,A]∧PaL H n l A st H' n'∧VM.left st < j∧VM.fnsF (s.length+2) (s,0)=(l.map (·.1) ++ (VM.fnsF j st).1,(VM.fnsF j st).2))=J
    obtain ⟨k,rfl⟩:∃ j,k=j+1:=⟨k - 1,by omega⟩
    have r1:=h.r1
    have rg:H' n=some (.row 2 [.str st.1,.int .i64 st.2]):=h.rg
    have ne_1:n ≠ n+1∧n+1 ≠ n:=⟨by omega,by omega⟩
    by_cases he:st.2=0
    · simp [zgb,r1,rg,he,ne_1]
      refine zmb h.rg ?_
      have h1:=h.put (st':=(VM.trim st.1,st.2)) ⟨VM.trim_le _,id⟩
      generalize H'.put n _=H2 at h1 ⊢
      have q1:=h1.r1
      have qg:H2 n=some (.row 2 [.str (VM.trim st.1),.int .i64 st.2]):=h1.rg
      by_cases hn:VM.nxt st.1=0
      · have e:VM.parseF s=(l.map (·.1),0):=by
          rw [hpf,hgo]
          simp only [VM.fnsF,he,hn,ne_eq,not_true_eq_false,and_false,if_false,if_true,List.append_nil]
        simp [zgc,hn,q1,qg,he]
        refine hq _ _ _ ?_ fun y hy=>h1.keep y hy
        rw [e]
        refine .tup2 ?_ (.same _ (.int _ _))
        have:=h1.out.frz (N:=n) (by omega)
        rw [List.map_map]
        exact this
      · simp [zgc,hn,q1]
        refine zwn h1 he fun B H3 m3 h3 => ?_
        rw [← hJ]
        have hl:=VM.left_lt VM.nice_fn (st:=st) he
        rw [he] at h3
        refine ⟨k,by omega,_,_,_,rfl,h3,by omega,?_⟩
        rw [hgo]
        simp only [VM.fnsF,he,hn,ne_eq,not_false_eq_true,and_true,if_true,List.map_append,List.map_cons,List.map_nil,List.append_assoc,List.singleton_append]
    · have e:VM.parseF s=([],st.2):=by
        rw [hpf,hgo]
        simp only [VM.fnsF,he,false_and,if_false]
        rw [if_pos he]
      simp [zgb,r1,rg,he,ne_1]
      exact none_ _ e _ _ fun y hy=>h.keep y hy
end Go.Proofs.YtpllgpgdcbgalaaDoor
set_option maxRecDepth 8000
namespace Go.Proofs.YtpllgpgdcbgalaaDoor
open Go Go.RowKit
namespace VM
def addW (ws:List Str) (w:Str):List Str:=if w∈ws then ws else ws ++ [w]
def headE (fns:List (Str×Nat)) (names:List Str) (k:Int) (t:Str) (n:Nat):Int :=
  if k=3 then (if t∈names then 0 else 6)
  else if k=11 then (match fns.lookup t with | none=>6 | some m=>if m=n then 0 else 5)
  else 0
mutual
def exC (fns:List (Str×Nat)) (names:List Str):Ex→List Str→List Str×Int
  | .mk k _ t ar,ws =>
    if headE fns names k t ar.length ≠ 0 then (if k=2 then addW ws t else ws,headE fns names k t ar.length) else exCL fns names ar (if k=2 then addW ws t else ws)
def exCL (fns:List (Str×Nat)) (names:List Str):List Ex→List Str→List Str×Int
  | [],ws=>(ws,0)
  | x :: r,ws=>if (exC fns names x ws).2 ≠ 0 then exC fns names x ws else exCL fns names r (exC fns names x ws).1
end
abbrev ScS:=Int×List Str
mutual
def smC (fns:List (Str×Nat)) (names:List Str):Sm→ScS→ScS×Int×List Str
  | .mk k nm ar t e,s =>
    let a:=exCL fns names ar s.2
    if a.2 ≠ 0 then ((s.1,a.1),a.2,names)
    else if k=1∧nm∈names then ((s.1,a.1),7,names)
    else if k=1∧8 < s.1+1 then ((s.1+1,a.1),4,names)
    else if k=2∧nm∉names then ((s.1,a.1),6,names)
    else
      let s1:ScS:=(if k=1 then s.1+1 else s.1,a.1)
      let names1:=if k=1 then names ++ [nm] else names
      let b:=smCL fns names1 t s1
      if b.2 ≠ 0 then (b.1,b.2,names1) else
      let c:=smCL fns names1 e b.1
      (c.1,c.2,names1)
def smCL (fns:List (Str×Nat)) (names:List Str):List Sm→ScS→ScS×Int
  | [],s=>(s,0)
  | x :: r,s=>if (smC fns names x s).2.1 ≠ 0 then ((smC fns names x s).1,(smC fns names x s).2.1) else smCL fns (smC fns names x s).2.2 r (smC fns names x s).1
end
def unlike:List Str→Bool
  | l=>(List.range l.length).all fun i=>decide (l.getD i []∉l.take i)
def fnsC:List (Str×Nat)→List Fnc→List (Str×Nat)×Int
  | m,[]=>(m,0)
  | m,f :: r=>if (m.lookup f.name).isSome∨unlike f.params=false then (m,7) else if 4 < f.params.length then (m,5) else fnsC (m ++ [(f.name,f.params.length)]) r
def bodiesC (fns:List (Str×Nat)):List Fnc→List Str→List Str×Int
  | [],ws=>(ws,0)
  | f :: r,ws=>if (smCL fns f.params f.body (f.params.length,ws)).2 ≠ 0 then ((smCL fns f.params f.body (f.params.length,ws)).1.2,(smCL fns f.params f.body (f.params.length,ws)).2) else bodiesC fns r (smCL fns f.params f.body (f.params.length,ws)).1.2
def checkC (l:List Fnc):Int:=match l with
  | []=>5
  | f :: r=>if 5 < r.length+1 then 5 else
    if (fnsC [] (f :: r)).2 ≠ 0 then (fnsC [] (f :: r)).2
    else if 0 < f.params.length then 10
    else if (bodiesC (fnsC [] (f :: r)).1 (f :: r) []).2 ≠ 0 then (bodiesC (fnsC [] (f :: r)).1 (f :: r) []).2
    else if 16 < (bodiesC (fnsC [] (f :: r)).1 (f :: r) []).1.length then 4 else 0
end VM
theorem zmu {l:List Str}:∀ x∈l.map strC,x.length=1:=fun x hx=>by obtain ⟨y,_,rfl⟩:=List.mem_map.1 hx; rfl
theorem zac.frzS {H:Heap} {nx:Nat} {l:List Str} {a:AV} (h:zac H nx 1 (l.map strC) a):Frz H 0 a (.ro (l.map strC)) :=
  h.frz zmu (fun x hx v hv=>by obtain ⟨y,_,rfl⟩:=List.mem_map.1 hx; rw [List.mem_singleton.1 hv]; exact ⟨by simp [flat],.str _⟩) (zcv fun x hx v hv=>by obtain ⟨y,_,rfl⟩:=List.mem_map.1 hx; rw [List.mem_singleton.1 hv]; exact .str _)
theorem zyu (l:List Str) (s:Str) (hl:l.length≤4611686018427387904):QC Tryd.prog 35 [.ro (l.map strC),.str s] (.bool (decide (s∈l))):=by
  intro H n
  refine zpy _ _ _ _ _ ?_
  simp [zno]
  refine LP.mk (fun m xs H' n'=>∃ i:Nat,i≤l.length∧m=l.length - i∧xs=[.str s,.ro (l.map strC),.int .i64 l.length,.int .i64 i]∧H'=H∧n'=n∧s∉l.take i) l.length ⟨0,by omega,by omega,rfl,rfl,rfl,by simp⟩ ?_
  rintro m xs H' n' ⟨i,hi,rfl,rfl,rfl,rfl,hno⟩
  by_cases h:i < l.length
  · by_cases e:l[i]=s
    · have hin:s∈l:=e ▸ List.getElem_mem h
      simp [zfj,h,strC,e,hin]
    · have hw:IntKind.i64.wrap ((i:Int)+1)=(i:Int)+1:=i64w (by omega)
      simp [zfj,h,strC,e,hw]
      refine ⟨l.length - (i+1),by omega,i+1,by omega,rfl,by simp,?_⟩
      have hts:l.take (i+1)=l.take i ++ [l[i]]:=List.take_succ_eq_append_getElem _
      intro hm
      rw [hts,List.mem_append,List.mem_singleton] at hm
      exact hm.elim hno fun h=>e h.symm
  · have e:i=l.length:=by omega
    subst e
    rw [List.take_length] at hno
    simp [zfj,hno]
theorem zrb {l:List Str} {s:Str} (hl:l.length≤4611686018427387904) {H:Heap} {n m:Nat} {a:AV} {Q:QT} (ha:zac H m 1 (l.map strC) a) (hq:Q (.bool (decide (s∈l))) H n):za Tryd.prog 35 [a,.str s] H n Q :=
  (zyu l s hl).readsC (by simp [flat]) (.cons ha.frzS (.cons (.same _ (.str _)) .nil)) hq
end Go.Proofs.YtpllgpgdcbgalaaDoor
set_option maxRecDepth 8000
namespace Go.Proofs.YtpllgpgdcbgalaaDoor
open Go Go.RowKit
theorem zacs {xs:List (List AV)} {esz:Nat} {ki:IntKind} {b:Int} {H:Heap} {k:AV→Prop}:SL esz (.ro xs) none (some (.int ki b)) H k=(0≤b∧b≤xs.length∧(∀ x∈xs,x.length=esz)∧k (.ro (xs.take b.toNat))):=by
  simp [SL,zkz,lohi,PURE,qk]
def owns:AV→List Nat
  | .slc g _ _=>[g]
  | _=>[]
structure LkM (gk gm:Nat) (fns:List (Str×Nat)) (vars:Int) (ws:List Str) (A:AV) (H:Heap) (m:Nat):Prop where
  row:H gk=some (.row 3 [.amap gm,.int .i64 vars,A])
  wr:RowS strC 1 H (gk+1) m ws A
  map:H gm=some (.mp (fns.map fun p=>(.str p.1,.int .i64 p.2)))
  gg:gm < gk
  gn:gk < m
structure Ext (gk:Nat) (A:AV) (H:Heap) (m:Nat) (A':AV) (H':Heap) (m':Nat):Prop where
  le:m≤m'
  keep:∀ y,y < m→y ≠ gk→y∉owns A→H' y=H y
  own:∀ y∈owns A',y∈owns A∨m≤y
theorem Ext.refl (gk:Nat) (A:AV) (H:Heap) (m:Nat):Ext gk A H m A H m:=⟨Nat.le_refl _,fun _ _ _ _=>rfl,fun _ h=>.inl h⟩
theorem Ext.trans {gk m1 m2 m3:Nat} {A1 A2 A3:AV} {H1 H2 H3:Heap} (h:Ext gk A1 H1 m1 A2 H2 m2) (k:Ext gk A2 H2 m2 A3 H3 m3):Ext gk A1 H1 m1 A3 H3 m3:=by
  have h1:=h.le
  have h2:=k.le
  refine ⟨by omega,fun y hy hne hno => ?_,fun y hy => ?_⟩
  · rw [k.keep y (by omega) hne fun hy2=>(h.own y hy2).elim hno (by omega)]
    exact h.keep y hy hne hno
  · rcases k.own y hy with h3 | h3
    · exact h.own y h3
    · exact .inr (by omega)
structure NmA (gk:Nat) (A:AV) (names:List Str) (H:Heap) (m:Nat) (a:AV):Prop where
  arg:zac H m 1 (names.map strC) a
  far:∀ y∈owns a,y ≠ gk∧y∉owns A
theorem NmA.ext {gk m m':Nat} {A A':AV} {H H':Heap} {names:List Str} {a:AV} (h:NmA gk A names H m a) (e:Ext gk A H m A' H' m'):NmA gk A' names H' m' a:=by
  have hle:=e.le
  obtain ⟨h1,h2⟩:=h
  cases h1 with
  | ro=>exact ⟨.ro,fun y hy=>by simp [owns] at hy⟩
  | nils h=>exact ⟨.nils h,fun y hy=>by simp [owns] at hy⟩
  | slc g q1 q2 =>
    have hg:=h2 g (by simp [owns])
    refine ⟨.slc g (by omega) (by rw [e.keep g q1 hg.1 hg.2]; exact q2),fun y hy => ?_⟩
    simp [owns] at hy
    subst hy
    exact ⟨hg.1,fun hy2=>(e.own _ hy2).elim hg.2 (by omega)⟩
end Go.Proofs.YtpllgpgdcbgalaaDoor
set_option maxRecDepth 8000
namespace Go.Proofs.YtpllgpgdcbgalaaDoor
open Go Go.RowKit
namespace VM
mutual
def exW:Ex→Nat
  | .mk _ _ _ ar=>1+exWL ar
def exWL:List Ex→Nat
  | []=>0
  | x :: r=>exW x+exWL r
end
theorem exW_pos:∀ x:Ex,1≤exW x
  | .mk _ _ _ _=>by unfold exW; omega
theorem len_exWL:∀ l:List Ex,l.length≤exWL l
  | []=>by simp
  | x :: r=>by have:=exW_pos x; have:=len_exWL r; unfold exWL; rw [List.length_cons]; omega
theorem addW_le (ws:List Str) (w:Str):(addW ws w).length≤ws.length+1:=by
  unfold addW
  split
  · omega
  · rw [List.length_append]; simp
theorem cond_le (ws:List Str) (w:Str) (k:Int):(if k=2 then addW ws w else ws).length≤ws.length+1:=by
  split
  · exact addW_le ws w
  · omega
mutual
theorem exC_le (fns:List (Str×Nat)) (names:List Str):∀ (x:Ex) (ws:List Str),(exC fns names x ws).1.length≤ws.length+exW x
  | .mk k n t ar,ws=>by
    have h1:=cond_le ws t k
    have h2:=exCL_le fns names ar (if k=2 then addW ws t else ws)
    unfold exC exW
    split
    · simp only; omega
    · omega
theorem exCL_le (fns:List (Str×Nat)) (names:List Str):∀ (l:List Ex) (ws:List Str),(exCL fns names l ws).1.length≤ws.length+exWL l
  | [],ws=>by unfold exCL exWL; simp
  | x :: r,ws=>by
    have h1:=exC_le fns names x ws
    have h2:=exCL_le fns names r (exC fns names x ws).1
    unfold exCL exWL
    split
    · omega
    · omega
end
end VM
theorem zjo (t:Str):∀ fns:List (Str×Nat),∃ r,zah (.str t) (fns.map fun p=>(AV.str p.1,AV.int .i64 p.2))=some r∧(match r with | some (_,v)=>fns.lookup t ≠ none∧v=.int .i64 ((fns.lookup t).getD 0:Nat) | none=>fns.lookup t=none)
  | []=>⟨none,by simp,rfl⟩
  | (w, n) :: r=>by
    obtain ⟨q,h1,h2⟩:=zjo t r
    rw [List.map_cons,zoi,List.lookup_cons]
    by_cases h:t=w
    · subst h
      exact ⟨some (0,.int .i64 n),by simp,by simp⟩
    · have hb:(t == w)=false:=by simpa using h
      rw [if_neg h,h1,hb]
      cases q with
      | none=>exact ⟨none,rfl,h2⟩
      | some p=>exact ⟨some (p.1+1,p.2),rfl,h2⟩
end Go.Proofs.YtpllgpgdcbgalaaDoor
set_option maxRecDepth 8000
namespace Go.Proofs.YtpllgpgdcbgalaaDoor
open Go Go.RowKit
theorem RowS.arg {H:Heap} {lo m:Nat} {names:List Str} {a:AV} (h:RowS strC 1 H lo m names a):zac H m 1 (names.map strC) a:=by
  cases h with
  | nil=>exact .nils rfl
  | row h1 h2 h3=>have:=zac.slc (xs:=names.map strC) (sz:=1) _ h2 h3; rw [List.length_map] at this; exact this
structure OwN (gk:Nat) (A:AV) (lo:Nat) (names:List Str) (H:Heap) (m:Nat) (a:AV):Prop where
  row:RowS strC 1 H lo m names a
  far:∀ y∈owns a,y ≠ gk∧y∉owns A
theorem OwN.ext {gk lo m m':Nat} {A A' a:AV} {H H':Heap} {names:List Str} (h:OwN gk A lo names H m a) (e:Ext gk A H m A' H' m'):OwN gk A' lo names H' m' a:=by
  have hle:=e.le
  obtain ⟨h1,h2⟩:=h
  cases h1 with
  | nil=>exact ⟨.nil,fun y hy=>by simp [owns] at hy⟩
  | row q0 q1 q2 =>
    rename_i ga
    have hg:=h2 ga (by simp [owns])
    refine ⟨.row q0 (by omega) (by rw [e.keep _ q1 hg.1 hg.2]; exact q2),fun y hy => ?_⟩
    simp [owns] at hy
    subst hy
    exact ⟨hg.1,fun hy2=>(e.own _ hy2).elim hg.2 (by omega)⟩
theorem LkM.old {gk gm m m':Nat} {fns:List (Str×Nat)} {vars:Int} {ws:List Str} {A:AV} {H H':Heap} (h:LkM gk gm fns vars ws A H m) (hm:m≤m') (hk:∀ y,y < m→H' y=H y):LkM gk gm fns vars ws A H' m':=by
  have h1:=h.gg
  have h2:=h.gn
  exact ⟨by rw [hk _ h2]; exact h.row,h.wr.keep hm fun y _ hy=>hk y hy,by rw [hk _ (by omega)]; exact h.map,h1,by omega⟩
theorem LkM.ownA {gk gm m:Nat} {fns:List (Str×Nat)} {vars:Int} {ws:List Str} {A:AV} {H:Heap} (h:LkM gk gm fns vars ws A H m):∀ y∈owns A,gk < y∧y < m:=by
  intro y hy
  have:=h.wr
  cases this with
  | nil=>simp [owns] at hy
  | row h1 h2 h3=>simp [owns] at hy; omega
end Go.Proofs.YtpllgpgdcbgalaaDoor
set_option maxRecDepth 8000
namespace Go.Proofs.YtpllgpgdcbgalaaDoor
open Go Go.RowKit
namespace VM
mutual
def smW:Sm→Nat
  | .mk _ _ ar t e=>1+exWL ar+smWL t+smWL e
def smWL:List Sm→Nat
  | []=>0
  | x :: r=>smW x+smWL r
end
end VM
def VM.pairC (fns:List (Str×Nat)) (names:List Str) (t e:List Sm) (s:VM.ScS):VM.ScS×Int:=if (VM.smCL fns names t s).2 ≠ 0 then VM.smCL fns names t s else VM.smCL fns names e (VM.smCL fns names t s).1
end Go.Proofs.YtpllgpgdcbgalaaDoor
set_option maxRecDepth 8000
namespace Go.Proofs.YtpllgpgdcbgalaaDoor
open Go Go.RowKit
namespace VM
def restC (fns:List (Str×Nat)) (names:List Str) (k:Int) (nm:Str) (t e:List Sm) (s:ScS):ScS×Int×List Str :=
  if k=1∧nm∈names then (s,7,names)
  else if k=1∧8 < s.1+1 then ((s.1+1,s.2),4,names)
  else if k=2∧nm∉names then (s,6,names)
  else ((pairC fns (if k=1 then names ++ [nm] else names) t e (if k=1 then s.1+1 else s.1,s.2)).1,(pairC fns (if k=1 then names ++ [nm] else names) t e (if k=1 then s.1+1 else s.1,s.2)).2,if k=1 then names ++ [nm] else names)
theorem smC_rest (fns:List (Str×Nat)) (names:List Str) (k:Int) (nm:Str) (ar:List Ex) (t e:List Sm) (s:ScS):smC fns names (.mk k nm ar t e) s=if (exCL fns names ar s.2).2 ≠ 0 then ((s.1,(exCL fns names ar s.2).1),(exCL fns names ar s.2).2,names) else restC fns names k nm t e (s.1,(exCL fns names ar s.2).1):=by
  simp only [smC,restC,pairC]
  split
  · rfl
  · split
    · rfl
    · split
      · rfl
      · split
        · rfl
        · split <;> (split <;> rfl)
end VM
theorem RowS.keepO {α:Type} {f:α→List AV} {sz:Nat} {H H':Heap} {lo hi hi':Nat} {l:List α} {A:AV} (h:RowS f sz H lo hi l A) (hh:hi≤hi') (hk:∀ y∈owns A,H' y=H y):RowS f sz H' lo hi' l A:=by
  cases h with
  | nil=>exact .nil
  | row h1 h2 h4=>exact .row h1 (by omega) (by rw [hk _ (by simp [owns])]; exact h4)
theorem Ext.old {gk m0 m m':Nat} {A0 A:AV} {H0 H H':Heap} (h:Ext gk A0 H0 m0 A H m) (hm:m≤m') (hk:∀ y,y < m0→y ≠ gk→H' y=H y):Ext gk A0 H0 m0 A H' m':=by
  have h1:=h.le
  exact ⟨by omega,fun y hy hne hno=>by rw [hk y hy hne]; exact h.keep y hy hne hno,h.own⟩
end Go.Proofs.YtpllgpgdcbgalaaDoor
set_option maxRecDepth 8000
namespace Go.Proofs.YtpllgpgdcbgalaaDoor
open Go Go.RowKit
namespace VM
def Good (s s':ScS) (w:Nat):Prop:=0≤s'.1∧s'.1≤8∧s'.2.length≤s.2.length+w
mutual
theorem smC_good (fns:List (Str×Nat)):∀ (x:Sm) (names:List Str) (s:ScS),0≤s.1→s.1≤8→(smC fns names x s).2.1=0→Good s (smC fns names x s).1 (smW x)∧(smC fns names x s).2.2.length≤names.length+1
  | .mk k nm ar t e,names,s,h0,h8,hz=>by
    have ha:=exCL_le fns names ar s.2
    rw [smC_rest] at hz ⊢
    unfold restC at hz ⊢
    split at hz
    · rename_i h; exact absurd hz h
    · rename_i hx
      rw [if_neg hx]
      split at hz
      · cases hz
      · rename_i c1
        rw [if_neg c1]
        split at hz
        · cases hz
        · rename_i c2
          rw [if_neg c2]
          split at hz
          · cases hz
          · rename_i c3
            rw [if_neg c3]
            have hv:0≤(if k=1 then s.1+1 else s.1)∧(if k=1 then s.1+1 else s.1)≤8:=by
              split
              · rename_i hk
                have:¬ 8 < s.1+1:=fun h=>c2 ⟨hk,h⟩
                omega
              · omega
            have hn:(if k=1 then names ++ [nm] else names).length≤names.length+1:=by
              split
              · rw [List.length_append]; simp
              · omega
            generalize (if k=1 then s.1+1 else s.1)=v at *
            generalize (if k=1 then names ++ [nm] else names)=nms at *
            simp only at hz ⊢
            refine ⟨?_,hn⟩
            unfold pairC at hz ⊢
            split at hz
            · rename_i h; exact absurd hz h
            · rename_i ht
              rw [if_neg ht]
              have g1:=smCL_good fns t nms (v,(exCL fns names ar s.2).1) hv.1 hv.2 (by simpa using ht)
              have g2:=smCL_good fns e nms _ g1.1 g1.2.1 hz
              unfold smW
              exact ⟨g2.1,g2.2.1,by have:=g2.2.2; have:=g1.2.2; simp only at *; omega⟩
theorem smCL_good (fns:List (Str×Nat)):∀ (l:List Sm) (names:List Str) (s:ScS),0≤s.1→s.1≤8→(smCL fns names l s).2=0→Good s (smCL fns names l s).1 (smWL l)
  | [],names,s,h0,h8,hz=>by unfold smCL smWL; exact ⟨h0,h8,by simp⟩
  | x :: r,names,s,h0,h8,hz=>by
    unfold smCL at hz ⊢
    split at hz
    · rename_i h; exact absurd hz h
    · rename_i h
      rw [if_neg h]
      have g1:=(smC_good fns x names s h0 h8 (by simpa using h)).1
      have g2:=smCL_good fns r (smC fns names x s).2.2 _ g1.1 g1.2.1 hz
      unfold smWL
      exact ⟨g2.1,g2.2.1,by have:=g2.2.2; have:=g1.2.2; omega⟩
end
end VM
end Go.Proofs.YtpllgpgdcbgalaaDoor
set_option maxRecDepth 8000
namespace Go.Proofs.YtpllgpgdcbgalaaDoor
open Go Go.RowKit
theorem zacr:∀ x:Sm,1≤VM.smW x
  | .mk _ _ _ _ _=>by unfold VM.smW; omega
theorem len_smWL:∀ l:List Sm,l.length≤VM.smWL l
  | []=>by simp
  | x :: r=>by have:=zacr x; have:=len_smWL r; unfold VM.smWL; rw [List.length_cons]; omega
end Go.Proofs.YtpllgpgdcbgalaaDoor
set_option maxRecDepth 8000
namespace Go.Proofs.YtpllgpgdcbgalaaDoor
open Go Go.RowKit
def zax:List Fnc→Nat
  | []=>0
  | f :: r=>f.params.length+VM.smWL f.body+zax r
end Go.Proofs.YtpllgpgdcbgalaaDoor
set_option maxRecDepth 8000
namespace Go.Proofs.YtpllgpgdcbgalaaDoor
open Go Go.RowKit
theorem zsj:∀ {l:List Fnc} {f:Fnc},f∈l→f.params.length≤zax l
  | g :: r,f,h=>by
    unfold zax
    rcases List.mem_cons.1 h with rfl | h
    · omega
    · have:=zsj h; omega
end Go.Proofs.YtpllgpgdcbgalaaDoor
