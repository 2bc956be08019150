/- The document's Make: rows that grow; heights; one piece behind the other. code: the maker in memory; its small functions. The document's Make: the maker in memory. The document's Make: expressions. What is to be shown of each function, written out. The document's Make: calls by which the maker changes, where the order is drawn; appending there. What does not touch the same, where the order is drawn. The document's Make: a map that is copied; one instruction behind what was. The document's Make: a statement's arguments; statements of one instruction. -/
import Derived.Test.YtpllgpgdcbgalaaDoorG7
import Derived.Test.YtpllgpgdcbgalaaDoorG10
import Derived.Test.YtpllgpgdcbgalaaDoorG9
import Derived.Test.YtpllgpgdcbgalaaDoorG8
import Derived.Test.YtpllgpgdcbgalaaDoorG5
set_option linter.unusedSimpArgs false
set_option linter.unusedVariables false
set_option maxRecDepth 8000
namespace Go.Proofs.YtpllgpgdcbgalaaDoor
open Go Go.RowKit
theorem RowS.app {α:Type} {f:α→List AV} {sz by_:Nat} {H:Heap} {lo m:Nat} {l l2:List α} {B x:AV} {rd:List Nat} {kk:AV→Heap→Nat→Prop} (h:RowS f sz H lo m l B) (hf:∀ x,(f x).length=sz) (h1:∀ x,∀ v∈f x,v.one=true)
    (hs:zh sz H x=some (l2.length,(l2.map f).flatten,rd)) (hb:(l.length+l2.length)*by_≤140737488355328) (hlo:lo≤m)
    (hk:∀ B' H' m',RowS f sz H' lo m' (l ++ l2) B'→m≤m'→(∀ y,y < m→y∉owns B→H' y=H y)→(∀ y∈owns B',y∈owns B∨m≤y)→(B ≠ .nils→B' ≠ .nils)→kk B' H' m'):APP sz by_ B x H m kk:=by
  have hone:((l2.map f).flatten).all AV.one=true:=by
    rw [List.all_eq_true]
    intro v hv
    obtain ⟨y,hy,hv⟩:=List.mem_flatten.1 hv
    obtain ⟨z,_,rfl⟩:=List.mem_map.1 hy
    exact h1 z v hv
  cases h with
  | nil =>
    rw [zabz,hs,optk]
    refine ⟨hone,fun h0 => ?_,fun h0=>⟨by simpa using hb,?_⟩⟩
    · obtain rfl:l2=[]:=List.eq_nil_of_length_eq_zero h0
      exact hk _ _ _ .nil (Nat.le_refl _) (fun _ _ _=>rfl) (fun y hy=>.inl hy) id
    · exact hk _ _ _ (.row hlo (by omega) (Heap.put_at _ _ _)) (by omega) (fun y hy _=>Heap.put_ne _ _ (by omega)) (fun y hy=>by simp [owns] at hy; exact .inr (by omega)) (fun _ h=>by cases h)
  | @row l ga a1 a2 a3 =>
    have hl:=zap hf l
    rw [zadz,hs,optk,a3,rowk]
    refine ⟨rfl,hone,by omega,Nat.le_add_right_of_le hb,?_⟩
    have e:(((l.map f).flatten.drop 0).take (l.length*sz) ++ (l2.map f).flatten)=((l ++ l2).map f).flatten:=by
      rw [List.drop_zero,List.take_of_length_le (by omega)]; simp
    rw [e,← List.length_append]
    exact hk _ _ _ (.row hlo (by omega) (Heap.put_at _ _ _)) (by omega) (fun y hy hn=>by rw [Heap.put_ne _ _ (by omega),Heap.put_ne _ _ (by simpa [owns] using hn)]) (fun y hy=>by simp [owns] at hy; exact .inr (by omega)) (fun _ h=>by cases h)
theorem RowS.bo {α:Type} {f:α→List AV} {sz:Nat} {H:Heap} {lo hi:Nat} {l:List α} {A:AV} (h:RowS f sz H lo hi l A):∀ y∈owns A,lo≤y∧y < hi:=by
  cases h with
  | nil=>intro y hy; simp [owns] at hy
  | row a b c=>intro y hy; simp [owns] at hy; omega
theorem zro {sz t:Nat} {H:Heap} {α:Type} {f:α→List AV} {x:α} (hf:(f x).length=sz) (h:H t=some (.row sz (f x))):zh sz H (.slc t 0 1)=some ([x].length,([x].map f).flatten,[t]):=by
  simp only [zh,h]
  rw [if_pos (by omega)]
  simp [← hf]
theorem zvq {sz:Nat} {H:Heap} {α:Type} {f:α→List AV} {l:List α} (hf:∀ x,(f x).length=sz):zh sz H (.ro (l.map f))=some (l.length,(l.map f).flatten,[]):=by
  rw [zqr (fun x hx=>by obtain ⟨y,_,rfl⟩:=List.mem_map.1 hx; exact hf y),List.length_map]
theorem zfv (x:Ins):∀ v∈x.avs,v.one=true:=fun v hv=>by
  simp only [Ins.avs,List.mem_cons,List.not_mem_nil,or_false] at hv
  rcases hv with rfl | rfl | rfl <;> rfl
theorem zuk (A:Nat→Prop) (x:Ins):∀ v∈x.avs,Bel A v:=fun v hv=>by
  simp only [Ins.avs,List.mem_cons,List.not_mem_nil,or_false] at hv
  rcases hv with rfl | rfl | rfl <;> exact .int _ _
theorem zul (A:Nat→Prop) (l:List Ins):Bel A (.ro (l.map Ins.avs)):=zcv fun x hx v hv=>by obtain ⟨y,_,rfl⟩:=List.mem_map.1 hx; exact zuk A y v hv
/-! Heights. -/
def ztf (x:Ex):Prop:=VM.exW x≤4294967296→QC Tryd.prog 60 [.agg x.avs] (.int .i64 (VM.dpE x:Nat))
set_option maxHeartbeats 1000000 in
theorem zabv {k z:Int} {t:Str} {ar:List Ex} (hE:∀ x∈ar,ztf x):ztf (.mk k z t ar):=by
  intro hw
  unfold VM.exW at hw
  have hal:=VM.len_exWL ar
  refine QC.of' fun H n => ?_
  refine zpq _ _ _ _ ?_
  rw [zho]
  simp [zlw]
  have k0:Keep n (H.put n (some (.row 4 [.int .i64 k,.int .i64 z,.str t,.ro (ar.map Ex.avs)]))) H:=by simp
  generalize H.put n (some (.row 4 [.int .i64 k,.int .i64 z,.str t,.ro (ar.map Ex.avs)]))=H1 at *
  refine LP.mk (fun j xs H' n'=>∃ (i c:Nat),i+j=ar.length∧xs=[.int .i64 c,.ro (ar.map Ex.avs),.int .i64 ar.length,.int .i64 i]∧Keep n H' H∧n < n'∧c≤8589934592∧VM.exWL (ar.drop i)≤4294967296∧max 1 (VM.dpA ar 0)=max c (VM.dpA (ar.drop i) i)) ar.length ⟨0,1,by omega,rfl,k0,by omega,by omega,by simp; omega,by simp⟩ ?_
  rintro j xs H' n' ⟨i,c,hij,rfl,hk,hn,hc,hw',e⟩
  cases j with
  | zero =>
    obtain rfl:i=ar.length:=by omega
    rw [List.drop_length] at e
    simp only [VM.dpA] at e
    simp [zgz]
    refine ⟨?_,hk⟩
    unfold VM.dpE
    rw [e]
    simp
  | succ j =>
    have hlt:i < ar.length:=by omega
    have hdr:ar.drop i=ar[i] :: ar.drop (i+1):=List.drop_eq_getElem_cons hlt
    rw [hdr] at hw' e
    simp only [VM.dpA,VM.exWL] at hw' e
    have hxl:=zbs ar[i]
    have hxt:ar[i].avs.take 4=ar[i].avs:=List.take_of_length_le (by omega)
    have hd:=VM.dpE_le ar[i]
    simp [zgz,hlt,hxl,hxt]
    refine ⟨zfe _,?_⟩
    refine (hE ar[i] (List.getElem_mem hlt) (by omega)).call ?_
    have w1:IntKind.i64.wrap ((i:Int)+(VM.dpE ar[i]:Nat))=((i+VM.dpE ar[i]:Nat):Int):=by rw [i64w (by omega)]; omega
    have w2:IntKind.i64.wrap ((i:Int)+1)=(i:Int)+1:=i64w (by omega)
    simp [zlx,w1,w2]
    refine ⟨j,by omega,i+1,by omega,max c (i+VM.dpE ar[i]),by simp; omega,fun y hy=>by (repeat' first | rw [if_neg (by omega)] | rw [Heap.put_ne _ _ (by omega)]); exact hk y hy,by omega,by omega,by omega,by omega⟩
mutual
theorem zwa:∀ x:Ex,ztf x
  | .mk _ _ _ ar=>zabv (zuf ar)
theorem zuf:∀ l:List Ex,∀ x∈l,ztf x
  | [],x,h=>absurd h (by simp)
  | y :: r,x,h=>(List.mem_cons.1 h).elim (fun e=>e ▸ zwa y) fun h=>zuf r x h
end
def zla (l:List Sm):Prop:=VM.smWL l≤4294967296→VM.okSmL l→QC Tryd.prog 40 [.ro (l.map Sm.avs)] (.int .i64 (VM.hiL l:Nat))
set_option maxHeartbeats 1000000 in
theorem zadh {k:Int} {nm:Str} {ar:List Ex} {t e:List Sm} (hT:zla t) (hE:zla e) (hw:VM.exWL ar+VM.smWL t+VM.smWL e≤4294967296) (ht:VM.okSmL t) (he:VM.okSmL e) {K:J3} {H:Heap} {n g c i:Nat} {L len:AV} (hg:H g=some (.row 5 (Sm.mk k nm ar t e).avs)) (hgn:g < n) (hc:c≤8589934592) (hi:i < 4294967296)
    (hq:∀ H' n',(∀ y,y < n→H' y=H y)→n≤n'→K [.int .i64 (max c (max (VM.dpA ar 0) (max (VM.hiL t) (VM.hiL e))):Nat),L,len,.int .i64 ((i:Int)+1)] H' n') :
    LP (zeg K) [.int .i64 c,.ptr g 0,L,len,.int .i64 i,.ro (ar.map Ex.avs),.int .i64 ar.length,.int .i64 0] H n:=by
  have hal:=VM.len_exWL ar
  have hwi:IntKind.i64.wrap ((i:Int)+1)=(i:Int)+1:=i64w (by omega)
  rw [zay] at hg
  refine LP.mk (fun j xs H' n'=>∃ (a b:Nat),a+j=ar.length∧xs=[.int .i64 b,.ptr g 0,L,len,.int .i64 i,.ro (ar.map Ex.avs),.int .i64 ar.length,.int .i64 a]∧(∀ y,y < n→H' y=H y)∧n≤n'∧b≤8589934592∧VM.exWL (ar.drop a)≤4294967296∧max c (VM.dpA ar 0)=max b (VM.dpA (ar.drop a) a)) ar.length ⟨0,c,by omega,rfl,fun _ _=>rfl,Nat.le_refl _,hc,by simp; omega,by simp⟩ ?_
  rintro j xs H' n' ⟨a,b,hij,rfl,hk,hn,hb,hw',e1⟩
  have hg':H' g=some (.row 5 [.int .i64 k,.str nm,.ro (ar.map Ex.avs),.ro (t.map Sm.avs),.ro (e.map Sm.avs)]):=by rw [hk g hgn]; exact hg
  cases j with
  | zero =>
    obtain rfl:a=ar.length:=by omega
    rw [List.drop_length] at e1
    simp only [VM.dpA] at e1
    simp [zeg,hg']
    refine zm.of_qc (hT (by omega) ht) (.int _ _) ?_
    simp [zlt,hg']
    refine zm.of_qc (hE (by omega) he) (.int _ _) ?_
    simp [zlu,hwi]
    have:=hq H' n' hk hn
    have e2:max c (max (VM.dpA ar 0) (max (VM.hiL t) (VM.hiL e)))=max (max b (VM.hiL t)) (VM.hiL e):=by omega
    rw [e2] at this
    have e3:((max (max b (VM.hiL t)) (VM.hiL e):Nat):Int)=max (b:Int) (max (VM.hiL t:Nat) (VM.hiL e:Nat)):=by omega
    rw [e3] at this
    exact this
  | succ j =>
    have hlt:a < ar.length:=by omega
    have hdr:ar.drop a=ar[a] :: ar.drop (a+1):=List.drop_eq_getElem_cons hlt
    rw [hdr] at hw' e1
    simp only [VM.dpA,VM.exWL] at hw' e1
    have hxl:=zbs ar[a]
    have hxt:ar[a].avs.take 4=ar[a].avs:=List.take_of_length_le (by omega)
    have hd:=VM.dpE_le ar[a]
    simp [zeg,hlt,hxl,hxt]
    refine ⟨zfe _,?_⟩
    refine (zwa ar[a] (by omega)).call ?_
    have w1:IntKind.i64.wrap ((a:Int)+(VM.dpE ar[a]:Nat))=((a+VM.dpE ar[a]:Nat):Int):=by rw [i64w (by omega)]; omega
    have w2:IntKind.i64.wrap ((a:Int)+1)=(a:Int)+1:=i64w (by omega)
    simp [zlv,w1,w2]
    refine ⟨j,by omega,a+1,by omega,max b (a+VM.dpE ar[a]),by simp; omega,fun y hy=>by (repeat' first | rw [if_neg (by omega)] | rw [Heap.put_ne _ _ (by omega)]); exact hk y hy,by omega,by omega,by omega,by omega⟩
set_option maxHeartbeats 1000000 in
theorem zof {l:List Sm} (hS:∀ k nm ar t e,Sm.mk k nm ar t e∈l→zla t∧zla e):zla l:=by
  intro hw ho
  have hal:=len_smWL l
  refine QC.of' fun H n => ?_
  refine zpp _ _ _ _ ?_
  simp [zls]
  refine LP.mk (fun j xs H' n'=>∃ (i c:Nat),i+j=l.length∧xs=[.int .i64 c,.ro (l.map Sm.avs),.int .i64 l.length,.int .i64 i]∧Keep n H' H∧n≤n'∧c≤8589934592∧VM.smWL (l.drop i)≤4294967296∧VM.okSmL (l.drop i)∧VM.hiL l=max c (VM.hiL (l.drop i))) l.length ⟨0,0,by omega,rfl,by simp,by omega,by omega,by simp; omega,by simpa using ho,by simp⟩ ?_
  rintro j xs H' n' ⟨i,c,hij,rfl,hk,hn,hc,hw',ho',e⟩
  cases j with
  | zero =>
    obtain rfl:i=l.length:=by omega
    rw [List.drop_length] at e
    simp only [VM.hiL] at e
    simp [zgy]
    refine ⟨?_,hk⟩
    rw [e]
    simp
  | succ j =>
    have hlt:i < l.length:=by omega
    have hdr:l.drop i=l[i] :: l.drop (i+1):=List.drop_eq_getElem_cons hlt
    rw [hdr] at hw' e ho'
    simp only [VM.hiL,VM.smWL,VM.okSmL] at hw' e ho'
    obtain ⟨k,nm,ar,t,el,hx⟩:∃ k nm ar t el,l[i]=Sm.mk k nm ar t el:=by cases l[i]; exact ⟨_,_,_,_,_,rfl⟩
    have hmem:=List.getElem_mem hlt
    rw [hx] at hmem hw' e ho'
    have hh:=VM.hiS_ok ho'.1
    rw [hh] at e
    simp only [VM.smW] at hw'
    have hok:=ho'.1
    unfold VM.okSm at hok
    obtain ⟨s1,s2⟩:=hS k nm ar t el hmem
    have hd:VM.dpA ar 0≤0+VM.exWL ar:=VM.dpA_le ar 0
    have hd1:=VM.hiL_le t
    have hd2:=VM.hiL_le el
    have hav:=zay k nm ar t el
    simp [zgy,hlt,hx,hav]
    refine zadh (k:=k) (nm:=nm) s1 s2 (by omega) hok.2.2.2.2.2.1 hok.2.2.2.2.2.2 (by rw [zay]; exact Heap.put_at _ _ _) (by omega) hc (by omega) fun H2 n2 hk2 hn2 => ?_
    refine ⟨j,by omega,i+1,by omega,max c (max (VM.dpA ar 0) (max (VM.hiL t) (VM.hiL el))),by simp,fun y hy => ?_,by omega,by omega,by omega,ho'.2,by omega⟩
    rw [hk2 y (by omega),Heap.put_ne _ _ (by omega)]
    exact hk y hy
def zpg:Sm→Prop
  | .mk _ _ _ t e=>zla t∧zla e
mutual
theorem zadf:∀ x:Sm,zpg x
  | .mk k nm ar t e=>by
    unfold zpg
    exact ⟨zof fun k nm ar t' e' hm=>by have:=znd t _ hm; unfold zpg at this; exact this,zof fun k nm ar t' e' hm=>by have:=znd e _ hm; unfold zpg at this; exact this⟩
theorem znd:∀ l:List Sm,∀ x∈l,zpg x
  | [],x,h=>absurd h (by simp)
  | y :: r,x,h=>(List.mem_cons.1 h).elim (fun e=>e ▸ zadf y) fun h=>znd r x h
end
theorem zadg (l:List Sm):zla l:=zof fun k nm ar t e hm=>by have:=znd l _ hm; unfold zpg at this; exact this
/-! One piece behind the other. -/
def zaa (xs ys:List Ins):List Ins:=xs ++ ys.map (VM.shI xs.length)
set_option maxHeartbeats 1000000 in
theorem zaaq {xs ys:List Ins} {a b:AV} {H:Heap} {n:Nat} (ha:zac H n 3 (xs.map Ins.avs) a) (hb:zac H n 3 (ys.map Ins.avs) b) (hx:xs.length≤4294967296) (hy:ys.length≤4294967296) (hj:∀ i∈ys,i.op=15∨i.op=16→0≤i.a∧i.a≤4294967296) :
    za Tryd.prog 59 [a,b] H n fun v H' n'=>(∃ g,v=.slc g 0 (zaa xs ys).length∧n≤g∧g < n'∧H' g=some (.row 3 ((zaa xs ys).map Ins.avs).flatten))∧∀ y,y < n→H' y=H y:=by
  refine zpk _ _ _ _ _ ?_
  have hl3:∀ zs:List Ins,∀ x∈zs.map Ins.avs,x.length=3:=fun zs x hx=>by obtain ⟨y,_,rfl⟩:=List.mem_map.1 hx; rfl
  unfold zll
  simp only [puth]
  have k0:∀ y,y < n→(H.put n (some (.row 3 []))) y=H y:=fun y hy=>Heap.put_ne _ _ (by omega)
  have ha0:=ha.keep k0 (Nat.le_refl _)
  obtain ⟨rd,hs⟩:=ha0.src (hl3 xs)
  have hr0:RowS Ins.avs 3 (H.put n (some (.row 3 []))) n (n+1) [] (.slc n 0 0):=.row (l:=[]) (Nat.le_refl _) (by omega) (Heap.put_at _ _ _)
  refine hr0.app (l2:=xs) (fun _=>rfl) zfv (by rw [List.length_map] at hs; exact hs) (by simp; omega) (by omega) fun B H1 m1 r1 hm1 k1 o1 n1 => ?_
  have hbl:∀ (H':Heap) (n':Nat) (k:AV→Prop),LNL b k=k (.int .i64 ys.length):=fun _ _ k=>by rw [hb.len,List.length_map]
  rw [hbl H n]
  have k1':∀ y,y < n→H1 y=H y:=fun y hy=>by
    rw [k1 y (by omega) (by simp [owns]; omega)]
    exact k0 y hy
  rw [List.nil_append] at r1
  refine LP.mk (fun j zs H' n'=>∃ (i:Nat) (B':AV),i+j=ys.length∧zs=[a,B',b,.int .i64 ys.length,.int .i64 i]∧(∀ y,y < n→H' y=H y)∧n≤n'∧RowS Ins.avs 3 H' n n' (xs ++ (ys.map (VM.shI xs.length)).take i) B'∧B' ≠ .nils) ys.length ⟨0,B,by omega,rfl,k1',by omega,by simpa using r1,n1 (by simp)⟩ ?_
  rintro j zs H' n' ⟨i,B',hij,rfl,hk,hn,hr,hnn⟩
  cases j with
  | zero =>
    obtain rfl:i=ys.length:=by omega
    rw [List.take_of_length_le (by simp)] at hr
    simp [zgx]
    refine ⟨?_,hk⟩
    unfold zaa
    generalize xs ++ ys.map (VM.shI xs.length)=L at *
    cases hr with
    | nil=>exact absurd rfl hnn
    | @row L g b1 b2 b3=>exact ⟨g,rfl,b1,b2,b3⟩
  | succ j =>
    have hlt:i < ys.length:=by omega
    have hlt':(i:Int) < ys.length:=by omega
    have hx1:(ys.map Ins.avs)[i]? = some ys[i].avs:=by simp [hlt]
    have hts:(ys.map (VM.shI xs.length)).take (i+1)=(ys.map (VM.shI xs.length)).take i ++ [VM.shI xs.length ys[i]]:=by rw [List.take_succ_eq_append_getElem (by simpa using hlt),List.getElem_map]
    have hjy:=hj ys[i] (List.getElem_mem hlt)
    have hw2:IntKind.i64.wrap ((i:Int)+1)=(i:Int)+1:=i64w (by omega)
    have hal:∀ k:AV→Prop,LNL a k=k (.int .i64 xs.length):=fun k=>by rw [ha.len,List.length_map]
    have hlen:(xs ++ (ys.map (VM.shI xs.length)).take i).length=xs.length+i:=by simp; omega
    have hbk:24*(xs.length+i+1)≤140737488355328:=by omega
    unfold zgx
    simp only [zwr,zwq,zwp,zacd,zacc,zuj,hlt',decide_true,zaeq]
    refine (hb.keep hk hn).ld (hl3 ys) hx1 ?_
    generalize ys[i]=y at *
    obtain ⟨op,ia,ib⟩:=y
    simp only at hjy
    have fin:∀ (q:Ins) (Hx:Heap) (t nt:Nat) (kk:QT),q=VM.shI xs.length ⟨op,ia,ib⟩→(∀ y,y < n'→Hx y=H' y)→n'≤nt→Hx t=some (.row 3 q.avs)→(∀ B2 H2 m2,RowS Ins.avs 3 H2 n m2 (xs ++ (ys.map (VM.shI xs.length)).take (i+1)) B2→n≤m2→(∀ y,y < n→H2 y=H y)→B2 ≠ .nils→kk B2 H2 m2)→APP 3 24 B' (.slc t 0 1) Hx nt kk:=by
      intro q Hx t nt kk hq1 hq2 hq3 hq4 hq5
      refine (hr.keep hq3 fun y _ h2=>hq2 y h2).app (l2:=[q]) (fun _=>rfl) zfv (zro rfl hq4) (by rw [hlen]; simp; omega) (by omega) fun B2 H2 m2 r2 hm2 k2 o2 n2 => ?_
      refine hq5 B2 H2 m2 ?_ (by omega) (fun y hy => ?_) (n2 hnn)
      · rw [hts,← List.append_assoc,← hq1]
        exact r2
      · rw [k2 y (by omega) ?_,hq2 y (by omega)]
        · exact hk y hy
        · intro ho
          have:=hr.bo y ho
          omega
    by_cases h15:op=15
    · subst h15
      have hj1:=hjy (.inl rfl)
      have hw1:IntKind.i64.wrap (ia+(xs.length:Int))=ia+xs.length:=i64w (by omega)
      simp [Ins.avs,hal,hw1]
      refine fin ⟨15,ia+xs.length,ib⟩ _ _ _ _ (by rw [VM.shI,if_pos (.inl rfl)]) (fun y hy=>by rw [Heap.put_ne _ _ (by omega),Heap.put_ne _ _ (by omega)]) (by omega) (Heap.put_at _ _ _) fun B2 H2 m2 r2 hm2 k2 n2 => ?_
      simp [hw2]
      exact ⟨j,by omega,i+1,by omega,B2,by simp,k2,hm2,r2,n2⟩
    · by_cases h16:op=16
      · subst h16
        have hj1:=hjy (.inr rfl)
        have hw1:IntKind.i64.wrap (ia+(xs.length:Int))=ia+xs.length:=i64w (by omega)
        simp [Ins.avs,hal,hw1]
        refine fin ⟨16,ia+xs.length,ib⟩ _ _ _ _ (by rw [VM.shI,if_pos (.inr rfl)]) (fun y hy=>by rw [Heap.put_ne _ _ (by omega),Heap.put_ne _ _ (by omega)]) (by omega) (Heap.put_at _ _ _) fun B2 H2 m2 r2 hm2 k2 n2 => ?_
        simp [hw2]
        exact ⟨j,by omega,i+1,by omega,B2,by simp,k2,hm2,r2,n2⟩
      · simp [Ins.avs,hal,h15,h16]
        refine fin ⟨op,ia,ib⟩ _ _ _ _ (by rw [VM.shI_no ⟨h15,h16⟩]) (fun y hy=>by rw [Heap.put_ne _ _ (by omega),Heap.put_ne _ _ (by omega)]) (by omega) (Heap.put_at _ _ _) fun B2 H2 m2 r2 hm2 k2 n2 => ?_
        simp [hw2]
        exact ⟨j,by omega,i+1,by omega,B2,by simp,k2,hm2,r2,n2⟩
theorem zm.join {xs ys:List Ins} {a b:AV} {H:Heap} {n:Nat} {kt:Kt} (rd:List Nat) (hrd:∀ g∈rd,(H g).isSome=true) (hl:∀ g∈rd,g < n) (ha:∀ H' n',(∀ g∈rd,H' g=H g∧g < n')→zac H' n' 3 (xs.map Ins.avs) a) (hb:∀ H' n',(∀ g∈rd,H' g=H g∧g < n')→zac H' n' 3 (ys.map Ins.avs) b) (hx:xs.length≤4294967296) (hy:ys.length≤4294967296) (hj:∀ i∈ys,i.op=15∨i.op=16→0≤i.a∧i.a≤4294967296)
    (hk:kt (.slc n 0 (zaa xs ys).length) rd [n] [(n,some (.row 3 ((zaa xs ys).map Ins.avs).flatten))]):zm Tryd.prog (.clo 59 []) [a,b] H n kt:=by
  refine ⟨_,rd,[n],_,.inr (.inl rfl),LC.of_calls1 (g0:=n) hrd (by simp) fun H1 n1 hag => ?_,hk⟩
  refine (zaaq (ha H1 n1 hag) (hb H1 n1 hag) hx hy hj).mono fun v H' n' ⟨⟨g,e,h1,h2,h3⟩,hk⟩ => ?_
  subst e
  refine ⟨g,h1,h2,.slc _ _,fun y hy _=>hk y hy,fun y o hy hne => ?_,.row 3 ((zaa xs ys).map Ins.avs).flatten,.row 3 ((zaa xs ys).map Ins.avs).flatten,by simp only [zas,zbe,Heap.put_at],h3,rfl,rfl,fun j v u hv hu => ?_⟩
  · simp at hy; exact absurd hy hne
  · rw [hv] at hu
    cases hu
    obtain ⟨x,hx,hc⟩:=List.mem_flatten.1 (List.mem_of_getElem? hv)
    obtain ⟨y,_,rfl⟩:=List.mem_map.1 hx
    exact .same _ (zuk _ y v hc)
end Go.Proofs.YtpllgpgdcbgalaaDoor
set_option maxRecDepth 8000
namespace Go.Proofs.YtpllgpgdcbgalaaDoor
open Go Go.RowKit
theorem znb {s:Str}:∀ {l:List Str} {i:Nat} (h:i < l.length),s∉l.take i→s=l[i]→l.idxOf s=i
  | [],i,h,_,_=>absurd h (by simp)
  | x :: r,0,_,_,e=>by
    subst e
    simp
  | x :: r,i+1,h,hno,e=>by
    rw [List.take_succ_cons,List.mem_cons,not_or] at hno
    have hb:(x == s)=false:=by simpa using fun h=>hno.1 h.symm
    rw [List.idxOf_cons,hb,znb (l:=r) (by simpa using h) hno.2 e]
    rfl
theorem zqj {s:Str}:∀ {l:List Str},s∉l→l.idxOf s=l.length
  | [],_=>rfl
  | x :: r,h=>by
    rw [List.mem_cons,not_or] at h
    have hb:(x == s)=false:=by simpa using fun e=>h.1 e.symm
    rw [List.idxOf_cons,hb,zqj h.2]
    rfl
theorem zaem (l:List Str) (s:Str) (hl:l.length≤4611686018427387904):QC Tryd.prog 70 [.ro (l.map strC),.str s] (.int .i64 (VM.idx l s)):=by
  intro H n
  refine zfz _ _ _ _ _ ?_
  simp [zcu]
  refine LP.mk (fun m xs H' n'=>∃ i:Nat,i≤l.length∧m=l.length - i∧xs=[.ro (l.map strC),.str s,.int .i64 l.length,.int .i64 i]∧H'=H∧n'=n∧s∉l.take i) l.length ⟨0,by omega,by omega,rfl,rfl,rfl,by simp⟩ ?_
  rintro m xs H' n' ⟨i,hi,rfl,rfl,rfl,rfl,hno⟩
  by_cases h:i < l.length
  · have hx:l[i]? = some l[i]:=List.getElem?_eq_getElem h
    have hi':(i:Int) < l.length:=by omega
    by_cases e:s=l[i]
    · have hq:VM.idx l s=i:=by unfold VM.idx; rw [if_pos (e ▸ List.getElem_mem h),znb h hno e]
      simp [zaq,h,strC,← e,hq]
    · have hw:IntKind.i64.wrap ((i:Int)+1)=(i:Int)+1:=i64w (by omega)
      simp [zaq,h,strC,e,hw]
      refine ⟨l.length - (i+1),by omega,i+1,by omega,rfl,by simp,?_⟩
      have hts:l.take (i+1)=l.take i ++ [l[i]]:=List.take_succ_eq_append_getElem _
      intro hm
      rw [hts,List.mem_append,List.mem_singleton] at hm
      exact hm.elim hno e
  · have e:i=l.length:=by omega
    subst e
    rw [List.take_length] at hno
    have hq:VM.idx l s = -1:=by unfold VM.idx; rw [if_neg hno]
    simp [zaq,hq]
structure MkM (gk:Nat) (fns:List Fnc) (vars high:Nat) (ws:List Str) (A:AV) (out:List Ins) (B:AV) (H:Heap) (m:Nat):Prop where
  row:H gk=some (.row 5 [.ro (fns.map Fnc.avs),A,.int .i64 vars,.int .i64 high,B])
  wr:RowS strC 1 H (gk+1) m ws A
  ir:RowS Ins.avs 3 H (gk+1) m out B
  far:∀ y∈owns A,y∉owns B
  gn:gk < m
structure MExt (gk:Nat) (A B:AV) (H:Heap) (m:Nat) (A' B':AV) (H':Heap) (m':Nat):Prop where
  le:m≤m'
  keep:∀ y,y < m→y ≠ gk→y∉owns A→y∉owns B→H' y=H y
  ownA:∀ y∈owns A',y∈owns A∨m≤y
  ownB:∀ y∈owns B',y∈owns B∨m≤y
theorem MExt.refl (gk:Nat) (A B:AV) (H:Heap) (m:Nat):MExt gk A B H m A B H m:=⟨Nat.le_refl _,fun _ _ _ _ _=>rfl,fun _ h=>.inl h,fun _ h=>.inl h⟩
theorem MExt.trans {gk m1 m2 m3:Nat} {A1 B1 A2 B2 A3 B3:AV} {H1 H2 H3:Heap} (h:MExt gk A1 B1 H1 m1 A2 B2 H2 m2) (k:MExt gk A2 B2 H2 m2 A3 B3 H3 m3):MExt gk A1 B1 H1 m1 A3 B3 H3 m3:=by
  have h1:=h.le
  have h2:=k.le
  refine ⟨by omega,fun y hy hne hA hB => ?_,fun y hy => ?_,fun y hy => ?_⟩
  · rw [k.keep y (by omega) hne (fun hy2=>(h.ownA y hy2).elim hA (by omega)) (fun hy2=>(h.ownB y hy2).elim hB (by omega))]
    exact h.keep y hy hne hA hB
  · rcases k.ownA y hy with h3 | h3
    · exact h.ownA y h3
    · exact .inr (by omega)
  · rcases k.ownB y hy with h3 | h3
    · exact h.ownB y h3
    · exact .inr (by omega)
inductive Chn (R:Nat→Prop) (H:Heap):VM.Env→AV→Prop
  | nil:Chn R H [] .nilp
  | node {g n:Nat} {t:Str} {env:VM.Env} {a:AV}:R g→H g=some (.row 3 [.str t,.int .i64 n,a])→Chn R H env a→Chn R H ((t,n) :: env) (.ptr g 0)
theorem Chn.mono {R R':Nat→Prop} {H H':Heap} {env:VM.Env} {a:AV} (h:Chn R H env a) (hr:∀ g,R g→R' g∧H' g=H g):Chn R' H' env a:=by
  induction h with
  | nil=>exact .nil
  | node h1 h2 _ ih=>exact .node (hr _ h1).1 (by rw [(hr _ h1).2]; exact h2) ih
def Off (gk:Nat) (A B:AV) (m g:Nat):Prop:=g < m∧g ≠ gk∧g∉owns A∧g∉owns B
theorem MExt.off {gk m m':Nat} {A B A' B':AV} {H H':Heap} (e:MExt gk A B H m A' B' H' m') {g:Nat} (h:Off gk A B m g):Off gk A' B' m' g∧H' g=H g:=by
  obtain ⟨h1,h2,h3,h4⟩:=h
  have:=e.le
  exact ⟨⟨by omega,h2,fun hy=>(e.ownA g hy).elim h3 (by omega),fun hy=>(e.ownB g hy).elim h4 (by omega)⟩,e.keep g h1 h2 h3 h4⟩
theorem Chn.ext {gk m m':Nat} {A B A' B':AV} {H H':Heap} {env:VM.Env} {a:AV} (h:Chn (Off gk A B m) H env a) (e:MExt gk A B H m A' B' H' m'):Chn (Off gk A' B' m') H' env a:=h.mono fun _ hg=>e.off hg
theorem zvx {R:Nat→Prop} {H:Heap} {env:VM.Env} {a:AV} {t:Str} {n:Nat} {Q:QT} (h:Chn R H env a) (hq:Q (.int .i64 (VM.look env t)) H n):za Tryd.prog 73 [a,.str t] H n Q:=by
  refine zme _ _ _ _ _ ?_
  unfold zhr
  refine LP.mk (fun j xs H' n'=>∃ env' a',env'.length=j∧xs=[a',.str t]∧H=H'∧n=n'∧Chn R H env' a'∧VM.look env t=VM.look env' t) env.length ⟨env,a,rfl,rfl,rfl,rfl,h,rfl⟩ ?_
  rintro j xs H' n' ⟨env',a',rfl,rfl,rfl,rfl,h',e⟩
  cases h' with
  | nil =>
    rw [e] at hq
    simp [zci]
    exact hq
  | @node g k u env' a' h1 h2 h3 =>
    by_cases hu:u=t
    · subst hu
      have:VM.look env u=k:=by rw [e]; unfold VM.look; rw [List.lookup_cons]; simp
      rw [this] at hq
      simp [zci,h2]
      exact hq
    · have hb:(t == u)=false:=by simpa using fun h=>hu h.symm
      have he:VM.look ((u,k) :: env') t=VM.look env' t:=by unfold VM.look; rw [List.lookup_cons,hb]
      simp [zci,h2,hu]
      exact ⟨env'.length,by omega,env',rfl,h3,by rw [e,he]⟩
set_option maxHeartbeats 1000000 in
theorem zabw {gk m vars high:Nat} {fns:List Fnc} {ws:List Str} {out:List Ins} {A B:AV} {H:Heap} {w:Str} {Q:QT} (h:MkM gk fns vars high ws A out B H m) (hw:ws.length≤4294967296)
    (hq:∀ A' H' m',MkM gk fns vars high (VM.addW ws w) A' out B H' m'→MExt gk A B H m A' B H' m'→Q (.int .i64 (ws.idxOf w:Nat)) H' m'):za Tryd.prog 82 [.ptr gk 0,.str w] H m Q:=by
  refine zmf _ _ _ _ _ ?_
  have row:=h.row
  have ra:=h.wr
  have rb:=h.ir
  have hgn:=h.gn
  have hfar:=h.far
  simp [zhs,row]
  refine (zaem ws w (by omega)).readsC (by simp) (.cons ra.arg.frzS (.cons (.same _ (.str _)) .nil)) ?_
  by_cases hin:w∈ws
  · have e:VM.addW ws w=ws:=by unfold VM.addW; rw [if_pos hin]
    have ei:VM.idx ws w=(ws.idxOf w:Nat):=by unfold VM.idx; rw [if_pos hin]
    have e0:¬ ((ws.idxOf w:Nat):Int) < 0:=by omega
    rw [e] at hq
    rw [ei]
    simp [zcj,e0]
    exact hq A H m h (MExt.refl _ _ _ _ _)
  · have e : VM.addW ws w=ws ++ [w]:=by unfold VM.addW; rw [if_neg hin]
    have ei:VM.idx ws w = -1:=by unfold VM.idx; rw [if_neg hin]
    have el:ws.idxOf w=ws.length:=zqj hin
    rw [e,el] at hq
    rw [ei]
    cases ra with
    | nil =>
      have ne_0:gk ≠ m∧m ≠ gk∧gk ≠ m+1∧m+1 ≠ gk:=⟨by omega,by omega,by omega,by omega⟩
      simp [zcj,row,ne_0]
      refine hq _ _ _ ⟨Heap.put_at _ _ _,?_,rb.keep (by omega) fun y h1 h2 => ?_,fun y hy hy2 => ?_,by omega⟩ ⟨by omega,fun y hy hne _ _ => ?_,fun y hy => ?_,fun y hy=>.inl hy⟩
      · exact RowS.row (l:=[w]) (by omega) (by omega) (by rw [Heap.put_ne _ _ (by omega),Heap.put_at]; rfl)
      · rw [Heap.put_ne _ _ (by omega),Heap.put_ne _ _ (by omega),Heap.put_ne _ _ (by omega)]
      · simp [owns] at hy
        subst hy
        cases rb with
        | nil=>simp [owns] at hy2
        | row b1 b2 b3=>simp [owns] at hy2; omega
      · rw [Heap.put_ne _ _ hne,Heap.put_ne _ _ (by omega),Heap.put_ne _ _ (by omega)]
      · simp [owns] at hy; exact .inr (by omega)
    | @row ws ga a1 a2 a3 =>
      have rl:=zap (f:=strC) (sz:=1) (fun _=>rfl) ws
      have h1:(ws.length+1)*16≤140737488355328:=by omega
      generalize hrr:(ws.map strC).flatten=rr at rl a3
      have h3:rr.take ws.length=rr:=List.take_of_length_le (by omega)
      have ne_1:gk ≠ ga∧ga ≠ gk∧gk ≠ m∧m ≠ gk∧gk ≠ m+1∧m+1 ≠ gk∧ga ≠ m∧m ≠ ga∧ga ≠ m+1∧m+1 ≠ ga:=⟨by omega,by omega,by omega,by omega,by omega,by omega,by omega,by omega,by omega,by omega⟩
      simp [zcj,row,a3,rl,h1,h3,ne_1]
      refine hq _ _ _ ⟨Heap.put_at _ _ _,?_,?_,fun y hy hy2 => ?_,by omega⟩ ⟨by omega,fun y hy hne hA _ => ?_,fun y hy => ?_,fun y hy=>.inl hy⟩
      · have:=RowS.row (f:=strC) (sz:=1) (H:=(((H.put m (some (.row 1 [.str w]))).put ga none).put (m+1) (some (.row 1 (rr ++ [.str w])))).put gk (some (.row 5 [.ro (fns.map Fnc.avs),.slc (m+1) 0 (ws.length+1),.int .i64 vars,.int .i64 high,B]))) (lo:=gk+1) (hi:=m+1+1) (l:=ws ++ [w]) (ga:=m+1) (by omega) (by omega) (by rw [Heap.put_ne _ _ (by omega),Heap.put_at,zbu,hrr]; rfl)
        rw [List.length_append] at this
        exact this
      · cases rb with
        | nil=>exact .nil
        | @row l gb b1 b2 b3 =>
          have hab:gb ≠ ga:=fun e=>hfar ga (by simp [owns]) (by simp [owns,e])
          exact .row b1 (by omega) (by rw [Heap.put_ne _ _ (by omega),Heap.put_ne _ _ (by omega),Heap.put_ne _ _ hab,Heap.put_ne _ _ (by omega)]; exact b3)
      · simp [owns] at hy
        subst hy
        cases rb with
        | nil=>simp [owns] at hy2
        | row b1 b2 b3=>simp [owns] at hy2; omega
      · simp [owns] at hA
        rw [Heap.put_ne _ _ hne,Heap.put_ne _ _ (by omega),Heap.put_ne _ _ hA,Heap.put_ne _ _ (by omega)]
      · simp [owns] at hy; exact .inr (by omega)
end Go.Proofs.YtpllgpgdcbgalaaDoor
set_option maxRecDepth 8000
namespace Go.Proofs.YtpllgpgdcbgalaaDoor
open Go Go.RowKit
structure RMk (gk:Nat) (fns:List Fnc) (ws:List Str) (vars:Nat) (A:AV) (H:Heap) (m:Nat):Prop where
  row:H gk=some (.row 3 [.ro (fns.map Fnc.avs),A,.int .i64 vars])
  wr:RowS strC 1 H (gk+1) m ws A
  gn:gk < m
structure RX (gk:Nat) (ws:List Str) (A:AV) (H:Heap) (m:Nat) (ws':List Str) (A':AV) (H':Heap) (m':Nat):Prop where
  le:m≤m'
  keep:∀ y,y < m→y ≠ gk→y∉owns A→H' y=H y
  how:(ws'=ws∧A'=A∧∀ y∈owns A,H' y=H y)∨(ws.length < ws'.length∧∃ g,A'=.slc g 0 ws'.length∧m≤g)
theorem RX.old {gk:Nat} {ws:List Str} {A:AV} {H H':Heap} {m m':Nat} (h1:m≤m') (h2:∀ y,y < m→y ≠ gk→H' y=H y) (h3:∀ y∈owns A,y < m∧y ≠ gk):RX gk ws A H m ws A H' m' :=
  ⟨h1,fun y a b _=>h2 y a b,.inl ⟨rfl,rfl,fun y hy=>h2 y (h3 y hy).1 (h3 y hy).2⟩⟩
theorem RX.trans {gk m0 m2 m3:Nat} {ws1 ws2 ws3:List Str} {A1 A2 A3:AV} {H1 H2 H3:Heap} (h:RX gk ws1 A1 H1 m0 ws2 A2 H2 m2) (k:RX gk ws2 A2 H2 m0 ws3 A3 H3 m3):RX gk ws1 A1 H1 m0 ws3 A3 H3 m3:=by
  have h1:=h.le
  have h2:=k.le
  refine ⟨by omega,fun y hy hne hn => ?_,?_⟩
  · have:y∉owns A2:=by
      rcases h.how with ⟨_,rfl,_⟩ | ⟨_,g,rfl,hg⟩
      · exact hn
      · simp [owns]; omega
    rw [k.keep y (by omega) hne this,h.keep y hy hne hn]
  · rcases h.how with ⟨rfl,rfl,e1⟩ | ⟨l1,g1,rfl,g2⟩
    · rcases k.how with ⟨rfl,rfl,e2⟩ | ⟨l2,g,rfl,g3⟩
      · exact .inl ⟨rfl,rfl,fun y hy=>(e2 y hy).trans (e1 y hy)⟩
      · exact .inr ⟨l2,g,rfl,by omega⟩
    · rcases k.how with ⟨rfl,rfl,e2⟩ | ⟨l2,g,rfl,g3⟩
      · exact .inr ⟨l1,g1,rfl,g2⟩
      · exact .inr ⟨by omega,g,rfl,by omega⟩
theorem RX.low {gk m0 m m':Nat} {ws ws':List Str} {A A':AV} {H H':Heap} (h:RX gk ws A H m ws' A' H' m') (hm:m0≤m):RX gk ws A H m0 ws' A' H' m':=by
  have:=h.le
  refine ⟨by omega,fun y hy=>h.keep y (by omega),?_⟩
  rcases h.how with h | ⟨l,g,e,hg⟩
  · exact .inl h
  · exact .inr ⟨l,g,e,by omega⟩
theorem RMk.own {gk:Nat} {fns:List Fnc} {ws:List Str} {vars:Nat} {A:AV} {H:Heap} {m:Nat} (h:RMk gk fns ws vars A H m):∀ y∈owns A,gk < y∧y < m:=by
  have:=h.wr
  cases this with
  | nil=>intro y hy; simp [owns] at hy
  | row a b c=>intro y hy; simp [owns] at hy; omega
theorem RMk.refl {gk:Nat} {fns:List Fnc} {ws:List Str} {vars:Nat} {A:AV} {H:Heap} {m:Nat} (_:RMk gk fns ws vars A H m):RX gk ws A H m ws A H m:=⟨Nat.le_refl _,fun _ _ _ _=>rfl,.inl ⟨rfl,rfl,fun _ _=>rfl⟩⟩
theorem RMk.more {gk:Nat} {fns:List Fnc} {ws:List Str} {vars:Nat} {A:AV} {H H':Heap} {m m':Nat} (h:RMk gk fns ws vars A H m) (hm:m≤m') (hk:∀ y,y=gk∨y∈owns A→H' y=H y):RMk gk fns ws vars A H' m':=by
  have hgn:=h.gn
  exact ⟨by rw [hk gk (.inl rfl)]; exact h.row,h.wr.keepO hm fun y hy=>hk y (.inr hy),by omega⟩
def zal (l:List (Str×Nat)):List (AV×AV):=l.map fun p=>(.str p.1,.int .i64 p.2)
structure MapE (H:Heap) (ga:Nat) (l:List (Str×Nat)) (env:VM.Env):Prop where
  at_:H ga=some (.mp (zal l))
  nd:(l.map (·.1)).Nodup
  look:∀ t,(l.lookup t).getD 0=VM.look env t
structure Ed (gk ga:Nat) (fns:List Fnc) (env:VM.Env) (ws:List Str) (vars:Nat) (A:AV) (H:Heap) (m:Nat):Prop where
  rm:RMk gk fns ws vars A H m
  me:∃ l,MapE H ga l env
  lt:ga < m
  nk:ga ≠ gk
  no:ga∉owns A
theorem Ed.ext {gk ga:Nat} {fns:List Fnc} {env:VM.Env} {ws ws':List Str} {vars vars':Nat} {A A':AV} {H H':Heap} {m m':Nat} (h:Ed gk ga fns env ws vars A H m) (r:RMk gk fns ws' vars' A' H' m') (e:RX gk ws A H m ws' A' H' m'):Ed gk ga fns env ws' vars' A' H' m':=by
  have hle:=e.le
  have hlt:=h.lt
  have hk:=e.keep ga h.lt h.nk h.no
  obtain ⟨l,a,b,c⟩:=h.me
  refine ⟨r,⟨l,by rw [hk]; exact a,b,c⟩,by omega,h.nk,?_⟩
  rcases e.how with ⟨_,rfl,_⟩ | ⟨_,g,rfl,hg⟩
  · exact h.no
  · simp [owns]; omega
theorem Ed.new {gk ga:Nat} {fns:List Fnc} {env:VM.Env} {ws:List Str} {vars:Nat} {A:AV} {H H':Heap} {m m':Nat} (h:Ed gk ga fns env ws vars A H m) (hm:m≤m') (hk:∀ y,y < m→H' y=H y):Ed gk ga fns env ws vars A H' m'∧RX gk ws A H m ws A H' m':=by
  have ho:=h.rm.own
  have hgn:=h.rm.gn
  have e:RX gk ws A H m ws A H' m':=RX.old hm (fun y hy _=>hk y hy) fun y hy=>⟨(ho y hy).2,by have:=(ho y hy).1; omega⟩
  exact ⟨h.ext (h.rm.more hm fun y hy=>hk y (by rcases hy with rfl | hy; exact hgn; exact (ho y hy).2)) e,e⟩
theorem MapE.find {H:Heap} {ga:Nat} {l:List (Str×Nat)} {env:VM.Env} (h:MapE H ga l env) (t:Str):∃ r,zah (.str t) (zal l)=some r∧(match r with | some (_,v)=>v | none=>AV.int .i64 0)=.int .i64 (VM.look env t:Nat):=by
  obtain ⟨r,h1,h2⟩:=zjo t l
  refine ⟨r,h1,?_⟩
  rw [← h.look t]
  cases r with
  | none=>simp only at h2; rw [h2]; rfl
  | some p=>exact h2.2
theorem zaeb {ws:List Str} {t:Str} (h:t∈ws):VM.addW ws t=ws:=by unfold VM.addW; rw [if_pos h]
theorem zaea {ws:List Str} {t:Str} (h:t∉ws):VM.addW ws t=ws ++ [t]:=by unfold VM.addW; rw [if_neg h]
structure PcS (gk ga m0:Nat) (fns:List Fnc) (env:VM.Env) (ws0:List Str) (A0:AV) (H0:Heap) (out:List Ins) (ws:List Str) (vars:Nat) (A B:AV) (H:Heap) (m:Nat):Prop where
  ed:Ed gk ga fns env ws vars A H m
  rx:RX gk ws0 A0 H0 m0 ws A H m
  rb:RowS Ins.avs 3 H m0 m out B
  ab:∀ y∈owns B,y∉owns A
  lo:gk < m0
  la:ga < m0
section
variable {gk ga m0:Nat} {fns:List Fnc} {env:VM.Env} {ws0:List Str} {A0:AV} {H0:Heap} {out:List Ins} {ws:List Str} {vars:Nat} {A B:AV} {H:Heap} {m:Nat}
theorem PcS.bo (h:PcS gk ga m0 fns env ws0 A0 H0 out ws vars A B H m):∀ y∈owns B,m0≤y∧y < m:=by
  have:=h.rb
  cases this with
  | nil=>intro y hy; simp [owns] at hy
  | row a b c=>intro y hy; simp [owns] at hy; omega
theorem PcS.call (h:PcS gk ga m0 fns env ws0 A0 H0 out ws vars A B H m) {ws':List Str} {vars':Nat} {A':AV} {H':Heap} {m':Nat} (r:RMk gk fns ws' vars' A' H' m') (e:RX gk ws A H m ws' A' H' m'):PcS gk ga m0 fns env ws0 A0 H0 out ws' vars' A' B H' m':=by
  have hb:=h.bo
  have hlo:=h.lo
  have hle:=h.rx.le
  have hgn:=h.ed.rm.gn
  refine ⟨h.ed.ext r e,h.rx.trans (e.low (by omega)),h.rb.keepO e.le fun y hy=>e.keep y (hb y hy).2 (by have:=hb y hy; omega) (h.ab y hy),fun y hy => ?_,h.lo,h.la⟩
  rcases e.how with ⟨_,rfl,_⟩ | ⟨_,g,rfl,hg⟩
  · exact h.ab y hy
  · have:=hb y hy
    simp [owns]; omega
theorem PcS.new (h:PcS gk ga m0 fns env ws0 A0 H0 out ws vars A B H m) {H':Heap} {m':Nat} (hm:m≤m') (hk:∀ y,y < m→H' y=H y):PcS gk ga m0 fns env ws0 A0 H0 out ws vars A B H' m':=by
  obtain ⟨a,b⟩:=h.ed.new hm hk
  exact h.call a.rm b
theorem PcS.set (h:PcS gk ga m0 fns env ws0 A0 H0 out ws vars A B H m) {g:Nat} (o:Option AObj) (hg:m0≤g) (hA:g∉owns A) (hB:g∉owns B):PcS gk ga m0 fns env ws0 A0 H0 out ws vars A B (H.put g o) m:=by
  have hlo:=h.lo
  have hla:=h.la
  have ho:=h.ed.rm.own
  have hk:∀ y,y ≠ g→(H.put g o) y=H y:=fun y hy=>Heap.put_ne _ _ hy
  have hAy:∀ y∈owns A,(H.put g o) y=H y:=fun y hy=>hk y fun e=>hA (e ▸ hy)
  have r:=h.ed.rm.more (H':=H.put g o) (Nat.le_refl _) fun y hy=>by
    rcases hy with rfl | hy
    · exact hk _ (by omega)
    · exact hAy y hy
  have e:RX gk ws A H m0 ws A (H.put g o) m:=⟨h.rx.le,fun y hy _ _=>hk y (by omega),.inl ⟨rfl,rfl,hAy⟩⟩
  obtain ⟨l,me⟩:=h.ed.me
  exact ⟨⟨r,⟨l,by rw [hk _ (by omega)]; exact me.at_,me.nd,me.look⟩,h.ed.lt,h.ed.nk,h.ed.no⟩,h.rx.trans e,h.rb.keepO (Nat.le_refl _) fun y hy=>hk y fun e=>hB (e ▸ hy),h.ab,h.lo,h.la⟩
theorem PcS.app (h:PcS gk ga m0 fns env ws0 A0 H0 out ws vars A B H m) {x:AV} {l2:List Ins} {rd:List Nat} {kk:AV→Heap→Nat→Prop} (hs:zh 3 H x=some (l2.length,(l2.map Ins.avs).flatten,rd)) (hb:out.length+l2.length≤4294967296)
    (hk:∀ B' H' m',PcS gk ga m0 fns env ws0 A0 H0 (out ++ l2) ws vars A B' H' m'→m≤m'→(∀ y,y < m→y∉owns B→H' y=H y)→(∀ y∈owns B',y∈owns B∨m≤y)→kk B' H' m'):APP 3 24 B x H m kk:=by
  have hlo:=h.lo
  have hla:=h.la
  have hle:=h.rx.le
  have ho:=h.ed.rm.own
  have hb0:=h.bo
  refine h.rb.app (fun _=>rfl) zfv hs (by omega) hle fun B' H' m' r hm k o _ => ?_
  have kA:∀ y∈owns A,H' y=H y:=fun y hy=>k y (ho y hy).2 fun hB=>h.ab y hB hy
  have nb:∀ y,y < m0→y∉owns B:=fun y hy hB=>by have:=hb0 y hB; omega
  have r':=h.ed.rm.more (H':=H') hm fun y hy=>by
    rcases hy with rfl | hy
    · exact k _ (by omega) (nb _ hlo)
    · exact kA y hy
  have e:RX gk ws A H m0 ws A H' m':=⟨by omega,fun y hy _ _=>k y (by omega) (nb y hy),.inl ⟨rfl,rfl,kA⟩⟩
  obtain ⟨l,me⟩:=h.ed.me
  have hlt:=h.ed.lt
  refine hk B' H' m' ⟨⟨r',⟨l,by rw [k _ hlt (nb _ hla)]; exact me.at_,me.nd,me.look⟩,by omega,h.ed.nk,h.ed.no⟩,h.rx.trans e,r,fun y hy hA => ?_,h.lo,h.la⟩ hm k o
  rcases o y hy with h1 | h1
  · exact h.ab y h1 hA
  · have:=ho y hA; omega
theorem PcS.one (h:PcS gk ga m0 fns env ws0 A0 H0 out ws vars A B H m) {t:Nat} {i:Ins} {cs:List AV} {kk:AV→Heap→Nat→Prop} (ht:H t=some (.row 3 cs)) (hc:cs=i.avs) (hb:out.length < 4294967296)
    (hk:∀ B' H' m',PcS gk ga m0 fns env ws0 A0 H0 (out ++ [i]) ws vars A B' H' m'→m≤m'→kk B' H' m'):APP 3 24 B (.slc t 0 1) H m kk:=by
  subst hc
  exact h.app (l2:=[i]) (zro rfl ht) (by simp; omega) fun B' H' m' p hm _ _=>hk B' H' m' p hm
end
theorem zsb (ws:List Str):(ws.map strC).flatten=ws.map AV.str:=by
  induction ws with
  | nil=>rfl
  | cons w r ih=>simp only [List.map_cons,List.flatten_cons,ih]; rfl
set_option maxHeartbeats 2000000 in
theorem zzz {gk ga m0 ge gi:Nat} {fns:List Fnc} {env:VM.Env} {ws0:List Str} {A0:AV} {H0:Heap} {out:List Ins} {ws:List Str} {vars:Nat} {A B:AV} {H:Heap} {m:Nat} {k z:Int} {t:Str} {ar:AV} {Q:QT} (h:PcS gk ga m0 fns env ws0 A0 H0 out ws vars A B H m)
    (hge:H ge=some (.row 4 [.int .i64 k,.int .i64 z,.str t,ar])) (hgi:H gi=some (.row 3 [.int .i64 0,.int .i64 0,.int .i64 0])) (g1:m0≤ge∧ge < m) (g2:m0≤gi∧gi < m) (gA:ge∉owns A∧gi∉owns A) (gB:gi∉owns B) (gne:ge ≠ gi) (hw:ws.length≤4294967296) (ho:out.length < 4294967296)
    (hq:∀ A' B' H' m',PcS gk ga m0 fns env ws0 A0 H0 (out ++ [⟨2,(ws.idxOf t:Nat),0⟩]) (VM.addW ws t) vars A' B' H' m'→Q B' H' m'):LP (zbi Q) [.ptr gk 0,.ptr ge 0,B,.ptr gi 0,.int .i64 0] H m:=by
  have row:=h.ed.rm.row
  have hgn:=h.ed.rm.gn
  have hlo:=h.lo
  refine LP.mk (fun j xs H' m'=>∃ i:Nat,i+j=ws.length∧xs=[.ptr gk 0,.ptr ge 0,B,.ptr gi 0,.int .i64 i]∧H'=H∧m'=m∧t∉ws.take i) ws.length ⟨0,by omega,rfl,rfl,rfl,by simp⟩ ?_
  rintro j xs H' m' ⟨i,hij,rfl,rfl,rfl,hno⟩
  have hiw:IntKind.i64.wrap ((i:Int)+1)=(i:Int)+1:=i64w (by omega)
  -- it is there
  have found:t∈ws→ws.idxOf t=i→APP 3 24 B (.slc m' 0 1) ((H'.put gi (some (.row 3 [.int .i64 2,.int .i64 i,.int .i64 0]))).put m' (some (.row 3 [.int .i64 2,.int .i64 i,.int .i64 0]))) (m'+1) Q:=fun hin he=>by
    have p1:=(h.set (some (.row 3 [.int .i64 2,.int .i64 i,.int .i64 0])) g2.1 gA.2 gB).new (H':=(H'.put gi (some (.row 3 [.int .i64 2,.int .i64 i,.int .i64 0]))).put m' (some (.row 3 [.int .i64 2,.int .i64 i,.int .i64 0]))) (m':=m'+1) (by omega) fun y hy=>Heap.put_ne _ _ (by omega)
    refine p1.one (i:=⟨2,(i:Nat),0⟩) (Heap.put_at _ _ _) rfl ho fun B' H2 m2 p2 _ => ?_
    refine hq A B' H2 m2 ?_
    rw [zaeb hin,he]
    exact p2
  have hrx:=h.rx.le
  have gek:¬ ge=gk:=by omega
  have gik:¬ gi=gk:=by omega
  have gkm:¬ gk=m':=by omega
  have gem:¬ ge=m':=by omega
  have gim:¬ gi=m':=by omega
  have gem1:¬ ge=m'+1:=by omega
  have gim1:¬ gi=m'+1:=by omega
  have gkm1:¬ gk=m'+1:=by omega
  -- it is not there
  have more:t∉ws→i=ws.length→∀ (H2:Heap),H2 gk=some (.row 3 [.ro (fns.map Fnc.avs),.slc (m'+1) 0 (ws ++ [t]).length,.int .i64 vars])→H2 (m'+1)=some (.row 1 ((ws ++ [t]).map strC).flatten)→(∀ y,y < m'→y ≠ gk→y∉owns A→H2 y=H' y) →
      APP 3 24 B (.slc (m'+2) 0 1) ((H2.put gi (some (.row 3 [.int .i64 2,.int .i64 i,.int .i64 0]))).put (m'+2) (some (.row 3 [.int .i64 2,.int .i64 i,.int .i64 0]))) (m'+3) Q:=fun hn hi H2 q1 q2 q4=>by
    have eA:VM.addW ws t=ws ++ [t]:=zaea hn
    have r:RMk gk fns (ws ++ [t]) vars (.slc (m'+1) 0 (ws ++ [t]).length) H2 (m'+2):=⟨q1,.row (by omega) (by omega) q2,by omega⟩
    have e:RX gk ws A H' m' (ws ++ [t]) (.slc (m'+1) 0 (ws ++ [t]).length) H2 (m'+2):=⟨by omega,q4,.inr ⟨by simp,m'+1,rfl,by omega⟩⟩
    have p0:=h.call r e
    have p1:=(p0.set (g:=gi) (some (.row 3 [.int .i64 2,.int .i64 i,.int .i64 0])) g2.1 (by simp [owns]; omega) gB).new (H':=(H2.put gi (some (.row 3 [.int .i64 2,.int .i64 i,.int .i64 0]))).put (m'+2) (some (.row 3 [.int .i64 2,.int .i64 i,.int .i64 0]))) (m':=m'+3) (by omega) fun y hy=>Heap.put_ne _ _ (by omega)
    refine p1.one (i:=⟨2,(i:Nat),0⟩) (Heap.put_at _ _ _) rfl ho fun B' H3 m3 p2 _ => ?_
    refine hq (.slc (m'+1) 0 (ws ++ [t]).length) B' H3 m3 ?_
    rw [eA,zqj hn,← hi]
    exact p2
  have wr:=h.ed.rm.wr
  have hown:=h.ed.rm.own
  cases wr with
  | nil =>
    obtain rfl:i=0:=by simp at hij; omega
    simp [zbi,row,hge,hgi,gkm,gim,gim1,gkm1,gik]
    exact ⟨by omega,more (by simp) rfl _ (Heap.put_at _ _ _) (by rw [Heap.put_ne _ _ (by omega),Heap.put_at]; rfl) fun y h1 h2 _=>by rw [Heap.put_ne _ _ h2,Heap.put_ne _ _ (by omega),Heap.put_ne _ _ (by omega)]⟩
  | @row ws gw a1 a2 a3 =>
    have hflat:=zsb ws
    have gwm:¬ gw=m':=by omega
    have gwk:¬ gw=gk:=by omega
    have gkw:¬ gk=gw:=by omega
    have hgA:=gA
    simp [owns] at hgA
    obtain ⟨ge_w,gi_w⟩:=hgA
    by_cases hlt:i < ws.length
    · have hx:ws[i]? = some ws[i]:=List.getElem?_eq_getElem hlt
      rw [hflat] at a3
      by_cases he:ws[i]=t
      · have hin:t∈ws:=he ▸ List.getElem_mem hlt
        have hio:=znb hlt hno he.symm
        have hne:¬ (i:Int)=ws.length:=by omega
        have:=found hin hio
        simp [zbi,row,a3,hlt,he,hge,hgi,hne]
        exact this
      · simp [zbi,row,a3,hlt,he,hge,hiw]
        refine ⟨j - 1,by omega,i+1,by omega,by simp,?_⟩
        have hts:ws.take (i+1)=ws.take i ++ [ws[i]]:=List.take_succ_eq_append_getElem _
        rw [hts,List.mem_append,List.mem_singleton,not_or]
        exact ⟨hno,fun e=>he e.symm⟩
    · obtain rfl:i=ws.length:=by omega
      rw [List.take_length] at hno
      have hlen:(ws.map strC).flatten.length=ws.length:=by rw [hflat,List.length_map]
      have hsn:(List.map strC (ws ++ [t])).flatten=(ws.map strC).flatten ++ [.str t]:=by simp [strC]
      have hb:(ws.length+1)*16≤140737488355328:=by omega
      simp [zbi,row,a3,hge,hgi,gkm,gim,gim1,gkm1,gik,gwm,gkw,gi_w,hlen,hb]
      rw [List.take_of_length_le (by omega),← hsn,show ws.length+1=(ws ++ [t]).length by simp]
      exact ⟨by omega,more hno rfl _ (Heap.put_at _ _ _) (by rw [Heap.put_ne _ _ (by omega),Heap.put_at]) fun y h1 h2 h3=>by rw [Heap.put_ne _ _ h2,Heap.put_ne _ _ (by omega),Heap.put_ne _ _ (by simpa [owns] using h3),Heap.put_ne _ _ (by omega)]⟩
end Go.Proofs.YtpllgpgdcbgalaaDoor
set_option maxRecDepth 8000
namespace Go.Proofs.YtpllgpgdcbgalaaDoor
open Go Go.RowKit
def zrj (gk ga:Nat) (fns:List Fnc) (env:VM.Env) (x:Ex):Prop:=∀ (ws:List Str) (vars:Nat) (A:AV) (H:Heap) (m:Nat) (Q:QT),Ed gk ga fns env ws vars A H m→ws.length+VM.exW x≤4294967296 →
  (∀ A' H' m',RMk gk fns (VM.exI (fns.map (·.name)) env x ws).1 vars A' H' m'→RX gk ws A H m (VM.exI (fns.map (·.name)) env x ws).1 A' H' m'→Q (.ro ((VM.exI (fns.map (·.name)) env x ws).2.map Ins.avs)) H' m')→za Tryd.prog 57 [.ptr gk 0,.agg x.avs,.amap ga] H m Q
theorem PcS.done {gk ga m0:Nat} {fns:List Fnc} {env:VM.Env} {ws0:List Str} {A0:AV} {H0:Heap} {P:Program} {f:FuncId} {args:List AV} {out:List Ins} {ws:List Str} {vars:Nat} {Q:QT} (h:za P f args H0 m0 fun B H m=>∃ A,PcS gk ga m0 fns env ws0 A0 H0 out ws vars A B H m)
    (hq:∀ A' H' m',RMk gk fns ws vars A' H' m'→RX gk ws0 A0 H0 m0 ws A' H' m'→Q (.ro (out.map Ins.avs)) H' m'):za P f args H0 m0 Q:=by
  refine h.freeze (R:=Q) fun B H m ⟨A,p⟩ => ?_
  have hb:=p.bo
  have hlo:=p.lo
  have hk:∀ y,y∉owns B→(fun y=>if y∈owns B then none else H y) y=H y:=fun y hy=>if_neg hy
  refine ⟨.ro (out.map Ins.avs),fun y=>if y∈owns B then none else H y,(· ∈ owns B),hq A _ m (p.ed.rm.more (Nat.le_refl _) fun y hy=>hk y ?_) ⟨p.rx.le,fun y h1 h2 h3=>(hk y fun h=>by have:=hb y h; omega).trans (p.rx.keep y h1 h2 h3),?_⟩,?_,fun g o hg => ?_⟩
  · rcases hy with rfl | hy
    · exact fun h=>by have:=hb _ h; omega
    · exact fun h=>p.ab y h hy
  · rcases p.rx.how with ⟨e1,e2,e3⟩ | h
    · exact .inl ⟨e1,e2,fun y hy=>(hk y fun h=>p.ab y h (e2 ▸ hy)).trans (e3 y hy)⟩
    · exact .inr h
  · have := p.rb
    cases this with
    | nil=>exact .nils
    | @row out g a1 a2 a3 =>
      refine FrzP.row (cells:=(out.map Ins.avs).flatten) (sz:=3) (by simp [owns]) a3 (by simp) (fun x hx=>by obtain ⟨y,_,rfl⟩:=List.mem_map.1 hx; rfl) (fun i x j v hx hv => ?_) (by rw [zap (f:=Ins.avs) (sz:=3) (fun _=>rfl)]; exact Nat.le_refl _)
      have e1:=zpb (sz:=3) (fun x hx=>by obtain ⟨y,_,rfl⟩:=List.mem_map.1 hx; rfl) hx
      have hj:j < 3:=by
        have:x.length=3:=by obtain ⟨y,_,rfl⟩:=List.mem_map.1 (List.mem_of_getElem? hx); rfl
        rw [← this]; exact (List.getElem?_eq_some_iff.1 hv).1
      have e2:=congrArg (·[j]?) e1
      simp only [List.getElem?_take,List.getElem?_drop,hj,if_true] at e2
      exact ⟨v,by rw [e2]; exact hv,.same v⟩
  · by_cases h:g∈owns B
    · simp [h] at hg
    · rw [hk g h] at hg
      exact ⟨h,hg⟩
set_option maxHeartbeats 4000000 in
theorem zzw {gk ga:Nat} {fns:List Fnc} (hfl:fns.length≤4294967296) (hnd:(fns.map (·.name)).Nodup) {env:VM.Env} {k z:Int} {t:Str} {ar:List Ex} (hE:∀ x∈ar,zrj gk ga fns env x) (hok:1≤k∧k≤11) (hcall:k=11→t∈fns.map (·.name)):zrj gk ga fns env (.mk k z t ar):=by
  intro ws vars A H m Q h hw hq
  unfold VM.exW at hw
  unfold VM.exI at hq
  have hal:=VM.len_exWL ar
  generalize hnm:fns.map (·.name)=names at *
  refine PcS.done (ga:=ga) (env:=env) ?_ hq
  refine znt _ _ _ _ _ _ ?_
  rw [zho]
  simp [zkd]
  have hgn:=h.rm.gn
  have hown:=h.rm.own
  have hga:=h.lt
  obtain ⟨h1,e1⟩:=h.new (H':=H.put m (some (.row 4 [.int .i64 k,.int .i64 z,.str t,.ro (ar.map Ex.avs)]))) (m':=m+1) (by omega) fun y hy=>Heap.put_ne _ _ (by omega)
  have hpe:(H.put m (some (.row 4 [.int .i64 k,.int .i64 z,.str t,.ro (ar.map Ex.avs)]))) m=some (.row 4 [.int .i64 k,.int .i64 z,.str t,.ro (ar.map Ex.avs)]):=Heap.put_at _ _ _
  have p0:PcS gk ga m fns env ws A H [] ws vars A .nils (H.put m (some (.row 4 [.int .i64 k,.int .i64 z,.str t,.ro (ar.map Ex.avs)]))) (m+1):=⟨h1,e1,.nil,by simp [owns],hgn,hga⟩
  generalize H.put m (some (.row 4 [.int .i64 k,.int .i64 z,.str t,.ro (ar.map Ex.avs)]))=H1 at *
  refine LP.mk (fun j xs H' m'=>∃ (i:Nat) (ws':List Str) (out:List Ins) (A' B:AV),i+j=ar.length∧xs=[.ptr gk 0,.amap ga,.ptr m 0,B,.ro (ar.map Ex.avs),.int .i64 ar.length,.int .i64 i]∧PcS gk ga m fns env ws A H out ws' vars A' B H' m'∧H' m=some (.row 4 [.int .i64 k,.int .i64 z,.str t,.ro (ar.map Ex.avs)])∧m∉owns A'∧m∉owns B∧m < m'∧ws'.length+VM.exWL (ar.drop i)≤4294967296∧out.length+VM.exWL (ar.drop i)≤4294967295∧(VM.exIL names env ar ws).1=(VM.exIL names env (ar.drop i) ws').1∧(VM.exIL names env ar ws).2=out ++ (VM.exIL names env (ar.drop i) ws').2) ar.length
    ⟨0,ws,[],A,.nils,by omega,rfl,p0,hpe,fun hy=>by have:=hown m hy; omega,by simp [owns],by omega,by simp; omega,by simp; omega,by simp,by simp⟩ ?_
  rintro j xs H' m' ⟨i,ws',out,A',B,hij,rfl,p,hpm,hmA,hmB,hmm,hw1,hw2,he1,he2⟩
  cases j with
  | succ j =>
    have hlt:i < ar.length:=by omega
    have hdr:ar.drop i=ar[i] :: ar.drop (i+1):=List.drop_eq_getElem_cons hlt
    have hxl:=zbs ar[i]
    have hxt:ar[i].avs.take 4=ar[i].avs:=List.take_of_length_le (by omega)
    have hwi:IntKind.i64.wrap ((i:Int)+1)=(i:Int)+1:=i64w (by omega)
    rw [hdr] at hw1 hw2 he1 he2
    simp only [VM.exWL,VM.exIL] at hw1 hw2 he1 he2
    have hle:=VM.exI_le names env ar[i] ws'
    simp [zai,hlt,hxl,hxt]
    refine ⟨zfe _,?_⟩
    have p1:=p.new (H':=H'.put m' (some (.row 4 ar[i].avs))) (m':=m'+1) (by omega) fun y hy=>Heap.put_ne _ _ (by omega)
    refine hE ar[i] (List.getElem_mem hlt) ws' vars A' _ (m'+1) _ p1.ed (by omega) fun A2 H2 m2 r2 e2 => ?_
    rw [hnm] at r2 e2 ⊢
    have p2:=p1.call r2 e2
    have hpm2:H2 m=some (.row 4 [.int .i64 k,.int .i64 z,.str t,.ro (ar.map Ex.avs)]):=by rw [e2.keep m (by omega) (by omega) hmA,Heap.put_ne _ _ (by omega)]; exact hpm
    have hmA2:m∉owns A2:=by
      rcases e2.how with ⟨_,rfl,_⟩ | ⟨_,g,rfl,hg⟩
      · exact hmA
      · simp [owns]; omega
    have hle2:=e2.le
    simp [zke]
    refine p2.app (zvq (fun _=>rfl)) (by omega) fun B3 H3 m3 p3 hm3 k3 o3 => ?_
    simp [hwi]
    refine ⟨j,by omega,i+1,by omega,_,_,A2,B3,by simp,p3,(k3 m (by omega) hmB).trans hpm2,hmA2,fun hy => ?_,by omega,by omega,?_,he1,?_⟩
    · rcases o3 m hy with h | h
      · exact hmB h
      · omega
    · rw [List.length_append]; omega
    · rw [he2,List.append_assoc]
  | zero =>
    obtain rfl:i=ar.length:=by omega
    rw [List.drop_length] at he1 he2 hw2 hw1
    simp only [VM.exIL,List.append_nil,VM.exWL,Nat.add_zero] at he1 he2 hw1 hw2
    subst he2
    generalize hW:(VM.exIL names env ar ws).1=W at *
    generalize hO:(VM.exIL names env ar ws).2=O at *
    subst he1
    have hm0:=p.rx.le
    have hAo:=p.ed.rm.own
    have hBo:=p.bo
    have nmm:¬ m=m':=by omega
    have nmm1:¬ m=m'+1:=by omega
    -- one instruction
    have put1:∀ q:Ins,VM.hdI names env k z t ar.length W=(W,[q])→APP 3 24 B (.slc (m'+1) 0 1) ((H'.put m' (some (.row 3 q.avs))).put (m'+1) (some (.row 3 q.avs))) (m'+2) fun B H2 m2=>∃ A2,PcS gk ga m fns env ws A H (O ++ (VM.hdI names env k z t ar.length W).2) (VM.hdI names env k z t ar.length W).1 vars A2 B H2 m2:=fun q hh=>by
      rw [hh]
      have p1:=p.new (H':=(H'.put m' (some (.row 3 q.avs))).put (m'+1) (some (.row 3 q.avs))) (m':=m'+2) (by omega) fun y hy=>by rw [Heap.put_ne _ _ (by omega),Heap.put_ne _ _ (by omega)]
      exact p1.one (i:=q) (Heap.put_at _ _ _) rfl (by omega) fun B2 H2 m2 p2 _=>⟨A',p2⟩
    have hnk:∀ q:Int,k ≠ q→¬ k=q:=fun _ h=>h
    by_cases k1:k=1
    · subst k1
      have:=put1 ⟨1,z,0⟩ (by simp [VM.hdI])
      simp [zai,hpm,nmm]
      exact this
    by_cases k2:k=2
    · subst k2
      have p1:=p.new (H':=H'.put m' (some (.row 3 [.int .i64 0,.int .i64 0,.int .i64 0]))) (m':=m'+1) (by omega) fun y hy=>by rw [Heap.put_ne _ _ (by omega)]
      simp [zai,hpm,nmm]
      refine zzz p1 (by rw [Heap.put_ne _ _ nmm]; exact hpm) (Heap.put_at _ _ _) ⟨Nat.le_refl _,by omega⟩ ⟨by omega,by omega⟩ ⟨hmA,fun h=>by have:=hAo _ h; omega⟩ (fun h=>by have:=hBo _ h; omega) nmm (by omega) (by omega) fun A2 B2 H2 m2 p2=>⟨A2,?_⟩
      simpa [VM.hdI] using p2
    by_cases k3:k=3
    · subst k3
      obtain ⟨l,me⟩:=p.ed.me
      obtain ⟨r,f1,f2⟩:=me.find t
      have gam:¬ ga=m':=by have:=p.ed.lt; omega
      have:=put1 ⟨3,(VM.look env t:Nat),0⟩ (by simp [VM.hdI])
      cases r with
      | none =>
        have e0:((VM.look env t:Nat):Int)=0:=by simpa using f2.symm
        rw [e0] at this
        simp [zai,hpm,nmm,gam,me.at_,f1]
        exact this
      | some v =>
        obtain ⟨i,v⟩:=v
        simp only at f2
        subst f2
        simp [zai,hpm,nmm,gam,me.at_,f1]
        exact this
    by_cases k4:k=4
    · subst k4
      have:=put1 ⟨5,z,0⟩ (by simp [VM.hdI])
      simp [zai,hpm,nmm]
      exact this
    by_cases k11:k=11
    · subst k11
      have hin:=hcall rfl
      have hidx:VM.idx names t=(names.idxOf t:Nat):=by unfold VM.idx; rw [if_pos hin]
      have hil:names.idxOf t < names.length:=List.idxOf_lt_length_iff.2 hin
      have hnl:names.length=fns.length:=by rw [← hnm]; simp
      simp [zai,hpm,nmm,p.ed.rm.row,show ¬ gk=m' by have:=p.ed.rm.gn; omega]
      have pz:=p.new (H':=H'.put m' (some (.row 3 [.int .i64 0,.int .i64 0,.int .i64 0]))) (m':=m'+1) (by omega) fun y hy=>by rw [Heap.put_ne _ _ (by omega)]
      refine LP.mk (fun j xs H2 m2=>∃ i:Nat,i+j=fns.length∧xs=[.ptr m 0,B,.ptr m' 0,.ro (fns.map Fnc.avs),.int .i64 fns.length,.int .i64 i]∧PcS gk ga m fns env ws A H O W vars A' B H2 m2∧H2 m=some (.row 4 [.int .i64 11,.int .i64 z,.str t,.ro (ar.map Ex.avs)])∧H2 m'=some (.row 3 (if t∈names.take i then [.int .i64 17,.int .i64 (names.idxOf t:Nat),.int .i64 ar.length] else [.int .i64 0,.int .i64 0,.int .i64 0]))∧m' < m2) fns.length
        ⟨0,by omega,rfl,pz,by rw [Heap.put_ne _ _ nmm]; exact hpm,by rw [Heap.put_at]; simp,by omega⟩ ?_
      rintro j xs H2 m2 ⟨i,hij,rfl,q,q1,q2,q3⟩
      have hmA2:m'∉owns A':=fun h=>by have:=hAo _ h; omega
      have hmB2:m'∉owns B:=fun h=>by have:=hBo _ h; omega
      cases j with
      | zero =>
        obtain rfl:i=fns.length:=by omega
        rw [List.take_of_length_le (by omega),if_pos hin] at q2
        simp [zdk,q2]
        have p1:=q.new (H':=H2.put m2 (some (.row 3 [.int .i64 17,.int .i64 (names.idxOf t:Nat),.int .i64 ar.length]))) (m':=m2+1) (by omega) fun y hy=>by rw [Heap.put_ne _ _ (by omega)]
        refine p1.one (i:=⟨17,(names.idxOf t:Nat),ar.length⟩) (Heap.put_at _ _ _) rfl (by omega) fun B2 H3 m3 p2 _=>⟨A',?_⟩
        have hh:VM.hdI names env 11 z t ar.length W=(W,[⟨17,(names.idxOf t:Nat),ar.length⟩]):=by unfold VM.hdI; simp [hidx]
        rw [hh]
        exact p2
      | succ j =>
        have hlt:i < fns.length:=by omega
        have hlt':i < names.length:=by omega
        have hxn:names[i]=fns[i].name:=by simp [← hnm]
        have hwi:IntKind.i64.wrap ((i:Int)+1)=(i:Int)+1:=i64w (by omega)
        have hts:names.take (i+1)=names.take i ++ [names[i]]:=List.take_succ_eq_append_getElem _
        have n1:¬ m=m2:=by omega
        have n2:¬ m'=m2:=by omega
        have n3:¬ m=m':=by omega
        have hav:fns[i].avs=[.str fns[i].name,.ro (fns[i].params.map fun w=>[.str w]),.ro (fns[i].body.map Sm.avs)]:=rfl
        have p1:=q.new (H':=H2.put m2 (some (.row 3 [.str fns[i].name,.ro (fns[i].params.map fun w=>[.str w]),.ro (fns[i].body.map Sm.avs)]))) (m':=m2+1) (by omega) fun y hy=>by rw [Heap.put_ne _ _ (by omega)]
        by_cases he:fns[i].name=t
        · have hie:names.idxOf t=i:=by
            have:names[i]=t:=hxn.trans he
            rw [← this]
            exact hnd.idxOf_getElem i hlt'
          have hni:t∉names.take i:=fun h=>by
            obtain ⟨q,hq,e⟩:=List.mem_take_iff_getElem.1 h
            have:names.idxOf t=q:=by rw [← e]; exact hnd.idxOf_getElem q (by omega)
            omega
          rw [if_neg hni] at q2
          simp [zdk,hlt,hav,he,q1,q2,n1,n2,n3,hwi]
          have p3:=p1.set (g:=m') (some (.row 3 [.int .i64 17,.int .i64 i,.int .i64 ar.length])) (by omega) hmA2 hmB2
          rw [he] at p3
          refine ⟨fun x hx=>(by rcases hx with (rfl | rfl) | rfl <;> rfl),j,by omega,i+1,by omega,by simp,p3,?_,by omega⟩
          rw [hts,hxn,he]
          simp [hie]
        · simp [zdk,hlt,hav,he,q1,n1,hwi]
          refine ⟨j,by omega,i+1,by omega,by simp,p1,?_,by omega⟩
          (repeat' rw [if_neg n2])
          rw [q2,hts]
          simp [hxn,show ¬ t=fns[i].name from fun h=>he h.symm]
    have hh:VM.hdI names env k z t ar.length W=(W,[⟨VM.opE k,0,0⟩]):=by
      unfold VM.hdI
      rw [if_neg k1,if_neg k2,if_neg k3,if_neg k4,if_neg k11,if_pos (by omega)]
    have p1:∀ o:AObj,APP 3 24 B (.slc (m'+2) 0 1) ((((H'.put m' (some (.row 3 [.int .i64 0,.int .i64 0,.int .i64 0]))).put (m'+1) (some o)).put m' (some (.row 3 [.int .i64 (VM.opE k),.int .i64 0,.int .i64 0]))).put (m'+2) (some (.row 3 [.int .i64 (VM.opE k),.int .i64 0,.int .i64 0]))) (m'+3) fun B H2 m2=>∃ A2,PcS gk ga m fns env ws A H (O ++ (VM.hdI names env k z t ar.length W).2) (VM.hdI names env k z t ar.length W).1 vars A2 B H2 m2:=fun o=>by
      rw [hh]
      have p1:=p.new (H':=((((H'.put m' (some (.row 3 [.int .i64 0,.int .i64 0,.int .i64 0]))).put (m'+1) (some o)).put m' (some (.row 3 [.int .i64 (VM.opE k),.int .i64 0,.int .i64 0]))).put (m'+2) (some (.row 3 [.int .i64 (VM.opE k),.int .i64 0,.int .i64 0])))) (m':=m'+3) (by omega) fun y hy=>by rw [Heap.put_ne _ _ (by omega),Heap.put_ne _ _ (by omega),Heap.put_ne _ _ (by omega),Heap.put_ne _ _ (by omega)]
      exact p1.one (i:=⟨VM.opE k,0,0⟩) (Heap.put_at _ _ _) rfl (by omega) fun B2 H2 m2 p2 _=>⟨A',p2⟩
    have hks:k=5∨k=6∨k=7∨k=8∨k=9∨k=10:=by omega
    have p2:=p1 (.mp [(.int .i64 5,.int .i64 6),(.int .i64 6,.int .i64 7),(.int .i64 7,.int .i64 8),(.int .i64 8,.int .i64 11),(.int .i64 9,.int .i64 12),(.int .i64 10,.int .i64 13)])
    rcases hks with rfl | rfl | rfl | rfl | rfl | rfl <;> (simp [VM.opE] at p2; simp [zai,hpm,nmm,nmm1]; exact p2)
mutual
theorem zacu {gk ga:Nat} {fns:List Fnc} (hfl:fns.length≤4294967296) (hnd:(fns.map (·.name)).Nodup) {env:VM.Env}:∀ x:Ex,VM.okEx x→VM.calls (fns.map (·.name)) x→zrj gk ga fns env x
  | .mk k z t ar,ho,hc=>by
    unfold VM.calls at hc
    have hk:=VM.okEx_kind ho
    unfold VM.okEx at ho
    exact zzw hfl hnd (zqd hfl hnd ar ho.2 hc.2) hk hc.1
theorem zqd {gk ga:Nat} {fns:List Fnc} (hfl:fns.length≤4294967296) (hnd:(fns.map (·.name)).Nodup) {env:VM.Env}:∀ l:List Ex,VM.okExL l→VM.callsL (fns.map (·.name)) l→∀ x∈l,zrj gk ga fns env x
  | [],_,_,x,h=>absurd h (by simp)
  | y :: r,ho,hc,x,h=>by
    unfold VM.okExL at ho
    unfold VM.callsL at hc
    exact (List.mem_cons.1 h).elim (fun e=>e ▸ zacu hfl hnd y ho.1 hc.1) fun h=>zqd hfl hnd r ho.2 hc.2 x h
end
end Go.Proofs.YtpllgpgdcbgalaaDoor
set_option maxRecDepth 8000
namespace Go.Proofs.YtpllgpgdcbgalaaDoor
open Go Go.RowKit
def zgp (a2:AV) (H7:Heap) (D11:zi) (nx:Nat) (rd2:List Nat) (rd4:List Nat) (Q:QT) (fr10:List Nat) (v12:AV) (_:List Nat) (fr14:List Nat) (D15:zi):Prop :=
 zag 1 a2 v12 ((H7.apply D11).apply D15) fun _ _ fr18 D19 =>
 nx∉rd2 ∧
 nx∉rd4 ∧
 zb (domD D11) rd2 (
 Q (.tup []) (((H7.apply D11).apply D15).apply D19) ((((nx+1)+fr10.length)+fr14.length)+fr18.length))
def zgo (a0 a1 a2 a3:AV) (H:Heap) (nx:Nat) (Q:QT):Prop :=
 LDR false 1 a2 H fun v1 rd2 =>
 LDR false 1 a3 H fun v3 rd4 =>
 BD (zl tab [(3,0),(3,1),(3,2)]) [.int .i64 0,.int .i64 0,.int .i64 0] [(0,a0),(1,a1)] fun v5 =>
 BSL 1 3 [.int .i64 0,.int .i64 0,.int .i64 0] [(0,v5)] fun cells6 =>
 PUTH H nx (.row 3 cells6) fun H7 =>
 zad 3 24 v3 (.slc nx 0 1) H7 (nx+1) fun v8 _ fr10 D11 =>
 zm Tryd.prog (.clo 59 []) [v1,v8] (H7.apply D11) ((nx+1)+fr10.length) (zgp a2 H7 D11 nx rd2 rd4 Q fr10)
theorem zld (a0 a1 a2 a3:AV) (H:Heap) (nx:Nat) (Q:QT):zgo a0 a1 a2 a3 H nx Q→za Tryd.prog 58 [a0,a1,a2,a3] H nx Q :=
  zg (lv:=lvOf []) (c:=zq Tryd.f58) zz zab mixed Tryd.func58 (by kernel_rfl) (by kernel_rfl) (by kernel_rfl) (by kernel_rfl) (by kernel_rfl)
end Go.Proofs.YtpllgpgdcbgalaaDoor
set_option maxRecDepth 8000
namespace Go.Proofs.YtpllgpgdcbgalaaDoor
open Go Go.RowKit
theorem RowS.appD {α:Type} {f:α→List AV} {sz by_:Nat} {H:Heap} {lo m:Nat} {l l2:List α} {B x:AV} {rd:List Nat} {kt:Kt} (h:RowS f sz H lo m l B) (hf:∀ x,(f x).length=sz) (h1:∀ x,∀ v∈f x,v.one=true)
    (hs:zh sz H x=some (l2.length,(l2.map f).flatten,rd)) (hb:(l.length+l2.length)*by_≤140737488355328) (hlo:lo≤m)
    (hk:∀ B' rd' fr D,FrOk m fr→RowS f sz (H.apply D) lo (m+fr.length) (l ++ l2) B'→(∀ y∈domD D,y∈owns B∨y=m)→(∀ y,y < m→y∉owns B→(H.apply D) y=H y)→(∀ y∈owns B',y∈owns B∨y=m)→(B ≠ .nils→∃ len,B'=.slc m 0 len)→(∀ y∈rd',y∈owns B∨y∈rd)→kt B' rd' fr D):zad sz by_ B x H m kt:=by
  have hone:((l2.map f).flatten).all AV.one=true:=by
    rw [List.all_eq_true]
    intro v hv
    obtain ⟨y,hy,hv⟩:=List.mem_flatten.1 hv
    obtain ⟨z,_,rfl⟩:=List.mem_map.1 hy
    exact h1 z v hv
  cases h with
  | nil =>
    rw [zvk,hs,optk]
    refine ⟨hone,fun h0 => ?_,fun h0=>⟨by simpa using hb,?_⟩⟩
    · obtain rfl:l2=[]:=List.eq_nil_of_length_eq_zero h0
      exact hk _ _ [] [] (.inl rfl) .nil (by simp) (fun _ _ _=>rfl) (fun y hy=>.inl hy) (fun h=>absurd rfl h) fun y hy=>.inr hy
    · exact hk _ _ [m] _ (.inr (.inl rfl)) (.row hlo (by simp) (by simp only [zas,zbe,Heap.put_at]; rfl)) (by simp) (fun y hy _=>by simp only [zas,zbe]; exact Heap.put_ne _ _ (by omega)) (fun y hy=>by simp [owns] at hy; exact .inr hy) (fun h=>absurd rfl h) fun y hy=>.inr hy
  | @row l ga a1 a2 a3 =>
    have hl:=zap hf l
    rw [zxp,hs,optk,a3,rowk]
    refine ⟨rfl,hone,by omega,Nat.le_add_right_of_le hb,?_⟩
    have e:(((l.map f).flatten.drop 0).take (l.length*sz) ++ (l2.map f).flatten)=((l ++ l2).map f).flatten:=by
      rw [List.drop_zero,List.take_of_length_le (by omega)]; simp
    rw [e,← List.length_append]
    refine hk _ _ [m] _ (.inr (.inl rfl)) (.row hlo (by simp) (by simp only [zas,zbe,Heap.put_at])) (by simp [owns]) (fun y hy hn=>by simp only [zas,zbe]; rw [Heap.put_ne _ _ (by omega),Heap.put_ne _ _ (by simpa [owns] using hn)]) (fun y hy=>by simp [owns] at hy; exact .inr hy) (fun _=>⟨_,rfl⟩) fun y hy => ?_
    simp [owns] at hy ⊢
    exact hy
namespace VM
def Gr (ws ws':List Str):Prop:=ws'=ws∨ws.length < ws'.length
theorem Gr.refl (ws:List Str):Gr ws ws:=.inl rfl
theorem Gr.trans {a b c:List Str} (h:Gr a b) (k:Gr b c):Gr a c:=by
  rcases h with rfl | h
  · exact k
  · rcases k with rfl | k
    · exact .inr h
    · exact .inr (by omega)
theorem addW_gr (ws:List Str) (t:Str):Gr ws (addW ws t):=by
  unfold addW
  split
  · exact .inl rfl
  · exact .inr (by simp)
theorem hdI_gr (names:List Str) (env:Env) (k z:Int) (t:Str) (n:Nat) (ws:List Str):Gr ws (hdI names env k z t n ws).1:=by
  unfold hdI
  (repeat' split) <;> first | exact .inl rfl | exact addW_gr _ _
mutual
theorem exI_gr (names:List Str) (env:Env):∀ (x:Ex) (ws:List Str),Gr ws (exI names env x ws).1
  | .mk k z t ar,ws=>by
    unfold exI
    exact (exIL_gr names env ar ws).trans (hdI_gr _ _ _ _ _ _ _)
theorem exIL_gr (names:List Str) (env:Env):∀ (l:List Ex) (ws:List Str),Gr ws (exIL names env l ws).1
  | [],ws=>by unfold exIL; exact .inl rfl
  | x :: r,ws=>by
    unfold exIL
    exact (exI_gr names env x ws).trans (exIL_gr names env r _)
end
mutual
theorem stI_gr (names:List Str):∀ (x:Sm) (env:Env) (b:Nat) (s:MkS),Gr s.1 (stI names env b x s).1.1
  | .mk k nm ar t e,env,b,s=>by
    have h1:=exIL_gr names env ar s.1
    have h2:=stIL_gr names t env (b+(exIL names env ar s.1).2.length+1) ((exIL names env ar s.1).1,s.2)
    have h3:=stIL_gr names e env (b+(exIL names env ar s.1).2.length+1+(stIL names env (b+(exIL names env ar s.1).2.length+1) t ((exIL names env ar s.1).1,s.2)).2.length+1) (stIL names env (b+(exIL names env ar s.1).2.length+1) t ((exIL names env ar s.1).1,s.2)).1
    unfold stI
    simp only
    (repeat' split) <;> first | exact h1 | exact h1.trans h2 | exact (h1.trans h2).trans h3
theorem stIL_gr (names:List Str):∀ (l:List Sm) (env:Env) (b:Nat) (s:MkS),Gr s.1 (stIL names env b l s).1.1
  | [],env,b,s=>by unfold stIL; exact .inl rfl
  | x :: r,env,b,s=>by
    unfold stIL
    exact (stI_gr names x env b s).trans (stIL_gr names r _ _ _)
end
end VM
theorem zum (A:Nat→Prop) (fns:List Fnc):Bel A (.ro (fns.map Fnc.avs)):=zcv fun x hx v hv=>by obtain ⟨y,_,rfl⟩:=List.mem_map.1 hx; exact zadv A y v hv
theorem Ed.at {gk ga:Nat} {fns:List Fnc} {env:VM.Env} {ws:List Str} {vars:Nat} {A:AV} {H H1:Heap} {m m1:Nat} (h:Ed gk ga fns env ws vars A H m) (hk:∀ y,y=gk∨y=ga∨y∈owns A→H1 y=H y∧y < m1):Ed gk ga fns env ws vars A H1 m1:=by
  obtain ⟨l,a,b,c⟩:=h.me
  refine ⟨⟨by rw [(hk gk (.inl rfl)).1]; exact h.rm.row,?_,(hk gk (.inl rfl)).2⟩,⟨l,by rw [(hk ga (.inr (.inl rfl))).1]; exact a,b,c⟩,(hk ga (.inr (.inl rfl))).2,h.nk,h.no⟩
  have:=h.rm.wr
  cases this with
  | nil=>exact .nil
  | @row _ g a1 a2 a3 =>
    have:=hk g (.inr (.inr (by simp [owns])))
    exact .row a1 this.2 (by rw [this.1]; exact a3)
set_option maxHeartbeats 1000000 in
theorem zm.rm {f:FuncId} {args:List AV} {gk ga:Nat} {fns:List Fnc} {env:VM.Env} {ws ws':List Str} {vars vars':Nat} {A:AV} {H:Heap} {m:Nat} {I:List Ins} (h:Ed gk ga fns env ws vars A H m) (hgr:VM.Gr ws ws')
    (hc:∀ (H1:Heap) (m1:Nat) (Q:QT),Ed gk ga fns env ws vars A H1 m1→(∀ A' H' m',RMk gk fns ws' vars' A' H' m'→RX gk ws A H1 m1 ws' A' H' m'→Q (.ro (I.map Ins.avs)) H' m')→za Tryd.prog f args H1 m1 Q) {kt:Kt}
    (hk:∀ A' rd fr D,FrOk m fr→RMk gk fns ws' vars' A' (H.apply D) (m+fr.length)→RX gk ws A H m ws' A' (H.apply D) (m+fr.length)→(∀ y∈domD D,y=gk∨y∈owns A∨y=m)→kt (.ro (I.map Ins.avs)) rd fr D):zm Tryd.prog (.clo f []) args H m kt:=by
  have hgn:=h.rm.gn
  have hown:=h.rm.own
  have hwr:=h.rm.wr
  have hrd:∀ g∈gk :: ga :: owns A,(H g).isSome=true:=fun g hg=>by
    simp only [List.mem_cons] at hg
    rcases hg with rfl | rfl | hg
    · rw [h.rm.row]; rfl
    · obtain ⟨l,me⟩:=h.me; rw [me.at_]; rfl
    · cases hwr with
      | nil=>simp [owns] at hg
      | row a1 a2 a3=>simp [owns] at hg; subst hg; rw [a3]; rfl
  have at1:∀ (H1:Heap) (n1:Nat),(∀ g∈gk :: ga :: owns A,H1 g=H g∧g < n1)→Ed gk ga fns env ws vars A H1 n1:=fun H1 n1 hag=>h.at fun y hy=>hag y (by simp only [List.mem_cons]; exact hy)
  by_cases hws:ws'=ws
  · subst hws
    have hrow:(H.apply [(gk,some (.row 3 [.ro (fns.map Fnc.avs),A,.int .i64 vars']))]) gk=some (.row 3 [.ro (fns.map Fnc.avs),A,.int .i64 vars']):=by simp only [zas,zbe,Heap.put_at]
    have hrest:∀ y,y ≠ gk→(H.apply [(gk,some (.row 3 [.ro (fns.map Fnc.avs),A,.int .i64 vars']))]) y=H y:=fun y hy=>by simp only [zas,zbe]; exact Heap.put_ne _ _ hy
    refine ⟨.ro (I.map Ins.avs),gk :: ga :: owns A,[],[(gk,some (.row 3 [.ro (fns.map Fnc.avs),A,.int .i64 vars']))],.inl rfl,LC.of_calls hrd (by simp) (fun _ _ _=>zul _ _) (fun A1 hA1 _ g o hg ho => ?_) fun H1 n1 hag => ?_,hk A _ [] _ (.inl rfl) ⟨hrow,hwr.keepO (Nat.le_refl _) fun y hy=>hrest y (by have:=hown y hy; omega),hgn⟩ ⟨Nat.le_refl _,fun y _ hy _=>hrest y hy,.inl ⟨rfl,rfl,fun y hy=>hrest y (by have:=hown y hy; omega)⟩⟩ (by simp)⟩
    · simp at hg
      subst hg
      rw [hrow] at ho
      cases ho
      intro j x hx
      match j,hx with
      | 0,hx=>cases hx; exact zum _ _
      | 1,hx =>
        cases hx
        cases hwr with
        | nil=>exact .nils
        | @row _ g a1 a2 a3=>exact .slc _ _ _ (hA1 g (by simp [owns]))
      | 2,hx=>cases hx; exact .int _ _
      | j+3,hx=>simp at hx
    · rw [List.append_nil]
      refine hc H1 n1 _ (at1 H1 n1 hag) fun A' H' m' r e => ?_
      obtain ⟨rfl,hh⟩:A'=A∧∀ y∈owns A,H' y=H1 y:=by
        rcases e.how with ⟨_,e2,e3⟩ | ⟨e1,_⟩
        · exact ⟨e2,e3⟩
        · omega
      refine ⟨rfl,e.le,fun g hg hd => ?_,fun g o hg ho => ?_⟩
      · simp at hd
        by_cases hA:g∈owns A'
        · exact hh g hA
        · exact e.keep g hg hd hA
      · simp at hg
        subst hg
        rw [hrow] at ho
        rw [← ho]
        exact r.row
  · have fin : ∀ D:zi,(∀ y∈domD D,y=gk∨y∈owns A∨y=m)→gk∈domD D→m∈domD D→(∀ y∈owns A,y∈domD D)→(∀ X:Heap,(X.apply D) gk=some (.row 3 [.ro (fns.map Fnc.avs),.slc m 0 ws'.length,.int .i64 vars']))→(∀ X:Heap,(X.apply D) m=some (.row 1 (ws'.map strC).flatten))→(∀ (X:Heap),∀ y∈owns A,(X.apply D) y=none) →
        ws.length < ws'.length→zm Tryd.prog (.clo f []) args H m kt:=by
      intro D d1 d2 d3 d4 d5 d6 d7 hlt
      refine ⟨.ro (I.map Ins.avs),gk :: ga :: owns A,[m],D,.inr (.inl rfl),LC.of_callsN (g0:=m) hrd (fun g hg => ?_) fun A1 hA1 _ H1 n1 hag => ?_,hk (.slc m 0 ws'.length) _ [m] D (.inr (.inl rfl)) ⟨d5 H,.row (by omega) (by simp) (d6 H),by simp; omega⟩ ⟨by simp,fun y h1 h2 h3 => ?_,.inr ⟨hlt,m,rfl,Nat.le_refl _⟩⟩ d1⟩
      · rcases d1 g hg with h | h | h
        · exact .inl (by simp [h])
        · exact .inl (by simp [h])
        · exact .inr h
      · rw [List.append_nil]
        refine hc H1 n1 _ (at1 H1 n1 hag) fun A' H' m' r e => ?_
        obtain ⟨g,rfl,hg⟩:∃ g,A'=.slc g 0 ws'.length∧n1≤g:=by
          rcases e.how with ⟨e1,_⟩ | ⟨_,g,e2,e3⟩
          · exact absurd e1 hws
          · exact ⟨g,e2,e3⟩
        have hgm:g < m'∧H' g=some (.row 1 (ws'.map strC).flatten):=by
          have:=r.wr
          generalize hz:AV.slc g 0 ws'.length=Z at this
          cases this with
          | nil=>cases hz
          | row b1 b2 b3=>cases hz; exact ⟨b2,b3⟩
        refine ⟨g,hg,hgm.1,.same _ (zul _ _),fun y hy hd => ?_,fun y o hy hne ho => ?_,_,_,d6 H1,hgm.2,?_⟩
        · exact e.keep y hy (fun e=>hd (e ▸ d2)) fun hA=>hd (d4 y hA)
        · rcases d1 y hy with h | h | h
          · subst h
            rw [d5] at ho
            cases ho
            refine ⟨_,r.row,rfl,rfl,fun j v u hv hu => ?_⟩
            match j,hv,hu with
            | 0,hv,hu=>cases hv; cases hu; exact .same _ (zum _ _)
            | 1,hv,hu=>cases hv; cases hu; exact .slc _ _
            | 2,hv,hu=>cases hv; cases hu; exact .same _ (.int _ _)
            | j+3,hv,hu=>simp at hv
          · rw [d7 H1 y h] at ho; cases ho
          · exact absurd h hne
        · refine ⟨rfl,rfl,fun j v u hv hu => ?_⟩
          rw [hv] at hu
          cases hu
          rw [zsb,List.getElem?_map] at hv
          obtain ⟨s,_,rfl⟩:=Option.map_eq_some_iff.1 hv
          exact .same _ (.str _)
      · have hd:y∉domD D:=fun hd=>by
          rcases d1 y hd with h | h | h
          · exact h2 h
          · exact h3 h
          · omega
        exact zfy D H y hd
    have hlt:ws.length < ws'.length:=hgr.resolve_left hws
    have mg:¬ m=gk:=by omega
    cases hwr with
    | nil =>
      refine fin [(gk,some (.row 3 [.ro (fns.map Fnc.avs),.slc m 0 ws'.length,.int .i64 vars'])),(m,some (.row 1 (ws'.map strC).flatten))] (by simp) (by simp) (by simp) (by simp [owns]) (fun X => ?_) (fun X => ?_) (by simp [owns]) hlt
      · simp only [zas,zbe]; rw [Heap.put_ne _ _ (by omega),Heap.put_at]
      · simp only [zas,zbe]; rw [Heap.put_at]
    | @row _ gw a1 a2 a3 =>
      refine fin [(gw,none),(gk,some (.row 3 [.ro (fns.map Fnc.avs),.slc m 0 ws'.length,.int .i64 vars'])),(m,some (.row 1 (ws'.map strC).flatten))] (by simp [owns]) (by simp) (by simp) (by simp [owns]) (fun X => ?_) (fun X => ?_) (fun X y hy => ?_) hlt
      · simp only [zas,zbe]; rw [Heap.put_ne _ _ (by omega),Heap.put_at]
      · simp only [zas,zbe]; rw [Heap.put_at]
      · simp [owns] at hy
        subst hy
        simp only [zas,zbe]
        rw [Heap.put_ne _ _ (by omega),Heap.put_ne _ _ (by omega),Heap.put_at]
end Go.Proofs.YtpllgpgdcbgalaaDoor
set_option maxRecDepth 8000
namespace Go.Proofs.YtpllgpgdcbgalaaDoor
open Go Go.RowKit
theorem zol {l m:List Nat} {A:Prop} (h:∀ y∈l,y∉m):zb l m A=A:=by
  induction l with
  | nil=>rfl
  | cons g r ih =>
    rw [zxl,ih fun y hy=>h y (by simp [hy])]
    simp [h g (by simp)]
@[simp] theorem zxk {l:List Nat} {A:Prop}:zb l [] A=A:=zol fun _ _=>by simp
theorem zzj {g q:Nat} {v:AV} {D:zi} {A:Prop} (h:∀ y∈domD D,y ≠ g):zej g q v D A=A:=by
  induction D with
  | nil=>rfl
  | cons d r ih =>
    obtain ⟨x,o⟩:=d
    rw [zxn,ih fun y hy=>h y (by simp [domD] at hy ⊢; exact .inr hy)]
    have:x ≠ g:=h x (by simp [domD])
    simp [this]
end Go.Proofs.YtpllgpgdcbgalaaDoor
set_option maxRecDepth 8000
namespace Go.Proofs.YtpllgpgdcbgalaaDoor
open Go Go.RowKit
theorem zfc {t:Str} {v:Nat}:∀ {l:List (Str×Nat)},(l.map (·.1)).Nodup→(l.lookup t=some v↔(t,v)∈l)
  | [],_=>by simp
  | (a, b) :: r,hn=>by
    rw [List.map_cons,List.nodup_cons] at hn
    rw [List.lookup_cons]
    by_cases e:t=a
    · subst e
      simp only [beq_self_eq_true,Option.some.injEq,List.mem_cons,Prod.mk.injEq,true_and]
      constructor
      · intro h; exact .inl h.symm
      · rintro (h | h)
        · exact h.symm
        · exact absurd (List.mem_map.2 ⟨_,h,rfl⟩) hn.1
    · have hb:(t == a)=false:=by simpa using e
      rw [hb]
      simp only [List.mem_cons,Prod.mk.injEq,e,false_and,false_or]
      exact zfc hn.2
theorem zva {l l':List (Str×Nat)} (h1:(l.map (·.1)).Nodup) (h2:(l'.map (·.1)).Nodup) (h:∀ p,p∈l'↔p∈l) (t:Str):l'.lookup t=l.lookup t:=by
  cases e:l.lookup t with
  | some v=>exact (zfc h2).2 ((h _).2 ((zfc h1).1 e))
  | none =>
    cases e':l'.lookup t with
    | none=>rfl
    | some v =>
      have:=(zfc h1).2 ((h _).1 ((zfc h2).1 e'))
      rw [e] at this; cases this
theorem zqf:∀ (n:Nat) (s:List Nat),s.Nodup→(∀ i∈s,i < n)→s.length≤n
  | 0,s,_,h=>by
    cases s with
    | nil=>simp
    | cons a r=>have:=h a (by simp); omega
  | n + 1,s,hn,h=>by
    by_cases hm:n∈s
    · have:=zqf n (s.erase n) (hn.erase n) fun i hi=>by
        rw [hn.mem_erase_iff] at hi
        have:=h i hi.2
        omega
      rw [List.length_erase_of_mem hm] at this
      omega
    · have:=zqf n s hn fun i hi=>by
        have:=h i hi
        have:i ≠ n:=fun e=>hm (e ▸ hi)
        omega
      omega
theorem zpu {α:Type} {f:Nat→α}:∀ {s:List Nat},s.Nodup→(∀ i∈s,∀ j∈s,f i=f j→i=j)→(s.map f).Nodup
  | [],_,_=>by simp
  | a :: r,hn,h=>by
    rw [List.nodup_cons] at hn
    rw [List.map_cons,List.nodup_cons]
    refine ⟨fun hm => ?_,zpu hn.2 fun i hi j hj=>h i (by simp [hi]) j (by simp [hj])⟩
    obtain ⟨b,hb,e⟩:=List.mem_map.1 hm
    have:=h b (by simp [hb]) a (by simp) e
    exact hn.1 (this ▸ hb)
theorem zaaf {gk ga:Nat} {l:List (Str×Nat)} {env:VM.Env} {L:AV} {H0:Heap} {m:Nat} {Q:QT} (he:MapE H0 ga l env) (hga:ga < m) {H:Heap} (k0:∀ y,y < m→H y=H0 y) (h0:H m=some (.row 1 [.nils])) (h1:H (m+1)=some (.mp [])) (h2:H (m+2)=some (.it ga l.length []))
    (hq:∀ H' l',(∀ y,y < m→H' y=H0 y)→H' m=some (.row 1 [.nils])→MapE H' (m+1) l' env→LNL L fun v20=>LP (zcq Q) [.ptr gk 0,.ptr m 0,.amap (m+1),L,v20,.int .i64 0] H' (m+3)) :
    LP (zer Q) [.ptr gk 0,L,.ptr m 0,.amap (m+1),.ptr (m+2) 0] H (m+3):=by
  refine LP.mk (fun j xs H' n'=>∃ seen:List Nat,seen.length+j=l.length∧xs=[.ptr gk 0,L,.ptr m 0,.amap (m+1),.ptr (m+2) 0]∧n'=m+3∧(∀ y,y < m→H' y=H0 y)∧H' m=some (.row 1 [.nils])∧H' (m+1)=some (.mp (zal (seen.map fun i=>l.getD i ([],0))))∧H' (m+2)=some (.it ga l.length seen)∧seen.Nodup∧∀ i∈seen,i < l.length) l.length ⟨[],by simp,rfl,rfl,k0,h0,h1,h2,by simp,by simp⟩ ?_
  rintro j xs H' n' ⟨seen,hj,rfl,rfl,hk,q0,q1,q2,q3,q4⟩
  have hg:H' ga=some (.mp (zal l)):=(hk ga hga).trans he.at_
  have hkeys:∀ i,i < l.length→∀ i',i' < l.length→(l.getD i ([],0)).1=(l.getD i' ([],0)).1→i=i':=fun i hi i' hi' e=>by
    have e1:l.getD i ([],0)=l[i]:=by simp [hi]
    have e2:l.getD i' ([],0)=l[i']:=by simp [hi']
    rw [e1,e2] at e
    have hh:=he.nd
    have z1:=hh.idxOf_getElem i (by simpa using hi)
    have z2:=hh.idxOf_getElem i' (by simpa using hi')
    rw [List.getElem_map] at z1 z2
    rw [e] at z1
    exact z1.symm.trans z2
  have hnd:((seen.map fun i=>l.getD i ([],0)).map (·.1)).Nodup:=by
    rw [List.map_map]
    exact zpu q3 fun i hi i' hi' e=>hkeys i (q4 i hi) i' (q4 i' hi') e
  have nmg:¬ ga=m+2:=by omega
  unfold zer
  simp only [zacc,zwr,zwq,zwp,zacd]
  unfold NEXT
  refine ⟨rfl,?_⟩
  rw [q2]
  simp only [hg]
  refine ⟨by simp [zal],fun hall => ?_,fun i e hi hs => ?_⟩
  · simp
    refine hq H' _ hk q0 ⟨q1,hnd,fun t => ?_⟩
    rw [← he.look t,zva he.nd hnd fun p => ?_]
    rw [List.mem_map]
    constructor
    · rintro ⟨i,hi,rfl⟩
      have:=q4 i hi
      simp [this]
    · intro hp
      obtain ⟨i,hi⟩:=List.getElem?_of_mem hp
      have hlt:=(List.getElem?_eq_some_iff.1 hi).1
      exact ⟨i,hall i hlt,by simp [List.getD_eq_getElem?_getD,hi]⟩
  · have hlt:i < l.length:=by have:=(List.getElem?_eq_some_iff.1 hi).1; simpa [zal] using this
    have hgd:l.getD i ([],0)=l[i]:=by simp [hlt]
    obtain rfl:e=(.str l[i].1,.int .i64 l[i].2):=by
      have:(zal l)[i]? = some (.str l[i].1,.int .i64 l[i].2):=by simp [zal,hlt]
      rw [this] at hi; cases hi; rfl
    have hcnt:=zqf l.length (seen ++ [i]) (by rw [List.nodup_append]; exact ⟨q3,by simp,fun a ha b hb=>by simp at hb; subst hb; exact fun e=>hs (e ▸ ha)⟩) fun x hx=>by
      rcases List.mem_append.1 hx with h | h
      · exact q4 x h
      · simp at h; subst h; exact hlt
    rw [List.length_append] at hcnt
    simp at hcnt
    obtain ⟨r,f1,f2⟩:=zjo l[i].1 (seen.map fun i=>l.getD i ([],0))
    have hr:r=none:=by
      cases r with
      | none=>rfl
      | some p =>
        exfalso
        simp only at f2
        have:=VM.lookup_mem f2.1
        rw [List.map_map] at this
        obtain ⟨i',hi',e⟩:=List.mem_map.1 this
        have:=hkeys i' (q4 i' hi') i hlt (by rw [hgd]; exact e)
        exact hs (this ▸ hi')
    subst hr
    have f1':zah (.str l[i].1) (zal (seen.map fun i=>l.getD i ([],0)))=some none:=f1
    simp only [List.getD_eq_getElem?_getD] at f1'
    simp [zrm,hg,nmg,q1,hi]
    refine ⟨by simp [zal],_,_,⟨rfl,rfl⟩,rfl,?_⟩
    rw [f1',optk]
    refine ⟨j - 1,by omega,seen ++ [i],by simp; omega,fun y hy => ?_,q0,?_,rfl,?_,fun x hx => ?_⟩
    · rw [if_neg (by omega),if_neg (by omega)]
      exact hk y hy
    · simp [zal,hlt]
    · rw [List.nodup_append]
      exact ⟨q3,by simp,fun a ha b hb=>by simp at hb; subst hb; exact fun e=>hs (e ▸ ha)⟩
    · rcases List.mem_append.1 hx with h | h
      · exact q4 x h
      · simp at h; subst h; exact hlt
structure StS (gk go gm m0:Nat) (fns:List Fnc) (env:VM.Env) (ws0:List Str) (A0:AV) (H0:Heap) (out:List Ins) (ws:List Str) (vars:Nat) (A B:AV) (H:Heap) (m:Nat):Prop where
  ed:Ed gk gm fns env ws vars A H m
  rx:RX gk ws0 A0 H0 m0 ws A H m
  oc:H go=some (.row 1 [B])
  rb:RowS Ins.avs 3 H m0 m out B
  ab:∀ y∈owns B,y∉owns A
  nb:go∉owns B∧gm∉owns B
  lo:gk < m0
  lg:m0≤go∧go < m∧m0≤gm
  ne:go ≠ gm
  gA:go∉owns A
structure ArS (go gm ga m0:Nat) (args:List Ins) (A B Ba:AV) (H:Heap) (m:Nat):Prop where
  oc:H ga=some (.row 1 [Ba])
  rb:RowS Ins.avs 3 H m0 m args Ba
  aA:∀ y∈owns Ba,y∉owns A∧y∉owns B
  nb:ga∉owns Ba∧go∉owns Ba∧gm∉owns Ba
  lg:m0≤ga∧ga < m
  ne:ga ≠ go∧ga ≠ gm
  gA:ga∉owns A∧ga∉owns B
theorem RX.far {gk:Nat} {ws ws':List Str} {A A':AV} {H H':Heap} {m m':Nat} (e:RX gk ws A H m ws' A' H' m') {y:Nat} (hy:y < m) (hA:y∉owns A):y∉owns A':=by
  rcases e.how with ⟨_,rfl,_⟩ | ⟨_,g,rfl,hg⟩
  · exact hA
  · simp [owns]; omega
section
variable {gk go gm ga m0:Nat} {fns:List Fnc} {env:VM.Env} {ws0:List Str} {A0:AV} {H0:Heap} {out args:List Ins} {ws:List Str} {vars:Nat} {A B Ba:AV} {H:Heap} {m:Nat}
theorem StS.call (h:StS gk go gm m0 fns env ws0 A0 H0 out ws vars A B H m) {ws':List Str} {vars':Nat} {A':AV} {H':Heap} {m':Nat} (r:RMk gk fns ws' vars' A' H' m') (e:RX gk ws A H m ws' A' H' m'):StS gk go gm m0 fns env ws0 A0 H0 out ws' vars' A' B H' m':=by
  have hb:=h.rb.bo
  have hlo:=h.lo
  have hlg:=h.lg
  have hle:=h.rx.le
  have hle2:=e.le
  exact ⟨h.ed.ext r e,h.rx.trans (e.low hle),by rw [e.keep go (by omega) (by omega) h.gA]; exact h.oc,h.rb.keepO e.le fun y hy=>e.keep y (hb y hy).2 (by have:=hb y hy; omega) (h.ab y hy),fun y hy=>e.far (hb y hy).2 (h.ab y hy),h.nb,h.lo,⟨hlg.1,by omega,hlg.2.2⟩,h.ne,e.far (by omega) h.gA⟩
theorem ArS.call (k:ArS go gm ga m0 args A B Ba H m) {ws':List Str} {A':AV} {H':Heap} {m':Nat} (e:RX gk ws A H m ws' A' H' m') (hlo:gk < m0):ArS go gm ga m0 args A' B Ba H' m':=by
  have hb:=k.rb.bo
  have hlg:=k.lg
  have hle2:=e.le
  exact ⟨by rw [e.keep ga (by omega) (by omega) k.gA.1]; exact k.oc,k.rb.keepO e.le fun y hy=>e.keep y (hb y hy).2 (by have:=hb y hy; omega) (k.aA y hy).1,fun y hy=>⟨e.far (hb y hy).2 (k.aA y hy).1,(k.aA y hy).2⟩,k.nb,⟨hlg.1,by omega⟩,k.ne,⟨e.far (by omega) k.gA.1,k.gA.2⟩⟩
theorem StS.new (h:StS gk go gm m0 fns env ws0 A0 H0 out ws vars A B H m) {H':Heap} {m':Nat} (hm:m≤m') (hk:∀ y,y < m→H' y=H y):StS gk go gm m0 fns env ws0 A0 H0 out ws vars A B H' m'∧RX gk ws A H m ws A H' m':=by
  obtain ⟨a,b⟩:=h.ed.new hm hk
  exact ⟨h.call a.rm b,b⟩
theorem StS.own (h:StS gk go gm m0 fns env ws0 A0 H0 out ws vars A B H m) {H':Heap} {m':Nat} (hm:m≤m') (hk:∀ y,y < m0∨y∈owns A∨y=gm∨y=go∨y∈owns B→H' y=H y):StS gk go gm m0 fns env ws0 A0 H0 out ws vars A B H' m':=by
  have hlg:=h.lg
  have hlo:=h.lo
  have hle:=h.rx.le
  have r:=h.ed.rm.more (H':=H') hm fun y hy=>by
    rcases hy with rfl | hy
    · exact hk _ (.inl hlo)
    · exact hk y (.inr (.inl hy))
  obtain ⟨l,me⟩:=h.ed.me
  have hlt:=h.ed.lt
  exact ⟨⟨r,⟨l,by rw [hk gm (.inr (.inr (.inl rfl)))]; exact me.at_,me.nd,me.look⟩,by omega,h.ed.nk,h.ed.no⟩,h.rx.trans ⟨by omega,fun y hy _ _=>hk y (.inl hy),.inl ⟨rfl,rfl,fun y hy=>hk y (.inr (.inl hy))⟩⟩,by rw [hk go (.inr (.inr (.inr (.inl rfl))))]; exact h.oc,h.rb.keepO hm fun y hy=>hk y (.inr (.inr (.inr (.inr hy)))),h.ab,h.nb,h.lo,⟨hlg.1,by omega,hlg.2.2⟩,h.ne,h.gA⟩
theorem StS.put (h:StS gk go gm m0 fns env ws0 A0 H0 out ws vars A B H m) {out':List Ins} {B':AV} {H':Heap} {m':Nat} (hm:m≤m') (hk:∀ y,y < m0∨y∈owns A∨y=gm→H' y=H y) (oc:H' go=some (.row 1 [B'])) (rb:RowS Ins.avs 3 H' m0 m' out' B') (ho:∀ y∈owns B',m≤y):StS gk go gm m0 fns env ws0 A0 H0 out' ws vars A B' H' m':=by
  have hlg:=h.lg
  have hlo:=h.lo
  have hle:=h.rx.le
  have r:=h.ed.rm.more (H':=H') hm fun y hy=>by
    rcases hy with rfl | hy
    · exact hk _ (.inl hlo)
    · exact hk y (.inr (.inl hy))
  obtain ⟨l,me⟩:=h.ed.me
  have hlt:=h.ed.lt
  have hAo:=h.ed.rm.own
  exact ⟨⟨r,⟨l,by rw [hk gm (.inr (.inr rfl))]; exact me.at_,me.nd,me.look⟩,by omega,h.ed.nk,h.ed.no⟩,h.rx.trans ⟨by omega,fun y hy _ _=>hk y (.inl hy),.inl ⟨rfl,rfl,fun y hy=>hk y (.inr (.inl hy))⟩⟩,oc,rb,fun y hy hA=>by have:=ho y hy; have:=hAo y hA; omega,⟨fun hy=>by have:=ho _ hy; omega,fun hy=>by have:=ho _ hy; omega⟩,h.lo,⟨hlg.1,by omega,hlg.2.2⟩,h.ne,h.gA⟩
theorem RowS.argI {lo hi:Nat} {l:List Ins} {X:AV} {H':Heap} {n':Nat} (h:RowS Ins.avs 3 H lo hi l X) (hk:∀ y∈owns X,H' y=H y∧y < n'):zac H' n' 3 (l.map Ins.avs) X:=by
  cases h with
  | nil=>exact .nils rfl
  | @row l g a1 a2 a3 =>
    have:=hk g (by simp [owns])
    have q:=zac.slc (H:=H') (nx:=n') (sz:=3) (xs:=l.map Ins.avs) g this.2 (by rw [this.1]; exact a3)
    rwa [List.length_map] at q
theorem RowS.some {lo hi:Nat} {l:List Ins} {X:AV} (h:RowS Ins.avs 3 H lo hi l X):∀ y∈owns X,(H y).isSome=true:=by
  cases h with
  | nil=>intro y hy; simp [owns] at hy
  | row a1 a2 a3=>intro y hy; simp [owns] at hy; subst hy; rw [a3]; rfl
end
set_option maxHeartbeats 2000000 in
theorem zaej {gk go gm ga m0:Nat} {fns:List Fnc} {env:VM.Env} {ws0:List Str} {A0:AV} {H0:Heap} {out args:List Ins} {ws:List Str} {vars:Nat} {A B Ba:AV} {H:Heap} {m:Nat} {op a:Int} {Q:QT} (h:StS gk go gm m0 fns env ws0 A0 H0 out ws vars A B H m) (k:ArS go gm ga m0 args A B Ba H m) (ho:out.length+args.length+1≤4294967296) (hj:∀ i∈args ++ [⟨op,a,0⟩],i.op=15∨i.op=16→0≤i.a∧i.a≤4294967296)
    (hq:∀ B' H' m',StS gk go gm m0 fns env ws0 A0 H0 (zaa out (args ++ [⟨op,a,0⟩])) ws vars A B' H' m'→(∀ y,y < m→y ≠ go→y∉owns Ba→H' y=H y)→m≤m'→Q (.tup []) H' m'):za Tryd.prog 58 [.int .i64 op,.int .i64 a,.ptr go 0,.ptr ga 0] H m Q:=by
  refine zld _ _ _ _ _ _ _ ?_
  have hlg:=h.lg
  have klg:=k.lg
  have hbo:=h.rb.bo
  have kbo:=k.rb.bo
  have hle:=h.rx.le
  simp [zgo,h.oc,k.oc]
  have rb1:RowS Ins.avs 3 (H.put m (some (.row 3 [.int .i64 op,.int .i64 a,.int .i64 0]))) m0 (m+1) args Ba:=k.rb.keepO (by omega) fun y hy=>Heap.put_ne _ _ (by have:=kbo y hy; omega)
  refine rb1.appD (l2:=[⟨op,a,0⟩]) (fun _=>rfl) zfv (zro rfl (Heap.put_at _ _ _)) (by simp; omega) (by omega) fun B1 rd1 fr1 D1 f1 r1 d1 k1 o1 _ _ => ?_
  have hk1:∀ y,y < m→y∉owns Ba→((H.put m (some (.row 3 [.int .i64 op,.int .i64 a,.int .i64 0]))).apply D1) y=H y:=fun y hy hn=>by rw [k1 y (by omega) hn,Heap.put_ne _ _ (by omega)]
  have hB:∀ y∈owns B,((H.put m (some (.row 3 [.int .i64 op,.int .i64 a,.int .i64 0]))).apply D1) y=H y:=fun y hy=>hk1 y (hbo y hy).2 fun hn=>(k.aA y hn).2 hy
  have hB1:∀ y∈owns B1,m0≤y∧y < m+1+fr1.length:=r1.bo
  have rB:=h.rb.keepO (H':=(H.put m (some (.row 3 [.int .i64 op,.int .i64 a,.int .i64 0]))).apply D1) (hi':=m+1+fr1.length) (by omega) hB
  refine zm.join (xs:=out) (ys:=args ++ [⟨op,a,0⟩]) (owns B ++ owns B1) (fun g hg => ?_) (fun g hg => ?_) (fun H2 n2 hag=>rB.argI fun y hy=>hag y (by simp [hy])) (fun H2 n2 hag=>r1.argI fun y hy=>hag y (by simp [hy])) (by omega) (by simp; omega) hj ?_
  · rcases List.mem_append.1 hg with hg | hg
    · exact rB.some g hg
    · exact r1.some g hg
  · rcases List.mem_append.1 hg with hg | hg
    · have:=hbo g hg; omega
    · exact (hB1 g hg).2
  have e1:((H.put m (some (.row 3 [.int .i64 op,.int .i64 a,.int .i64 0]))).apply D1) go=some (.row 1 [B]):=by rw [hk1 go (by omega) k.nb.2.1]; exact h.oc
  have j1:∀ P,zb (domD D1) [go] P=P:=fun P=>zol fun y hy=>by
    rcases d1 y hy with h1 | h1
    · simp; exact fun e=>k.nb.2.1 (e ▸ h1)
    · simp; omega
  have g1:¬ go=m+1+fr1.length:=by omega
  have g2:¬ m=go:=by omega
  have g3:¬ m=ga:=by omega
  simp [zgp,e1,j1,g1,g2,g3]
  refine hq _ _ _ (h.put (by omega) (fun y hy => ?_) (Heap.put_at _ _ _) (.row (ga:=m+1+fr1.length) (by omega) (by omega) (by rw [Heap.put_ne _ _ (by omega),Heap.put_at])) (fun y hy=>by simp [owns] at hy; omega)) (fun y h1 h2 h3 => ?_) (by omega)
  · have hA:=h.ed.rm.own
    have hlt:=h.ed.lt
    have hAk:y < m∧y ≠ go∧y∉owns Ba:=by
      rcases hy with hy | hy | rfl
      · exact ⟨by omega,by omega,fun hn=>by have:=kbo y hn; omega⟩
      · exact ⟨(hA y hy).2,fun e=>h.gA (e ▸ hy),fun hn=>(k.aA y hn).1 hy⟩
      · exact ⟨hlt,fun e=>h.ne e.symm,k.nb.2.2⟩
    rw [Heap.put_ne _ _ hAk.2.1,Heap.put_ne _ _ (by omega),hk1 y hAk.1 hAk.2.2]
  · rw [Heap.put_ne _ _ h2,Heap.put_ne _ _ (by omega),hk1 y h1 h3]
end Go.Proofs.YtpllgpgdcbgalaaDoor
set_option maxRecDepth 8000
namespace Go.Proofs.YtpllgpgdcbgalaaDoor
open Go Go.RowKit
theorem RowS.sc {α:Type} {f:α→List AV} {sz:Nat} {H:Heap} {lo hi:Nat} {l:List α} {A:AV} (h:RowS f sz H lo hi l A):A.one=true∧A.sure=true∧A.cells=[A]:=by
  cases h <;> exact ⟨rfl,rfl,rfl⟩
structure SmS (gk go gm m0 gs ga:Nat) (fns:List Fnc) (env:VM.Env) (ws0:List Str) (A0:AV) (H0:Heap) (out args:List Ins) (x:Sm) (ws:List Str) (vars:Nat) (A B Ba:AV) (H:Heap) (m:Nat):Prop where
  st:StS gk go gm m0 fns env ws0 A0 H0 out ws vars A B H m
  ar:ArS go gm ga m0 args A B Ba H m
  sc:H gs=some (.row 5 x.avs)
  sl:m0≤gs∧gs < m
  sA:gs∉owns A∧gs∉owns B∧gs∉owns Ba
  sn:gs ≠ go∧gs ≠ gm∧gs ≠ ga
section
variable {gk go gm m0 gs ga:Nat} {fns:List Fnc} {env:VM.Env} {ws0:List Str} {A0:AV} {H0:Heap} {out args:List Ins} {x:Sm} {ws:List Str} {vars:Nat} {A B Ba:AV} {H:Heap} {m:Nat}
theorem SmS.call (h:SmS gk go gm m0 gs ga fns env ws0 A0 H0 out args x ws vars A B Ba H m) {ws':List Str} {vars':Nat} {A':AV} {H':Heap} {m':Nat} (r:RMk gk fns ws' vars' A' H' m') (e:RX gk ws A H m ws' A' H' m'):SmS gk go gm m0 gs ga fns env ws0 A0 H0 out args x ws' vars' A' B Ba H' m':=by
  have hlo:=h.st.lo
  have hsl:=h.sl
  have hle:=e.le
  exact ⟨h.st.call r e,h.ar.call e hlo,by rw [e.keep gs (by omega) (by omega) h.sA.1]; exact h.sc,⟨hsl.1,by omega⟩,⟨e.far hsl.2 h.sA.1,h.sA.2⟩,h.sn⟩
theorem SmS.new (h:SmS gk go gm m0 gs ga fns env ws0 A0 H0 out args x ws vars A B Ba H m) {H':Heap} {m':Nat} (hm:m≤m') (hk:∀ y,y < m→H' y=H y):SmS gk go gm m0 gs ga fns env ws0 A0 H0 out args x ws vars A B Ba H' m':=by
  obtain ⟨a,b⟩:=h.st.new hm hk
  exact h.call a.ed.rm b
theorem SmS.more (h:SmS gk go gm m0 gs ga fns env ws0 A0 H0 out args x ws vars A B Ba H m) {args':List Ins} {Ba':AV} {H':Heap} {m':Nat} (hm:m≤m') (hk:∀ y,y < m→y ≠ ga→y∉owns Ba→H' y=H y) (oc:H' ga=some (.row 1 [Ba'])) (rb:RowS Ins.avs 3 H' m0 m' args' Ba') (ho:∀ y∈owns Ba',y∈owns Ba∨m≤y) :
    SmS gk go gm m0 gs ga fns env ws0 A0 H0 out args' x ws vars A B Ba' H' m':=by
  have hlo:=h.st.lo
  have hsl:=h.sl
  have hlg:=h.st.lg
  have alg:=h.ar.lg
  have hAo:=h.st.ed.rm.own
  have hBo:=h.st.rb.bo
  have hao:=h.ar.rb.bo
  have hlt:=h.st.ed.lt
  have hle:=h.st.rx.le
  refine ⟨h.st.own hm fun y hy => ?_,⟨oc,rb,fun y hy => ?_,?_,⟨alg.1,by omega⟩,h.ar.ne,h.ar.gA⟩,by rw [hk gs hsl.2 h.sn.2.2 h.sA.2.2]; exact h.sc,⟨hsl.1,by omega⟩,⟨h.sA.1,h.sA.2.1,fun hy => ?_⟩,h.sn⟩
  · rcases hy with hy | hy | rfl | rfl | hy
    · exact hk y (by omega) (by omega) fun hb=>by have:=hao y hb; omega
    · exact hk y (hAo y hy).2 (fun e=>h.ar.gA.1 (e ▸ hy)) fun hb=>(h.ar.aA y hb).1 hy
    · exact hk y hlt (fun e=>h.ar.ne.2 e.symm) h.ar.nb.2.2
    · exact hk y hlg.2.1 (fun e=>h.ar.ne.1 e.symm) h.ar.nb.2.1
    · exact hk y (hBo y hy).2 (fun e=>h.ar.gA.2 (e ▸ hy)) fun hb=>(h.ar.aA y hb).2 hy
  · rcases ho y hy with h1 | h1
    · exact h.ar.aA y h1
    · exact ⟨fun hA=>by have:=hAo y hA; omega,fun hB=>by have:=hBo y hB; omega⟩
  · refine ⟨fun hy => ?_,fun hy => ?_,fun hy => ?_⟩
    · exact (ho _ hy).elim h.ar.nb.1 (by omega)
    · exact (ho _ hy).elim h.ar.nb.2.1 (by omega)
    · exact (ho _ hy).elim h.ar.nb.2.2 (by omega)
  · exact (ho _ hy).elim h.sA.2.2 (by omega)
end
set_option maxHeartbeats 2000000 in
theorem zaeg {gk go gm m0 gs ga:Nat} {fns:List Fnc} {env:VM.Env} {ws0:List Str} {A0:AV} {H0:Heap} {out:List Ins} {k:Int} {nm:Str} {ar:List Ex} {t e:List Sm} {ws:List Str} {vars i:Nat} {A B:AV} {H:Heap} {m:Nat} {L len:AV} {K:J3} (hE:∀ y∈ar,zrj gk gm fns env y)
    (h:SmS gk go gm m0 gs ga fns env ws0 A0 H0 out [] (.mk k nm ar t e) ws vars A B .nils H m) (hw:ws.length+VM.exWL ar≤2147483648)
    (hq:∀ A' Ba H' m',SmS gk go gm m0 gs ga fns env ws0 A0 H0 out (VM.exIL (fns.map (·.name)) env ar ws).2 (.mk k nm ar t e) (VM.exIL (fns.map (·.name)) env ar ws).1 vars A' B Ba H' m'→zf K (fun _ _ _=>True) [.ptr gk 0,.ptr go 0,.amap gm,.ptr gs 0,.ptr ga 0,L,len,.int .i64 i,.ro (ar.map Ex.avs),.int .i64 ar.length,.int .i64 ar.length] H' m') :
    LP (zf K) [.ptr gk 0,.ptr go 0,.amap gm,.ptr gs 0,.ptr ga 0,L,len,.int .i64 i,.ro (ar.map Ex.avs),.int .i64 ar.length,.int .i64 0] H m:=by
  have hal:=VM.len_exWL ar
  refine LP.mk (fun j xs H' m'=>∃ (q:Nat) (args:List Ins) (ws':List Str) (A' Ba:AV),q+j=ar.length∧xs=[.ptr gk 0,.ptr go 0,.amap gm,.ptr gs 0,.ptr ga 0,L,len,.int .i64 i,.ro (ar.map Ex.avs),.int .i64 ar.length,.int .i64 q]∧SmS gk go gm m0 gs ga fns env ws0 A0 H0 out args (.mk k nm ar t e) ws' vars A' B Ba H' m'∧ws'.length+VM.exWL (ar.drop q)≤2147483648∧args.length+VM.exWL (ar.drop q)≤2147483648∧(VM.exIL (fns.map (·.name)) env ar ws).1=(VM.exIL (fns.map (·.name)) env (ar.drop q) ws').1∧(VM.exIL (fns.map (·.name)) env ar ws).2=args ++ (VM.exIL (fns.map (·.name)) env (ar.drop q) ws').2) ar.length
    ⟨0,[],ws,A,.nils,by omega,rfl,h,by simpa using hw,by simp; omega,by simp,by simp⟩ ?_
  rintro j xs H' m' ⟨q,args,ws',A',Ba,hqj,rfl,p,hw1,hw2,he1,he2⟩
  cases j with
  | zero =>
    obtain rfl:q=ar.length:=by omega
    rw [List.drop_length] at he1 he2
    simp only [VM.exIL,List.append_nil] at he1 he2
    rw [he1,he2] at hq
    have:=hq A' Ba H' m' p
    have nl:¬ (ar.length:Int) < ar.length:=by omega
    unfold zf at this ⊢
    simp only [zacb,zym,zuj,nl,decide_false,zzi] at this ⊢
    exact this
  | succ j =>
    have hlt:q < ar.length:=by omega
    have hdr:ar.drop q=ar[q] :: ar.drop (q+1):=List.drop_eq_getElem_cons hlt
    have hxl:=zbs ar[q]
    have hxt:ar[q].avs.take 4=ar[q].avs:=List.take_of_length_le (by omega)
    have hwi:IntKind.i64.wrap ((q:Int)+1)=(q:Int)+1:=i64w (by omega)
    rw [hdr] at hw1 hw2 he1 he2
    simp only [VM.exWL,VM.exIL] at hw1 hw2 he1 he2
    have hle:=VM.exI_le (fns.map (·.name)) env ar[q] ws'
    have algN:=p.ar.lg
    have g1:¬ ga=m':=by omega
    simp [zf,hlt,hxl,hxt,g1,p.ar.oc]
    refine ⟨zfe _,?_⟩
    have p1:=p.new (H':=H'.put m' (some (.row 4 ar[q].avs))) (m':=m'+1) (by omega) fun y hy=>Heap.put_ne _ _ (by omega)
    refine zm.rm p1.st.ed (VM.exI_gr _ _ _ _) (fun H1 m1 Q1 ed hQ1=>hE ar[q] (List.getElem_mem hlt) ws' vars A' H1 m1 Q1 ed (by omega) hQ1) fun A2 rd fr D ff r2 e2 dd => ?_
    have p2:=p1.call r2 e2
    have s1:∀ P,zej ga 0 Ba D P=P:=fun P=>zzj fun y hy e=>by
      have hlo:=p.st.lo
      rcases dd y hy with h | h | h
      · omega
      · exact p.ar.gA.1 (e ▸ h)
      · omega
    simp [zjb]
    refine p2.ar.rb.appD (l2:=(VM.exI (fns.map fun f:Fnc=>f.name) env ar[q] ws').2) (fun _=>rfl) zfv (zvq (f:=Ins.avs) (sz:=3) fun _=>rfl) (by omega) (by have:=p2.st.rx.le; omega) fun B3 rd3 fr3 D3 f3 r3 d3 k3 o3 _ _ => ?_
    have hoc:(((H'.put m' (some (.row 4 ar[q].avs))).apply D).apply D3) ga=some (.row 1 [Ba]):=by rw [k3 ga p2.ar.lg.2 p2.ar.nb.1]; exact p2.ar.oc
    have hoB:=r3.sc
    simp [hoc,hoB,s1,hwi]
    have p3:=p2.more (args':=args ++ (VM.exI (fns.map fun f:Fnc=>f.name) env ar[q] ws').2) (Ba':=B3) (H':=(((H'.put m' (some (.row 4 ar[q].avs))).apply D).apply D3).put ga (some (.row 1 [B3]))) (m':=m'+1+fr.length+fr3.length) (by omega) (fun y h1 h2 h3=>by rw [Heap.put_ne _ _ h2]; exact k3 y h1 h3) (Heap.put_at _ _ _) (r3.keepO (by omega) fun y hy=>Heap.put_ne _ _ fun e=>by
      rcases o3 y hy with h | h
      · exact p2.ar.nb.1 (e ▸ h)
      · have:=p2.ar.lg; omega) (fun y hy=>(o3 y hy).imp id fun h=>by omega)
    refine ⟨j,by omega,q+1,by omega,by simp,_,_,⟨A2,B3,p3⟩,by omega,by rw [List.length_append]; omega,he1,by rw [he2,List.append_assoc]⟩
end Go.Proofs.YtpllgpgdcbgalaaDoor
