/- The document's Check: its memory. The document's Check: expressions. The document's Check: expressions, one behind the other. The document's Check: statements. The document's Check: a statement behind its expressions. The document's Check: a statement's expressions, and blocks. The document's Check, as a whole. The document's Check, as a whole. How much there is in what was parsed: no more than the text has bytes; the laws on chapter 4. Values, code, programs and agents, as abstract values. Programs as code: plain functions (chapter 5). What the parser yields: kinds, and how many arguments each has. Make, by pieces: a piece that begins elsewhere; which calls there are. -/
import Derived.Test.YtpllgpgdcbgalaaDoorG9
import Derived.Test.YtpllgpgdcbgalaaDoorG5
import Derived.Test.YtpllgpgdcbgalaaDoorG7
set_option linter.unusedSimpArgs false
set_option linter.unusedVariables false
set_option maxRecDepth 8000
namespace Go.Proofs.YtpllgpgdcbgalaaDoor
open Go Go.RowKit
def wRow (ws:List Str):List (AV×AV):=ws.map fun w=>(AV.str w,AV.bool true)
theorem zyv (t:Str):∀ ws:List Str,∃ r,zah (.str t) (wRow ws)=some r∧(match r with | some (i,_)=>t∈ws∧(wRow ws).set i (.str t,.bool true)=wRow ws | none=>t∉ws)
  | []=>⟨none,by simp [wRow],by simp⟩
  | w :: r=>by
    obtain ⟨q,h1,h2⟩:=zyv t r
    have hc:wRow (w :: r)=(AV.str w,AV.bool true) :: wRow r:=rfl
    rw [hc,zoi]
    by_cases h:t=w
    · subst h
      exact ⟨some (0,.bool true),by simp,by simp⟩
    · rw [if_neg h,h1]
      cases q with
      | none=>exact ⟨none,rfl,by simp at h2 ⊢; exact ⟨h,h2⟩⟩
      | some p =>
        obtain ⟨i,v⟩:=p
        exact ⟨some (i+1,v),rfl,by simp at h2 ⊢; exact ⟨.inr h2.1,h2.2⟩⟩
structure RfM (gk gf gw:Nat) (fns:List (Str×Nat)) (vars:Int) (ws:List Str) (H:Heap) (m:Nat):Prop where
  row:H gk=some (.row 3 [.amap gf,.int .i64 vars,.amap gw])
  map:H gf=some (.mp (fns.map fun p=>(.str p.1,.int .i64 p.2)))
  wds:H gw=some (.mp (wRow ws))
  gf0:gf < gw
  gw0:gw < gk
  gn:gk < m
end Go.Proofs.YtpllgpgdcbgalaaDoor
set_option maxRecDepth 8000
namespace Go.Proofs.YtpllgpgdcbgalaaDoor
open Go Go.RowKit
structure RExt (gk gw:Nat) (H:Heap) (m:Nat) (H':Heap) (m':Nat):Prop where
  le:m≤m'
  keep:∀ y,y < m→y ≠ gk→y ≠ gw→H' y=H y
theorem RExt.refl (gk gw:Nat) (H:Heap) (m:Nat):RExt gk gw H m H m:=⟨Nat.le_refl _,fun _ _ _ _=>rfl⟩
theorem RExt.trans {gk gw m1 m2 m3:Nat} {H1 H2 H3:Heap} (h:RExt gk gw H1 m1 H2 m2) (k:RExt gk gw H2 m2 H3 m3):RExt gk gw H1 m1 H3 m3:=by
  have h1:=h.le
  have h2:=k.le
  exact ⟨by omega,fun y hy a b=>by rw [k.keep y (by omega) a b]; exact h.keep y hy a b⟩
structure RNm (gk gw:Nat) (names:List Str) (H:Heap) (m:Nat) (a:AV):Prop where
  arg:zac H m 1 (names.map strC) a
  far:∀ y∈owns a,y ≠ gk∧y ≠ gw
theorem RNm.ext {gk gw m m':Nat} {H H':Heap} {names:List Str} {a:AV} (h:RNm gk gw names H m a) (e:RExt gk gw H m H' m'):RNm gk gw names H' m' a:=by
  have hle:=e.le
  obtain ⟨h1,h2⟩:=h
  cases h1 with
  | ro=>exact ⟨.ro,h2⟩
  | nils h=>exact ⟨.nils h,h2⟩
  | slc g q1 q2 =>
    have hg:=h2 g (by simp [owns])
    exact ⟨.slc g (by omega) (by rw [e.keep g q1 hg.1 hg.2]; exact q2),h2⟩
def RExC (gk gf gw:Nat) (fns:List (Str×Nat)) (names:List Str) (x:Ex):Prop:=∀ (vars:Int) (ws:List Str) (a:AV) (H:Heap) (m:Nat) (Q:QT),RfM gk gf gw fns vars ws H m→RNm gk gw names H m a→VM.exW x≤4294967296 →
  (∀ H' m',RfM gk gf gw fns vars (VM.exC fns names x ws).1 H' m'→RExt gk gw H m H' m'→Q (.int .i64 (VM.exC fns names x ws).2) H' m')→za Tryd.prog 55 [.ptr gk 0,.agg x.avs,a] H m Q
end Go.Proofs.YtpllgpgdcbgalaaDoor
set_option maxRecDepth 8000
namespace Go.Proofs.YtpllgpgdcbgalaaDoor
open Go Go.RowKit
set_option maxHeartbeats 1000000 in
theorem ztm {gk gf gw:Nat} {fns:List (Str×Nat)} {names:List Str} {ar:List Ex} (hE:∀ x∈ar,RExC gk gf gw fns names x) {vars:Int} {ws:List Str} {a:AV} {H:Heap} {m:Nat} {Q:QT} (h:RfM gk gf gw fns vars ws H m) (hn:RNm gk gw names H m a) (hw:VM.exWL ar≤4294967296) (hl:ar.length≤4294967296)
    (hq:∀ H' m',RfM gk gf gw fns vars (VM.exCL fns names ar ws).1 H' m'→RExt gk gw H m H' m'→Q (.int .i64 (VM.exCL fns names ar ws).2) H' m') :
    LP (zx Q) [.ptr gk 0,a,.ro (ar.map Ex.avs),.int .i64 ar.length,.int .i64 0] H m:=by
  refine LP.mk (fun j xs H' m'=>∃ (i:Nat) (ws':List Str),i+j=ar.length∧xs=[.ptr gk 0,a,.ro (ar.map Ex.avs),.int .i64 ar.length,.int .i64 i]∧RfM gk gf gw fns vars ws' H' m'∧RExt gk gw H m H' m'∧VM.exWL (ar.drop i)≤4294967296∧VM.exCL fns names ar ws=VM.exCL fns names (ar.drop i) ws') ar.length ⟨0,ws,by omega,rfl,h,RExt.refl _ _ _ _,by simpa using hw,by simp⟩ ?_
  rintro j xs H' m' ⟨i,ws',hij,rfl,h',he,hw',hgo⟩
  generalize hJ:(fun (xs:List AV) (H':Heap) (m':Nat)=>∃ j',j' < j∧∃ (i:Nat) (ws':List Str),i+j'=ar.length∧xs=[.ptr gk 0,a,.ro (ar.map Ex.avs),.int .i64 ar.length,.int .i64 i]∧RfM gk gf gw fns vars ws' H' m'∧RExt gk gw H m H' m'∧VM.exWL (ar.drop i)≤4294967296∧VM.exCL fns names ar ws=VM.exCL fns names (ar.drop i) ws')=J
  cases j with
  | zero =>
    have e:i=ar.length:=by omega
    subst e
    rw [List.drop_length] at hgo
    rw [hgo] at hq
    simp only [VM.exCL] at hq
    simp [zx]
    exact hq H' m' h' he
  | succ j =>
    have hlt:i < ar.length:=by omega
    have hdr:ar.drop i=ar[i] :: ar.drop (i+1):=List.drop_eq_getElem_cons hlt
    have hxl:=zbs ar[i]
    have hwi:IntKind.i64.wrap ((i:Int)+1)=(i:Int)+1:=i64w (by omega)
    rw [hdr] at hgo hw'
    simp only [VM.exCL,VM.exWL] at hgo hw'
    simp [zx,hlt,hxl]
    rw [List.take_of_length_le (l:=ar[i].avs) (by omega),List.take_of_length_le (l:=ar[i].avs) (by omega)]
    refine ⟨zfe _,?_⟩
    have hgf:=h'.gf0
    have hgw:=h'.gw0
    have hgn:=h'.gn
    have e1:RExt gk gw H' m' (H'.put m' (some (.row 4 ar[i].avs))) (m'+1):=⟨by omega,fun y hy _ _=>Heap.put_ne _ _ (by omega)⟩
    have h1:RfM gk gf gw fns vars ws' (H'.put m' (some (.row 4 ar[i].avs))) (m'+1):=⟨by rw [Heap.put_ne _ _ (by omega)]; exact h'.row,by rw [Heap.put_ne _ _ (by omega)]; exact h'.map,by rw [Heap.put_ne _ _ (by omega)]; exact h'.wds,hgf,hgw,by omega⟩
    refine hE ar[i] (List.getElem_mem hlt) vars ws' a _ (m'+1) _ h1 ((hn.ext he).ext e1) (by omega) fun H2 m2 h2 e2 => ?_
    by_cases hz:(VM.exC fns names ar[i] ws').2=0
    · rw [if_neg (by simpa using hz)] at hgo
      simp [zfu,hz,hwi]
      rw [← hJ]
      exact ⟨j,by omega,i+1,_,by omega,rfl,h2,(he.trans e1).trans e2,by omega,hgo⟩
    · rw [if_pos hz] at hgo
      rw [hgo] at hq
      simp [zfu,hz]
      exact hq H2 m2 h2 ((he.trans e1).trans e2)
set_option maxHeartbeats 1000000 in
theorem zya {gk gf gw:Nat} {fns:List (Str×Nat)} {names:List Str} (hnl:names.length≤4294967296) {k z:Int} {t:Str} {ar:List Ex} (hE:∀ y∈ar,RExC gk gf gw fns names y):RExC gk gf gw fns names (.mk k z t ar):=by
  intro vars ws a H m Q h hn hw hq
  simp only [VM.exW] at hw
  have hl:ar.length≤4294967296:=by have:=VM.len_exWL ar; omega
  unfold VM.exC at hq
  refine znu _ _ _ _ _ _ ?_
  have row:=h.row
  have hmap:=h.map
  have hgf:=h.gf0
  have hgw:=h.gw0
  have hgn:=h.gn
  obtain ⟨r,f1,f2⟩:=zjo t fns
  obtain ⟨rw_,w1,w2⟩:=zyv t ws
  have hwds:=h.wds
  rw [zho]
  have ne_0:gk ≠ gf∧gf ≠ gk∧gk ≠ gw∧gw ≠ gk∧gf ≠ gw∧gw ≠ gf∧gk ≠ m∧m ≠ gk∧gf ≠ m∧m ≠ gf∧gw ≠ m∧m ≠ gw:=⟨by omega,by omega,by omega,by omega,by omega,by omega,by omega,by omega,by omega,by omega,by omega,by omega⟩
  by_cases h2:k=2
  · subst h2
    simp [zaj,row,hmap,f1,hwds,w1,ne_0]
    have e0:VM.headE fns names 2 t ar.length=0:=by unfold VM.headE; simp
    rw [if_neg (by rw [e0]; simp)] at hq
    simp only [if_true] at hq
    have fin:=ztm hE (H:=(H.put m (some (.row 4 [.int .i64 2,.int .i64 z,.str t,.ro (ar.map Ex.avs)]))).put gw (some (.mp (wRow (VM.addW ws t))))) (m:=m+1) (a:=a) (vars:=vars) (ws:=VM.addW ws t) (Q:=Q)
      ⟨by rw [Heap.put_ne _ _ (by omega),Heap.put_ne _ _ (by omega)]; exact row,by rw [Heap.put_ne _ _ (by omega),Heap.put_ne _ _ (by omega)]; exact hmap,Heap.put_at _ _ _,hgf,hgw,by omega⟩
      (hn.ext ⟨by omega,fun y hy _ hne=>by rw [Heap.put_ne _ _ hne,Heap.put_ne _ _ (by omega)]⟩) (by omega) hl fun H' m' h' e'=>hq H' m' h' (RExt.trans ⟨by omega,fun y hy _ hne=>by rw [Heap.put_ne _ _ hne,Heap.put_ne _ _ (by omega)]⟩ e')
    cases rw_ with
    | none =>
      simp only at w2
      have e:wRow (VM.addW ws t)=wRow ws ++ [(.str t,.bool true)]:=by unfold VM.addW; rw [if_neg w2]; simp [wRow]
      rw [e] at fin
      cases r with
      | none=>simp; exact fin
      | some p=>obtain ⟨i,v⟩:=p; simp; exact fin
    | some q =>
      obtain ⟨i0,v0⟩:=q
      simp only at w2
      have e:wRow (VM.addW ws t)=wRow ws:=by unfold VM.addW; rw [if_pos w2.1]
      rw [e] at fin
      cases r with
      | none=>simp [w2.2]; exact fin
      | some p=>obtain ⟨i,v⟩:=p; simp [w2.2]; exact fin
  · simp only [if_neg h2] at hq
    have ext1:RExt gk gw H m (H.put m (some (.row 4 [.int .i64 k,.int .i64 z,.str t,.ro (ar.map Ex.avs)]))) (m+1):=⟨by omega,fun y hy _ _=>Heap.put_ne _ _ (by omega)⟩
    have rf1:RfM gk gf gw fns vars ws (H.put m (some (.row 4 [.int .i64 k,.int .i64 z,.str t,.ro (ar.map Ex.avs)]))) (m+1):=⟨by rw [Heap.put_ne _ _ (by omega)]; exact row,by rw [Heap.put_ne _ _ (by omega)]; exact hmap,by rw [Heap.put_ne _ _ (by omega)]; exact hwds,hgf,hgw,by omega⟩
    have hn1:=hn.ext ext1
    have hm1:(H.put m (some (.row 4 [.int .i64 k,.int .i64 z,.str t,.ro (ar.map Ex.avs)]))) m=some (.row 4 [.int .i64 k,.int .i64 z,.str t,.ro (ar.map Ex.avs)]):=Heap.put_at _ _ _
    have fin:VM.headE fns names k t ar.length=0→LP (zx Q) [.ptr gk 0,a,.ro (ar.map Ex.avs),.int .i64 ar.length,.int .i64 0] (H.put m (some (.row 4 [.int .i64 k,.int .i64 z,.str t,.ro (ar.map Ex.avs)]))) (m+1):=fun e0=>by
      rw [if_neg (by rw [e0]; simp)] at hq
      exact ztm hE rf1 hn1 (by omega) hl fun H' m' h' e'=>hq H' m' h' (ext1.trans e')
    have bad:∀ e,e ≠ 0→VM.headE fns names k t ar.length=e→Q (.int .i64 e) (H.put m (some (.row 4 [.int .i64 k,.int .i64 z,.str t,.ro (ar.map Ex.avs)]))) (m+1):=fun e he e0=>by
      rw [if_pos (by rw [e0]; exact he),e0] at hq
      exact hq _ _ rf1 ext1
    by_cases h3:k=3
    · subst h3
      have yes:t∈names→LP (zx Q) [.ptr gk 0,a,.ro (ar.map Ex.avs),.int .i64 ar.length,.int .i64 0] (H.put m (some (.row 4 [.int .i64 3,.int .i64 z,.str t,.ro (ar.map Ex.avs)]))) (m+1):=fun hin=>fin (by unfold VM.headE; simp [hin])
      have no:t∉names→Q (.int .i64 6) (H.put m (some (.row 4 [.int .i64 3,.int .i64 z,.str t,.ro (ar.map Ex.avs)]))) (m+1):=fun hin=>bad 6 (by decide) (by unfold VM.headE; simp [hin])
      cases r with
      | none =>
        simp [zaj,row,hmap,f1,ne_0]
        refine zrb (by omega) hn1.arg ?_
        by_cases hin:t∈names
        · have:=yes hin
          simp [zcb,hin]
          exact this
        · have:=no hin
          simp [zcb,hin]
          exact this
      | some p =>
        obtain ⟨i,v⟩:=p
        simp [zaj,row,hmap,f1,ne_0]
        refine zrb (by omega) hn1.arg ?_
        by_cases hin:t∈names
        · have:=yes hin
          simp [zcb,hin]
          exact this
        · have:=no hin
          simp [zcb,hin]
          exact this
    · by_cases h11:k=11
      · subst h11
        cases r with
        | none =>
          simp only at f2
          have:=bad 6 (by decide) (by unfold VM.headE; rw [f2]; rfl)
          simp [zaj,row,hmap,f1,ne_0]
          exact this
        | some p =>
          obtain ⟨i,v⟩:=p
          simp only at f2
          obtain ⟨f3,rfl⟩:=f2
          obtain ⟨q,hq2⟩:=Option.ne_none_iff_exists'.1 f3
          by_cases hql:q=ar.length
          · have:=fin (by unfold VM.headE; rw [hq2]; simp [hql])
            simp [zaj,row,hmap,f1,hq2,hql,ne_0]
            exact this
          · have:=bad 5 (by decide) (by unfold VM.headE; rw [hq2]; simp [hql])
            have hqi:¬ (q:Int)=ar.length:=by omega
            simp [zaj,row,hmap,f1,hq2,hqi,ne_0]
            exact this
      · have e0:VM.headE fns names k t ar.length=0:=by unfold VM.headE; simp [h3,h11]
        have fin':=fin e0
        cases r with
        | none=>simp [zaj,row,hmap,f1,h2,h3,h11,ne_0]; exact fin'
        | some p=>obtain ⟨i,v⟩:=p; simp [zaj,row,hmap,f1,h2,h3,h11,ne_0]; exact fin'
end Go.Proofs.YtpllgpgdcbgalaaDoor
set_option maxRecDepth 8000
namespace Go.Proofs.YtpllgpgdcbgalaaDoor
open Go Go.RowKit
mutual
theorem ztn {gk gf gw:Nat} {fns:List (Str×Nat)} {names:List Str} (hnl:names.length≤4294967296):∀ x:Ex,RExC gk gf gw fns names x
  | .mk _ _ _ ar=>zya hnl (zse hnl ar)
theorem zse {gk gf gw:Nat} {fns:List (Str×Nat)} {names:List Str} (hnl:names.length≤4294967296):∀ l:List Ex,∀ x∈l,RExC gk gf gw fns names x
  | [],x,h=>absurd h (by simp)
  | y :: r,x,h=>(List.mem_cons.1 h).elim (fun e=>e ▸ ztn hnl y) fun h=>zse hnl r x h
end
def RBlC (gk gf gw:Nat) (fns:List (Str×Nat)) (l:List Sm):Prop:=∀ (names:List Str) (vars:Int) (ws:List Str) (a:AV) (H:Heap) (m:Nat) (Q:QT),RfM gk gf gw fns vars ws H m→RNm gk gw names H m a→names.length+VM.smWL l≤4294967296→0≤vars→vars≤8 →
  (∀ H' m',RfM gk gf gw fns (VM.smCL fns names l (vars,ws)).1.1 (VM.smCL fns names l (vars,ws)).1.2 H' m'→RExt gk gw H m H' m'→Q (.int .i64 (VM.smCL fns names l (vars,ws)).2) H' m')→za Tryd.prog 36 [.ptr gk 0,.ro (l.map Sm.avs),a] H m Q
structure RbS (gk gf gw:Nat) (fns:List (Str×Nat)) (H0:Heap) (m0:Nat) (names:List Str) (vars:Int) (ws:List Str) (a:AV) (H:Heap) (m:Nat):Prop where
  rf:RfM gk gf gw fns vars ws H m
  nm:RNm gk gw names H m a
  ext:RExt gk gw H0 m0 H m
  v0:0≤vars
  v8:vars≤8
theorem RbS.ext' {gk gf gw:Nat} {fns:List (Str×Nat)} {H0 H H':Heap} {m0 m m':Nat} {names:List Str} {vars vars':Int} {ws ws':List Str} {a:AV} (h:RbS gk gf gw fns H0 m0 names vars ws a H m) (e:RExt gk gw H m H' m') (r:RfM gk gf gw fns vars' ws' H' m') (h0:0≤vars') (h8:vars'≤8):RbS gk gf gw fns H0 m0 names vars' ws' a H' m' :=
  ⟨r,h.nm.ext e,h.ext.trans e,h0,h8⟩
set_option maxHeartbeats 1000000 in
theorem zaee {gk gf gw m0 s:Nat} {fns:List (Str×Nat)} {names:List Str} {k:Int} {nm:Str} {ar:List Ex} {t e:List Sm} (hT:RBlC gk gf gw fns t) (hE:RBlC gk gf gw fns e) {H0:Heap} {vars:Int} {ws:List Str} {a a0 L A1 A2 A3:AV} {H:Heap} {m len i:Nat} {Q:QT} {K:J3} (h:RbS gk gf gw fns H0 m0 names vars ws a H m)
    (hs:H s=some (.row 5 (Sm.mk k nm ar t e).avs)) (hgs:gk < s) (hsm:s < m) (hi:i < 4294967296) (hnl:names.length+VM.smWL t≤4294967296) (hnl2:names.length+VM.smWL e≤4294967296)
    (hbad:(VM.pairC fns names t e (vars,ws)).2 ≠ 0→∀ H' m',RfM gk gf gw fns (VM.pairC fns names t e (vars,ws)).1.1 (VM.pairC fns names t e (vars,ws)).1.2 H' m'→RExt gk gw H0 m0 H' m'→Q (.int .i64 (VM.pairC fns names t e (vars,ws)).2) H' m')
    (hok:(VM.pairC fns names t e (vars,ws)).2=0→∀ H' m',RbS gk gf gw fns H0 m0 names (VM.pairC fns names t e (vars,ws)).1.1 (VM.pairC fns names t e (vars,ws)).1.2 a H' m'→K [.ptr gk 0,a,L,.int .i64 len,.int .i64 ((i:Int)+1)] H' m') :
    za Tryd.prog 36 [.ptr gk 0,.ro (t.map Sm.avs),a] H m (zbq Q [.ptr gk 0,a0,.ptr s 0,L,.int .i64 len,.int .i64 i,A1,A2,A3] a K):=by
  have hwi:IntKind.i64.wrap ((i:Int)+1)=(i:Int)+1:=i64w (by omega)
  have hgw:=h.rf.gw0
  rw [zay] at hs
  refine hT names vars ws a H m _ h.rf h.nm hnl h.v0 h.v8 fun H1 m1 h1 e1 => ?_
  have hs1:H1 s=some (.row 5 [.int .i64 k,.str nm,.ro (ar.map Ex.avs),.ro (t.map Sm.avs),.ro (e.map Sm.avs)]):=by rw [e1.keep s hsm (by omega) (by omega)]; exact hs
  by_cases hz:(VM.smCL fns names t (vars,ws)).2=0
  · have ep:VM.pairC fns names t e (vars,ws)=VM.smCL fns names e (VM.smCL fns names t (vars,ws)).1:=by unfold VM.pairC; rw [if_neg (by simpa using hz)]
    have g1:=VM.smCL_good fns t names (vars,ws) h.v0 h.v8 hz
    have b1:=h.ext' e1 h1 g1.1 g1.2.1
    simp [zbq,hz,hs1]
    refine hE names _ _ a H1 m1 _ h1 b1.nm hnl2 g1.1 g1.2.1 fun H2 m2 h2 e2 => ?_
    rw [← ep] at h2 ⊢
    by_cases hz2:(VM.pairC fns names t e (vars,ws)).2=0
    · have g2:=VM.smCL_good fns e names (VM.smCL fns names t (vars,ws)).1 g1.1 g1.2.1 (by rw [← ep]; exact hz2)
      rw [← ep] at g2
      simp [zew,hz2,hwi]
      exact hok hz2 H2 m2 (b1.ext' e2 h2 g2.1 g2.2.1)
    · simp [zew,hz2]
      exact hbad hz2 H2 m2 h2 (b1.ext.trans e2)
  · have ep:VM.pairC fns names t e (vars,ws)=VM.smCL fns names t (vars,ws):=by unfold VM.pairC; rw [if_pos hz]
    rw [ep] at hbad
    simp [zbq,hz]
    exact hbad hz H1 m1 h1 (h.ext.trans e1)
set_option maxHeartbeats 1000000 in
theorem zxy {gk gf gw m0 s:Nat} {fns:List (Str×Nat)} {names:List Str} {k:Int} {nm:Str} {ar:List Ex} {t e:List Sm} (hT:RBlC gk gf gw fns t) (hE:RBlC gk gf gw fns e) {H0:Heap} {vars:Int} {ws:List Str} {a L A1 A2 A3:AV} {H:Heap} {m len i:Nat} {Q:QT} {K:J3} (h:RbS gk gf gw fns H0 m0 names vars ws a H m)
    (hs:H s=some (.row 5 (Sm.mk k nm ar t e).avs)) (hgs:gk < s) (hsm:s < m) (hi:i < 4294967296) (hnl:names.length+VM.smWL t≤4294967296) (hnl2:names.length+VM.smWL e≤4294967296)
    (hbad:(VM.pairC fns names t e (vars,ws)).2 ≠ 0→∀ H' m',RfM gk gf gw fns (VM.pairC fns names t e (vars,ws)).1.1 (VM.pairC fns names t e (vars,ws)).1.2 H' m'→RExt gk gw H0 m0 H' m'→Q (.int .i64 (VM.pairC fns names t e (vars,ws)).2) H' m')
    (hok:(VM.pairC fns names t e (vars,ws)).2=0→∀ H' m',RbS gk gf gw fns H0 m0 names (VM.pairC fns names t e (vars,ws)).1.1 (VM.pairC fns names t e (vars,ws)).1.2 a H' m'→K [.ptr gk 0,a,L,.int .i64 len,.int .i64 ((i:Int)+1)] H' m') :
    za Tryd.prog 36 [.ptr gk 0,.ro (t.map Sm.avs),a] H m (zbp Q [.ptr gk 0,a,.ptr s 0,L,.int .i64 len,.int .i64 i,A1,A2,A3] K):=by
  have hwi:IntKind.i64.wrap ((i:Int)+1)=(i:Int)+1:=i64w (by omega)
  have hgw:=h.rf.gw0
  rw [zay] at hs
  refine hT names vars ws a H m _ h.rf h.nm hnl h.v0 h.v8 fun H1 m1 h1 e1 => ?_
  have hs1:H1 s=some (.row 5 [.int .i64 k,.str nm,.ro (ar.map Ex.avs),.ro (t.map Sm.avs),.ro (e.map Sm.avs)]):=by rw [e1.keep s hsm (by omega) (by omega)]; exact hs
  by_cases hz:(VM.smCL fns names t (vars,ws)).2=0
  · have ep:VM.pairC fns names t e (vars,ws)=VM.smCL fns names e (VM.smCL fns names t (vars,ws)).1:=by unfold VM.pairC; rw [if_neg (by simpa using hz)]
    have g1:=VM.smCL_good fns t names (vars,ws) h.v0 h.v8 hz
    have b1:=h.ext' e1 h1 g1.1 g1.2.1
    simp [zbp,hz,hs1]
    refine hE names _ _ a H1 m1 _ h1 b1.nm hnl2 g1.1 g1.2.1 fun H2 m2 h2 e2 => ?_
    rw [← ep] at h2 ⊢
    by_cases hz2:(VM.pairC fns names t e (vars,ws)).2=0
    · have g2:=VM.smCL_good fns e names (VM.smCL fns names t (vars,ws)).1 g1.1 g1.2.1 (by rw [← ep]; exact hz2)
      rw [← ep] at g2
      simp [zev,hz2,hwi]
      exact hok hz2 H2 m2 (b1.ext' e2 h2 g2.1 g2.2.1)
    · simp [zev,hz2]
      exact hbad hz2 H2 m2 h2 (b1.ext.trans e2)
  · have ep:VM.pairC fns names t e (vars,ws)=VM.smCL fns names t (vars,ws):=by unfold VM.pairC; rw [if_pos hz]
    rw [ep] at hbad
    simp [zbp,hz]
    exact hbad hz H1 m1 h1 (h.ext.trans e1)
end Go.Proofs.YtpllgpgdcbgalaaDoor
set_option maxRecDepth 8000
namespace Go.Proofs.YtpllgpgdcbgalaaDoor
open Go Go.RowKit
theorem RfM.old {gk gf gw m m':Nat} {fns:List (Str×Nat)} {vars:Int} {ws:List Str} {H H':Heap} (h:RfM gk gf gw fns vars ws H m) (hm:m≤m') (hk:∀ y,y < m→H' y=H y):RfM gk gf gw fns vars ws H' m':=by
  have h1:=h.gf0
  have h2:=h.gw0
  have h3:=h.gn
  exact ⟨by rw [hk _ h3]; exact h.row,by rw [hk _ (by omega)]; exact h.map,by rw [hk _ (by omega)]; exact h.wds,h1,h2,by omega⟩
theorem RExt.old {gk gw m m':Nat} {H H':Heap} (hm:m≤m') (hk:∀ y,y < m→H' y=H y):RExt gk gw H m H' m':=⟨hm,fun y hy _ _=>hk y hy⟩
theorem RExt.gk {gk gw m m':Nat} {H H':Heap} (hm:m≤m') (hk:∀ y,y < m→y ≠ gk→H' y=H y):RExt gk gw H m H' m':=⟨hm,fun y hy h _=>hk y hy h⟩
theorem zyo {H:Heap} {m:Nat} {names:List Str} {a:AV} (h:zac H m 1 (names.map strC) a) {H':Heap} (hk:∀ y,y < m→H' y=H y):∃ rd,zh 1 H' a=some (names.length,(names.map strC).flatten,rd)∧∀ y∈rd,y < m:=by
  have rl:=zap (f:=strC) (sz:=1) (fun _=>rfl) names
  cases h with
  | ro =>
    refine ⟨[],?_,by simp⟩
    rw [zqr (zmu (l:=names)),List.length_map]
  | nils e =>
    have e:names=[]:=by simpa using e
    subst e
    exact ⟨[],rfl,by simp⟩
  | slc g h1 h2 =>
    refine ⟨[g],?_,by simpa using h1⟩
    have h3:H' g=_:=(hk g h1).trans h2
    simp only [zh,h3]
    rw [List.length_map,if_pos (by omega)]
    simp only [List.drop_zero]
    rw [List.take_of_length_le (by omega)]
set_option maxHeartbeats 2000000 in
theorem zwh {gk gf gw m0 s:Nat} {fns:List (Str×Nat)} {names:List Str} {k:Int} {nm:Str} {ar:List Ex} {t e:List Sm} (hT:RBlC gk gf gw fns t) (hE:RBlC gk gf gw fns e) {H0:Heap} {vars:Int} {ws:List Str} {a L A1:AV} {H:Heap} {m len i:Nat} {Q:QT} {K K13:J3} (h:RbS gk gf gw fns H0 m0 names vars ws a H m)
    (hs:H s=some (.row 5 (Sm.mk k nm ar t e).avs)) (hgs:gk < s) (hsm:s < m) (hi:i < 4294967296) (hnl:names.length+1+VM.smWL t+VM.smWL e≤4294967296)
    (hbad:(VM.restC fns names k nm t e (vars,ws)).2.1 ≠ 0→∀ H' m',RfM gk gf gw fns (VM.restC fns names k nm t e (vars,ws)).1.1 (VM.restC fns names k nm t e (vars,ws)).1.2 H' m'→RExt gk gw H0 m0 H' m'→Q (.int .i64 (VM.restC fns names k nm t e (vars,ws)).2.1) H' m')
    (hok:(VM.restC fns names k nm t e (vars,ws)).2.1=0→∀ a' H' m',RbS gk gf gw fns H0 m0 (VM.restC fns names k nm t e (vars,ws)).2.2 (VM.restC fns names k nm t e (vars,ws)).1.1 (VM.restC fns names k nm t e (vars,ws)).1.2 a' H' m'→K [.ptr gk 0,a',L,.int .i64 len,.int .i64 ((i:Int)+1)] H' m') :
    zar Q K K13 [.ptr gk 0,a,.ptr s 0,L,.int .i64 len,.int .i64 i,A1,.int .i64 ar.length,.int .i64 ar.length] H m:=by
  have rf:=h.rf
  have row:=rf.row
  have hgf:=rf.gf0
  have hgw:=rf.gw0
  have hgn:=rf.gn
  have hin:=h.nm.arg
  have hs0:=hs
  unfold VM.restC at hbad hok
  rw [zay] at hs
  by_cases h1:k=1
  · subst h1
    simp [zar,hs]
    refine zrb (by omega) hin ?_
    by_cases hn:nm∈names
    · rw [if_pos ⟨rfl,hn⟩] at hbad
      simp [zcr,hn]
      exact hbad (by simp) H m rf h.ext
    · rw [if_neg (by simp [hn])] at hbad hok
      have hv0:=h.v0
      have hv8:=h.v8
      have hwr:IntKind.i64.wrap (vars+1)=vars+1:=i64w (by omega)
      have hsg:s ≠ gk:=by omega
      have rf1:RfM gk gf gw fns (vars+1) ws (H.put gk (some (.row 3 [.amap gf,.int .i64 (vars+1),.amap gw]))) m :=
        ⟨Heap.put_at _ _ _,by rw [Heap.put_ne _ _ (by omega)]; exact rf.map,by rw [Heap.put_ne _ _ (by omega)]; exact rf.wds,hgf,hgw,hgn⟩
      have ex1:RExt gk gw H m (H.put gk (some (.row 3 [.amap gf,.int .i64 (vars+1),.amap gw]))) m:=RExt.gk (Nat.le_refl _) fun y _ hy=>Heap.put_ne _ _ hy
      by_cases hm:8 < vars+1
      · rw [if_pos ⟨rfl,hm⟩] at hbad
        simp [zcr,hn,row,hwr,hm]
        exact hbad (by simp) _ m rf1 (h.ext.trans ex1)
      · rw [if_neg (fun h=>hm h.2),if_neg (by simp)] at hbad hok
        simp at hbad hok
        have hs1:(H.put gk (some (.row 3 [.amap gf,.int .i64 (vars+1),.amap gw]))) s=some (.row 5 [.int .i64 1,.str nm,.ro (ar.map Ex.avs),.ro (t.map Sm.avs),.ro (e.map Sm.avs)]):=by rw [Heap.put_ne _ _ hsg]; exact hs
        have b1:RbS gk gf gw fns H0 m0 names (vars+1) ws a (H.put gk (some (.row 3 [.amap gf,.int .i64 (vars+1),.amap gw]))) m:=h.ext' ex1 rf1 (by omega) (by omega)
        simp [zcr,hn,row,hwr,hm]
        generalize (H.put gk (some (.row 3 [.amap gf,.int .i64 (vars+1),.amap gw])))=HX at *
        obtain ⟨rd,src,hrd⟩:=zyo b1.nm.arg (H':=HX.put m (some (.row 1 []))) fun y hy=>Heap.put_ne _ _ (by omega)
        have rl:=zap (f:=strC) (sz:=1) (fun _=>rfl) names
        have h16:names.length*16≤140737488355328:=by omega
        have h16':(names.length+1)*16≤140737488355328:=by omega
        have ones:∀ x∈(names.map strC).flatten,x.one=true:=by
          intro x hx
          obtain ⟨y,hy,hx⟩:=List.mem_flatten.1 hx
          obtain ⟨z,_,rfl⟩:=List.mem_map.1 hy
          rw [List.mem_singleton.1 hx]; rfl
        have hmrd2:m+2∉rd:=fun hm=>by have:=hrd _ hm; omega
        have snoc:((names ++ [nm]).map strC).flatten=(names.map strC).flatten ++ [.str nm]:=by simp [strC]
        generalize hrr:(names.map strC).flatten=rr at *
        have h3:rr.take names.length=rr:=List.take_of_length_le (by omega)
        have hb2:RbS gk gf gw fns H0 m0 (names ++ [nm]) (vars+1) ws (.slc (m+3) 0 (names.length+1)) (((((((HX.put m (some (.row 1 []))).put m none).put (m+1) (some (.row 1 rr))).put (m+2) (some (.row 1 [.str nm])))).put (m+1) none).put (m+3) (some (.row 1 (rr ++ [.str nm])))) (m+4):=by
          have keep:∀ y,y < m→(((((((HX.put m (some (.row 1 []))).put m none).put (m+1) (some (.row 1 rr))).put (m+2) (some (.row 1 [.str nm])))).put (m+1) none).put (m+3) (some (.row 1 (rr ++ [.str nm])))) y=HX y:=fun y hy=>by
            rw [Heap.put_ne _ _ (by omega),Heap.put_ne _ _ (by omega),Heap.put_ne _ _ (by omega),Heap.put_ne _ _ (by omega),Heap.put_ne _ _ (by omega),Heap.put_ne _ _ (by omega)]
          refine ⟨b1.rf.old (by omega) keep,⟨?_,?_⟩,b1.ext.trans (RExt.old (by omega) keep),by omega,by omega⟩
          · have:=zac.slc (H:=(((((((HX.put m (some (.row 1 []))).put m none).put (m+1) (some (.row 1 rr))).put (m+2) (some (.row 1 [.str nm])))).put (m+1) none).put (m+3) (some (.row 1 (rr ++ [.str nm]))))) (nx:=m+4) (xs:=(names ++ [nm]).map strC) (sz:=1) (m+3) (by omega) (by rw [Heap.put_at,snoc])
            rw [List.length_map,List.length_append] at this
            exact this
          · intro y hy
            simp [owns] at hy
            omega
        have hs2:(((((((HX.put m (some (.row 1 []))).put m none).put (m+1) (some (.row 1 rr))).put (m+2) (some (.row 1 [.str nm])))).put (m+1) none).put (m+3) (some (.row 1 (rr ++ [.str nm])))) s=some (.row 5 (Sm.mk 1 nm ar t e).avs):=by
          rw [Heap.put_ne _ _ (by omega),Heap.put_ne _ _ (by omega),Heap.put_ne _ _ (by omega),Heap.put_ne _ _ (by omega),Heap.put_ne _ _ (by omega),Heap.put_ne _ _ (by omega),hs1,zay]
        have fin:=zaee (Q:=Q) (K:=K) (a0:=a) (L:=L) (A1:=A1) (A2:=.int .i64 ar.length) (A3:=.int .i64 ar.length) (len:=len) (i:=i) hT hE hb2 hs2 hgs (by omega) hi (by rw [List.length_append]; simp only [List.length_cons,List.length_nil]; omega) (by rw [List.length_append]; simp only [List.length_cons,List.length_nil]; omega) (fun hz H' m' q1 q2=>hbad hz H' m' q1 q2) fun hz H' m' q=>hok hz _ H' m' q
        have hsm1:¬ m=s:=by omega
        have hsm2:¬ m+1=s:=by omega
        have hsm5:¬ m=m+1+1:=by omega
        have hsm6:¬ m+1+1=m:=by omega
        have hsm7:¬ s=m:=by omega
        have hsm8:¬ s=m+1:=by omega
        have hsm9:¬ s=m+1+1:=by omega
        have hsm10:¬ s=m+1+1+1:=by omega
        have hmrd3:m+1+1∉rd:=hmrd2
        simp [src,h16,h16',rl,h3]
        refine ⟨ones,?_⟩
        simp [hs,hsg,hsm1,hsm2,hsm5,hsm6,hsm7,hsm8,hsm9,hsm10,hmrd3]
        simp at fin
        exact fin
  · by_cases h2:k=2
    · subst h2
      simp [zar,hs]
      refine zrb (by omega) hin ?_
      by_cases hn:nm∈names
      · rw [if_neg (by simp),if_neg (by simp),if_neg (by simp [hn])] at hbad hok
        simp at hbad hok
        have fin:=zxy (Q:=Q) (K:=K) (L:=L) (A1:=A1) (A2:=.int .i64 ar.length) (A3:=.int .i64 ar.length) (len:=len) (i:=i) hT hE h hs0 hgs hsm hi (by omega) (by omega) hbad fun hz H' m' q=>hok hz _ H' m' q
        simp [zeu,hn,hs]
        exact fin
      · rw [if_neg (by simp),if_neg (by simp),if_pos ⟨rfl,hn⟩] at hbad
        simp [zeu,hn]
        exact hbad (by simp) H m rf h.ext
    · rw [if_neg (fun h=>h1 h.1),if_neg (fun h=>h1 h.1),if_neg (fun h=>h2 h.1),if_neg h1,if_neg h1] at hbad hok
      simp only at hbad hok
      have fin:=zxy (Q:=Q) (K:=K) (L:=L) (A1:=A1) (A2:=.int .i64 ar.length) (A3:=.int .i64 ar.length) (len:=len) (i:=i) hT hE h hs0 hgs hsm hi (by omega) (by omega) hbad fun hz H' m' q=>hok hz _ H' m' q
      simp [zar,hs,h1,h2]
      exact fin
end Go.Proofs.YtpllgpgdcbgalaaDoor
set_option maxRecDepth 8000
namespace Go.Proofs.YtpllgpgdcbgalaaDoor
open Go Go.RowKit
set_option maxHeartbeats 2000000 in
theorem zaaa {gk gf gw m0 s:Nat} {fns:List (Str×Nat)} {names:List Str} {k:Int} {nm:Str} {ar:List Ex} {t e:List Sm} (hT:RBlC gk gf gw fns t) (hE:RBlC gk gf gw fns e) {H0:Heap} {vars:Int} {ws:List Str} {a L:AV} {H:Heap} {m len i:Nat} {Q:QT} {K:J3} (h:RbS gk gf gw fns H0 m0 names vars ws a H m)
    (hs:H s=some (.row 5 (Sm.mk k nm ar t e).avs)) (hgs:gk < s) (hsm:s < m) (hi:i < 4294967296) (hnl:names.length+VM.smW (.mk k nm ar t e)≤4294967296)
    (hbad:(VM.smC fns names (.mk k nm ar t e) (vars,ws)).2.1 ≠ 0→∀ H' m',RfM gk gf gw fns (VM.smC fns names (.mk k nm ar t e) (vars,ws)).1.1 (VM.smC fns names (.mk k nm ar t e) (vars,ws)).1.2 H' m'→RExt gk gw H0 m0 H' m'→Q (.int .i64 (VM.smC fns names (.mk k nm ar t e) (vars,ws)).2.1) H' m')
    (hok:(VM.smC fns names (.mk k nm ar t e) (vars,ws)).2.1=0→∀ a' H' m',RbS gk gf gw fns H0 m0 (VM.smC fns names (.mk k nm ar t e) (vars,ws)).2.2 (VM.smC fns names (.mk k nm ar t e) (vars,ws)).1.1 (VM.smC fns names (.mk k nm ar t e) (vars,ws)).1.2 a' H' m'→K [.ptr gk 0,a',L,.int .i64 len,.int .i64 ((i:Int)+1)] H' m') :
    LP (zar Q K) [.ptr gk 0,a,.ptr s 0,L,.int .i64 len,.int .i64 i,.ro (ar.map Ex.avs),.int .i64 ar.length,.int .i64 0] H m:=by
  simp only [VM.smW] at hnl
  have hlen:=VM.len_exWL ar
  rw [VM.smC_rest] at hbad hok
  refine LP.mk (fun j xs H' m'=>∃ (q:Nat) (ws':List Str),q+j=ar.length∧xs=[.ptr gk 0,a,.ptr s 0,L,.int .i64 len,.int .i64 i,.ro (ar.map Ex.avs),.int .i64 ar.length,.int .i64 q]∧RbS gk gf gw fns H0 m0 names vars ws' a H' m'∧H' s=some (.row 5 (Sm.mk k nm ar t e).avs)∧s < m'∧VM.exWL (ar.drop q)≤VM.exWL ar∧VM.exCL fns names ar ws=VM.exCL fns names (ar.drop q) ws') ar.length ⟨0,ws,by omega,rfl,h,hs,hsm,by simp,by simp⟩ ?_
  rintro j xs H' m' ⟨q,ws',hqj,rfl,h',hs',hsm',hw',hgo⟩
  generalize hJ:(fun (xs:List AV) (H':Heap) (m':Nat)=>∃ j',j' < j∧∃ (q:Nat) (ws':List Str),q+j'=ar.length∧xs=[.ptr gk 0,a,.ptr s 0,L,.int .i64 len,.int .i64 i,.ro (ar.map Ex.avs),.int .i64 ar.length,.int .i64 q]∧RbS gk gf gw fns H0 m0 names vars ws' a H' m'∧H' s=some (.row 5 (Sm.mk k nm ar t e).avs)∧s < m'∧VM.exWL (ar.drop q)≤VM.exWL ar∧VM.exCL fns names ar ws=VM.exCL fns names (ar.drop q) ws')=J
  cases j with
  | zero =>
    have eq:q=ar.length:=by omega
    subst eq
    rw [List.drop_length] at hgo hw'
    have e0:VM.exCL fns names [] ws'=(ws',0):=by simp only [VM.exCL]
    rw [hgo,e0,if_neg (show ¬ ((ws',(0:Int)).2 ≠ 0) by simp)] at hbad hok
    exact zwh hT hE h' hs' hgs hsm' hi (by omega) hbad hok
  | succ j =>
    have hlt:q < ar.length:=by omega
    have hdr:ar.drop q=ar[q] :: ar.drop (q+1):=List.drop_eq_getElem_cons hlt
    have hxl:=zbs ar[q]
    have hwi:IntKind.i64.wrap ((q:Int)+1)=(q:Int)+1:=i64w (by omega)
    rw [hdr] at hgo hw'
    simp only [VM.exCL,VM.exWL] at hgo hw'
    simp [zar,hlt,hxl]
    rw [List.take_of_length_le (l:=ar[q].avs) (by omega),List.take_of_length_le (l:=ar[q].avs) (by omega)]
    refine ⟨zfe _,?_⟩
    have keep:∀ y,y < m'→(H'.put m' (some (.row 4 ar[q].avs))) y=H' y:=fun y hy=>Heap.put_ne _ _ (by omega)
    have e1:RExt gk gw H' m' (H'.put m' (some (.row 4 ar[q].avs))) (m'+1):=RExt.old (by omega) keep
    have hgw:=h'.rf.gw0
    refine ztn (by omega) ar[q] vars ws' a _ (m'+1) _ (h'.rf.old (by omega) keep) (h'.nm.ext e1) (by omega) fun H2 m2 h2 e2 => ?_
    by_cases hz:(VM.exC fns names ar[q] ws').2=0
    · rw [if_neg (by simpa using hz)] at hgo
      simp [zex,hz,hwi]
      rw [← hJ]
      have hle:=e2.le
      refine ⟨j,by omega,q+1,_,by omega,rfl,h'.ext' (e1.trans e2) h2 h'.v0 h'.v8,?_,by omega,by omega,hgo⟩
      rw [e2.keep s (by omega) (by omega) (by omega),keep s hsm']
      exact hs'
    · rw [if_pos hz] at hgo
      rw [hgo,if_pos hz] at hbad
      simp [zex,hz]
      exact hbad hz H2 m2 h2 (h'.ext.trans (e1.trans e2))
set_option maxHeartbeats 2000000 in
theorem zwk {gk gf gw:Nat} {fns:List (Str×Nat)} {l:List Sm} (hS:∀ x∈l,∀ k nm ar t e,x=.mk k nm ar t e→RBlC gk gf gw fns t∧RBlC gk gf gw fns e) (hl:l.length≤VM.smWL l):RBlC gk gf gw fns l:=by
  intro names vars ws a H m Q h hn hnl h0 h8 hq
  refine zmp _ _ _ _ _ _ ?_
  simp [zjc]
  have b1:RbS gk gf gw fns H m names vars ws a H m:=⟨h,hn,RExt.refl _ _ _ _,h0,h8⟩
  refine LP.mk (fun j xs H' m'=>∃ (i:Nat) (nms:List Str) (v:Int) (ws':List Str) (a2:AV),i+j=l.length∧xs=[.ptr gk 0,a2,.ro (l.map Sm.avs),.int .i64 l.length,.int .i64 i]∧RbS gk gf gw fns H m nms v ws' a2 H' m'∧nms.length+VM.smWL (l.drop i)≤4294967296∧VM.smCL fns names l (vars,ws)=VM.smCL fns nms (l.drop i) (v,ws')) l.length ⟨0,names,vars,ws,a,by omega,rfl,b1,by simpa using hnl,by simp⟩ ?_
  rintro j xs H' m' ⟨i,nms,v,ws',a2,hij,rfl,b',hn',hgo⟩
  generalize hJ:(fun (xs:List AV) (H':Heap) (m':Nat)=>∃ j',j' < j∧∃ (i:Nat) (nms:List Str) (v:Int) (ws':List Str) (a2:AV),i+j'=l.length∧xs=[.ptr gk 0,a2,.ro (l.map Sm.avs),.int .i64 l.length,.int .i64 i]∧RbS gk gf gw fns H m nms v ws' a2 H' m'∧nms.length+VM.smWL (l.drop i)≤4294967296∧VM.smCL fns names l (vars,ws)=VM.smCL fns nms (l.drop i) (v,ws'))=J
  cases j with
  | zero =>
    have ei:i=l.length:=by omega
    subst ei
    rw [List.drop_length] at hgo
    rw [hgo] at hq
    simp only [VM.smCL] at hq
    simp [zet]
    exact hq H' m' b'.rf b'.ext
  | succ j =>
    have hlt:i < l.length:=by omega
    have hdr:l.drop i=l[i] :: l.drop (i+1):=List.drop_eq_getElem_cons hlt
    have hxl:=zly l[i]
    rw [hdr] at hgo hn'
    simp only [VM.smCL,VM.smWL] at hgo hn'
    have hS':=hS l[i] (List.getElem_mem hlt)
    simp [zet,hlt,hxl]
    generalize l[i]=x at *
    obtain ⟨k,nm,ar,t,e⟩:=x
    obtain ⟨hT,hE⟩:=hS' k nm ar t e rfl
    have hp:1≤VM.smW (.mk k nm ar t e):=by unfold VM.smW; omega
    have keep:∀ y,y < m'→(H'.put m' (some (.row 5 (Sm.mk k nm ar t e).avs))) y=H' y:=fun y hy=>Heap.put_ne _ _ (by omega)
    have hgn:=b'.rf.gn
    have e1:RExt gk gw H' m' (H'.put m' (some (.row 5 (Sm.mk k nm ar t e).avs))) (m'+1):=RExt.old (by omega) keep
    have fin:=zaaa (L:=.ro (l.map Sm.avs)) (len:=l.length) (i:=i) (Q:=Q) (K:=J) hT hE (b'.ext' e1 (b'.rf.old (by omega) keep) b'.v0 b'.v8) (Heap.put_at _ _ _) hgn (by omega) (by omega) (by omega) (fun hz H2 m2 q1 q2=>by
      rw [if_pos hz] at hgo
      rw [hgo] at hq
      exact hq H2 m2 q1 q2) fun hz a3 H2 m2 q=>by
      rw [if_neg (by simpa using hz)] at hgo
      have g:=VM.smC_good fns (.mk k nm ar t e) nms (v,ws') b'.v0 b'.v8 hz
      rw [← hJ]
      exact ⟨j,by omega,i+1,_,_,_,a3,by omega,rfl,q,by have:=g.2; omega,hgo⟩
    have h2:∀ hh:2 < (Sm.mk k nm ar t e).avs.length,(Sm.mk k nm ar t e).avs[2]'hh=.ro (ar.map Ex.avs):=by
      rw [zay]; intro hh; rfl
    rw [h2,List.take_of_length_le (l:=(Sm.mk k nm ar t e).avs) (by omega)]
    simp
    exact ⟨zth _,fin⟩
def zxs (gk gf gw:Nat) (fns:List (Str×Nat)):Sm→Prop
  | .mk _ _ _ t e=>RBlC gk gf gw fns t∧RBlC gk gf gw fns e
theorem zoc {gk gf gw:Nat} {fns:List (Str×Nat)} {l:List Sm} (h:∀ x∈l,zxs gk gf gw fns x):RBlC gk gf gw fns l :=
  zwk (fun x hx k nm ar t e hh=>by have:=h x hx; rw [hh] at this; exact this) (len_smWL l)
mutual
theorem zacv (gk gf gw:Nat) (fns:List (Str×Nat)):∀ x:Sm,zxs gk gf gw fns x
  | .mk _ _ _ t e=>⟨zoc (zmw gk gf gw fns t),zoc (zmw gk gf gw fns e)⟩
theorem zmw (gk gf gw:Nat) (fns:List (Str×Nat)):∀ l:List Sm,∀ x∈l,zxs gk gf gw fns x
  | [],x,h=>absurd h (by simp)
  | y :: r,x,h=>(List.mem_cons.1 h).elim (fun e=>e ▸ zacv gk gf gw fns y) fun h=>zmw gk gf gw fns r x h
end
theorem zyf (gk gf gw:Nat) (fns:List (Str×Nat)) (l:List Sm):RBlC gk gf gw fns l:=zoc (zmw gk gf gw fns l)
end Go.Proofs.YtpllgpgdcbgalaaDoor
set_option maxRecDepth 8000
namespace Go.Proofs.YtpllgpgdcbgalaaDoor
open Go Go.RowKit
@[simp ↓] theorem zamh {g:Nat} {H:Heap} {k:AV→Prop}:LNM (.amap g) H k=MAPK (H g) fun es=>k (.int .i64 (es.length:Int)):=by
  simp only [LNM,LENM,MAPK]
  cases hg:H g with
  | none=>simp
  | some o=>cases o <;> simp [qk]
set_option maxHeartbeats 2000000 in
theorem zyd {gk gf gw:Nat} {fns:List (Str×Nat)} {l:List Fnc} {vars:Int} {H:Heap} {m:Nat} {Q:QT} (h:RfM gk gf gw fns vars [] H m) (hw:zax l≤4294967296) (hp:∀ f∈l,f.params.length≤4) (hl:l.length≤4294967296)
    (hbad:(VM.bodiesC fns l []).2 ≠ 0→∀ H' m',(∀ y,y < gf→H' y=H y)→Q (.int .i64 (VM.bodiesC fns l []).2) H' m')
    (hok:(VM.bodiesC fns l []).2=0→∀ H' m',(∀ y,y < gf→H' y=H y)→Q (.int .i64 (if 16 < (VM.bodiesC fns l []).1.length then 4 else 0)) H' m') :
    LP (zbn Q) [.ptr gk 0,.ro (l.map Fnc.avs),.int .i64 l.length,.int .i64 0] H m:=by
  refine LP.mk (fun j xs H' m'=>∃ (i:Nat) (ws':List Str) (v:Int),i+j=l.length∧xs=[.ptr gk 0,.ro (l.map Fnc.avs),.int .i64 l.length,.int .i64 i]∧RfM gk gf gw fns v ws' H' m'∧(∀ y,y < gf→H' y=H y)∧zax (l.drop i)≤4294967296∧VM.bodiesC fns l []=VM.bodiesC fns (l.drop i) ws') l.length ⟨0,[],vars,by omega,rfl,h,fun _ _=>rfl,by simpa using hw,by simp⟩ ?_
  rintro j xs H' m' ⟨i,ws',v,hij,rfl,h',hk,hw',hgo⟩
  generalize hJ:(fun (xs:List AV) (H':Heap) (m':Nat)=>∃ j',j' < j∧∃ (i:Nat) (ws':List Str) (v:Int),i+j'=l.length∧xs=[.ptr gk 0,.ro (l.map Fnc.avs),.int .i64 l.length,.int .i64 i]∧RfM gk gf gw fns v ws' H' m'∧(∀ y,y < gf→H' y=H y)∧zax (l.drop i)≤4294967296∧VM.bodiesC fns l []=VM.bodiesC fns (l.drop i) ws')=J
  have row:=h'.row
  have wds:=h'.wds
  cases j with
  | zero =>
    have ei:i=l.length:=by omega
    subst ei
    rw [List.drop_length] at hgo
    have e0:VM.bodiesC fns [] ws'=(ws',0):=rfl
    rw [hgo,e0] at hok
    have hln:(wRow ws').length=ws'.length:=by simp [wRow]
    by_cases h16:16 < ws'.length
    · have h16':(16:Int) < ws'.length:=by omega
      have:=hok rfl H' m' hk
      simp only at this
      rw [if_pos h16] at this
      simp [zbn,row,wds,hln,h16',this]
    · have h16':¬ (16:Int) < ws'.length:=by omega
      have:=hok rfl H' m' hk
      simp only at this
      rw [if_neg h16] at this
      simp [zbn,row,wds,hln,h16',this]
  | succ j =>
    have hlt:i < l.length:=by omega
    have hdr:l.drop i=l[i] :: l.drop (i+1):=List.drop_eq_getElem_cons hlt
    have hf4:=hp l[i] (List.getElem_mem hlt)
    rw [hdr] at hgo hw'
    simp only [VM.bodiesC,zax] at hgo hw'
    have hgn:=h'.gn
    have hgf:=h'.gf0
    have hgw:=h'.gw0
    simp [zbn,hlt,zjn]
    generalize l[i]=f at *
    obtain ⟨fnm,ps,body⟩:=f
    dsimp only [Fnc.avs]
    have ne_0:gk ≠ gf∧gf ≠ gk∧gk ≠ gw∧gw ≠ gk∧gf ≠ gw∧gw ≠ gf∧gk ≠ m'∧m' ≠ gk∧gf ≠ m'∧m' ≠ gf∧gw ≠ m'∧m' ≠ gw:=⟨by omega,by omega,by omega,by omega,by omega,by omega,by omega,by omega,by omega,by omega,by omega,by omega⟩
    simp [row,ne_0]
    show LNL (.ro (ps.map strC)) _
    simp
    have hL:RfM gk gf gw fns (ps.length:Int) ws' ((H'.put m' (some (.row 3 [.str fnm,.ro (ps.map strC),.ro (body.map Sm.avs)]))).put gk (some (.row 3 [.amap gf,.int .i64 (ps.length:Int),.amap gw]))) (m'+1) :=
      ⟨Heap.put_at _ _ _,by rw [Heap.put_ne _ _ (by omega),Heap.put_ne _ _ (by omega)]; exact h'.map,by rw [Heap.put_ne _ _ (by omega),Heap.put_ne _ _ (by omega)]; exact wds,hgf,hgw,by omega⟩
    have hkk:∀ y,y < gf→((H'.put m' (some (.row 3 [.str fnm,.ro (ps.map strC),.ro (body.map Sm.avs)]))).put gk (some (.row 3 [.amap gf,.int .i64 (ps.length:Int),.amap gw]))) y=H y:=fun y hy=>by rw [Heap.put_ne _ _ (by omega),Heap.put_ne _ _ (by omega)]; exact hk y hy
    have hE:za Tryd.prog 36 [.ptr gk 0,.ro (body.map Sm.avs),.ro (ps.map strC)] ((H'.put m' (some (.row 3 [.str fnm,.ro (ps.map strC),.ro (body.map Sm.avs)]))).put gk (some (.row 3 [.amap gf,.int .i64 (ps.length:Int),.amap gw]))) (m'+1) (zdt Q [.ptr gk 0,.ro (l.map Fnc.avs),.int .i64 l.length,.int .i64 i] J):=by
      generalize Heap.put (Heap.put H' m' _) gk _=HX at hL hkk ⊢
      simp only at hf4 hw' hgo
      refine zyf gk gf gw fns body ps (ps.length:Int) ws' (.ro (ps.map strC)) HX (m'+1) _ hL ⟨.ro,fun y hy=>by simp [owns] at hy⟩ (by omega) (by omega) (by omega) fun H2 m2 h2 e2 => ?_
      have hwi:IntKind.i64.wrap ((i:Int)+1)=(i:Int)+1:=i64w (by omega)
      have hk2:∀ y,y < gf→H2 y=H y:=fun y hy=>by rw [e2.keep y (by omega) (by omega) (by omega)]; exact hkk y hy
      by_cases hz:(VM.smCL fns ps body ((ps.length:Int),ws')).2=0
      · rw [if_neg (by simpa using hz)] at hgo
        simp [zdt,hz,hwi]
        rw [← hJ]
        exact ⟨j,by omega,i+1,_,_,by omega,rfl,h2,hk2,by omega,hgo⟩
      · rw [if_pos hz] at hgo
        rw [hgo] at hbad
        simp [zdt,hz]
        exact hbad hz H2 m2 hk2
    exact hE
def VM.unlikeTo (l:List Str) (j:Nat):Bool:=(List.range j).all fun i=>decide (l.getD i []∉l.take i)
theorem zsw (l:List Str) (j:Nat):VM.unlikeTo l (j+1)=(VM.unlikeTo l j && decide (l.getD j []∉l.take j)):=by
  unfold VM.unlikeTo
  rw [List.range_succ,List.all_append]
  simp
set_option maxHeartbeats 2000000 in
theorem zye {gk gf gw s:Nat} {fns:List (Str×Nat)} {fnm:Str} {ps:List Str} {body:List Sm} {A0 L:AV} {had:Bool} {len i:Nat} {H:Heap} {m:Nat} {Q:QT} {K:J3} (h:RfM gk gf gw fns 0 [] H m) (hs:H s=some (.row 3 (Fnc.mk fnm ps body).avs)) (hp:ps.length≤4294967296) (hi:i < 4294967296)
    (h7:(had || !VM.unlike ps)=true→Q (.int .i64 7) H m)
    (h5:(had || !VM.unlike ps)=false→4 < ps.length→Q (.int .i64 5) H m)
    (hok:(had || !VM.unlike ps)=false→¬ 4 < ps.length→∀ es,(match zah (.str fnm) (fns.map fun p=>(.str p.1,.int .i64 p.2)) with | some (some (q,_))=>some ((fns.map fun p=>(AV.str p.1,AV.int .i64 (p.2:Int))).set q (.str fnm,.int .i64 (ps.length:Int))) | some none=>some ((fns.map fun p=>(AV.str p.1,AV.int .i64 (p.2:Int))) ++ [(.str fnm,.int .i64 (ps.length:Int))]) | none=>none)=some es →
      K [A0,.ptr gk 0,L,.int .i64 len,.int .i64 ((i:Int)+1)] (H.put gf (some (.mp es))) m) :
    LP (zat Q K) [A0,.ptr gk 0,.ptr s 0,.bool had,L,.int .i64 len,.int .i64 i,.ro (ps.map strC),.int .i64 ps.length,.int .i64 0] H m:=by
  have row:=h.row
  have hmap:=h.map
  have hgf:=h.gf0
  have hgw:=h.gw0
  refine LP.mk (fun q xs H' m'=>∃ j:Nat,j+q=ps.length∧xs=[A0,.ptr gk 0,.ptr s 0,.bool (had || !VM.unlikeTo ps j),L,.int .i64 len,.int .i64 i,.ro (ps.map strC),.int .i64 ps.length,.int .i64 j]∧H'=H∧m'=m) ps.length ⟨0,by omega,by simp [VM.unlikeTo],rfl,rfl⟩ ?_
  rintro q xs H' m' ⟨j,hj,rfl,rfl,rfl⟩
  generalize hJ:(fun (xs:List AV) (H2:Heap) (m2:Nat)=>∃ q',q' < q∧∃ j:Nat,j+q'=ps.length∧xs=[A0,.ptr gk 0,.ptr s 0,.bool (had || !VM.unlikeTo ps j),L,.int .i64 len,.int .i64 i,.ro (ps.map strC),.int .i64 ps.length,.int .i64 j]∧H2=H'∧m2=m')=J
  cases q with
  | zero =>
    have ej:j=ps.length:=by omega
    subst ej
    have eu:VM.unlikeTo ps ps.length=VM.unlike ps:=rfl
    rw [eu]
    cases hb:(had || !VM.unlike ps) with
    | true=>have:=h7 hb; simp [zat,this]
    | false =>
      dsimp only [Fnc.avs] at hs
      by_cases h4:4 < ps.length
      · have h4':(4:Int) < ps.length:=by omega
        have:=h5 hb h4
        simp [zat,hs,h4',this]
      · have h4':¬ (4:Int) < ps.length:=by omega
        have hwi:IntKind.i64.wrap ((i:Int)+1)=(i:Int)+1:=i64w (by omega)
        obtain ⟨r,f1,f2⟩:=zjo fnm fns
        have ok:=hok hb h4
        rw [f1] at ok
        simp [zat,hs,h4',row,hmap,f1,hwi]
        cases r with
        | none=>simp; exact ok _ rfl
        | some p=>obtain ⟨q,v⟩:=p; simp; exact ok _ rfl
  | succ q =>
    have hlt:j < ps.length:=by omega
    have hx:ps[j]? = some ps[j]:=List.getElem?_eq_getElem hlt
    have hgd:ps.getD j []=ps[j]:=by rw [List.getD_eq_getElem?_getD,hx]; rfl
    have hwj:IntKind.i64.wrap ((j:Int)+1)=(j:Int)+1:=i64w (by omega)
    have hj0:(0:Int)≤j:=by omega
    have hjle:(j:Int)≤ps.length:=by omega
    have eu:(had || !VM.unlikeTo ps (j+1))=((had || !VM.unlikeTo ps j) || decide (ps[j]∈ps.take j)):=by
      rw [zsw,hgd]
      cases had <;> cases VM.unlikeTo ps j <;> simp
    dsimp only [Fnc.avs] at hs
    cases hb:(had || !VM.unlikeTo ps j) with
    | true =>
      rw [hb] at eu
      simp [zat,hlt,strC,hwj]
      rw [← hJ]
      exact ⟨q,by omega,j+1,by omega,by rw [eu]; rfl,rfl,rfl⟩
    | false =>
      rw [hb,Bool.false_or] at eu
      simp [zat,hlt,strC,hs]
      rw [zacs]
      refine ⟨hj0,by rw [List.length_map]; exact hjle,zmu,?_⟩
      rw [Int.toNat_natCast,← List.map_take]
      refine (zyu (ps.take j) ps[j] (by rw [List.length_take]; omega)).call ?_
      simp [zkr,hwj]
      rw [← hJ]
      exact ⟨q,by omega,j+1,by omega,by rw [eu]; rfl,rfl,rfl⟩
end Go.Proofs.YtpllgpgdcbgalaaDoor
set_option maxRecDepth 8000
namespace Go.Proofs.YtpllgpgdcbgalaaDoor
open Go Go.RowKit
set_option maxHeartbeats 2000000 in
theorem zyc {gk gf gw:Nat} {f0:Fnc} {l0 l:List Fnc} (hl0:l=f0 :: l0) {H:Heap} {m:Nat} {Q:QT} (h:RfM gk gf gw [] 0 [] H m) (hw:zax l≤4294967296) (hl:l.length≤5)
    (hq:∀ H' m',(∀ y,y < gf→H' y=H y)→Q (.int .i64 (VM.checkC l)) H' m') :
    LP (zds Q) [.ro (l.map Fnc.avs),.ptr gk 0,.ro (l.map Fnc.avs),.int .i64 l.length,.int .i64 0] H m:=by
  refine LP.mk (fun j xs H' m'=>∃ (i:Nat) (fns:List (Str×Nat)),i+j=l.length∧xs=[.ro (l.map Fnc.avs),.ptr gk 0,.ro (l.map Fnc.avs),.int .i64 l.length,.int .i64 i]∧RfM gk gf gw fns 0 [] H' m'∧(∀ y,y < gf→H' y=H y)∧(∀ f∈l.take i,f.params.length≤4)∧VM.fnsC [] l=VM.fnsC fns (l.drop i)) l.length ⟨0,[],by omega,rfl,h,fun _ _=>rfl,by simp,by simp⟩ ?_
  rintro j xs H' m' ⟨i,fns,hij,rfl,h',hk,h4,hgo⟩
  generalize hJ:(fun (xs:List AV) (H':Heap) (m':Nat)=>∃ j',j' < j∧∃ (i:Nat) (fns:List (Str×Nat)),i+j'=l.length∧xs=[.ro (l.map Fnc.avs),.ptr gk 0,.ro (l.map Fnc.avs),.int .i64 l.length,.int .i64 i]∧RfM gk gf gw fns 0 [] H' m'∧(∀ y,y < gf→H' y=H y)∧(∀ f∈l.take i,f.params.length≤4)∧VM.fnsC [] l=VM.fnsC fns (l.drop i))=J
  have hcheck:∀ z,z ≠ 0→(VM.fnsC [] l).2=z→VM.checkC l=z:=by
    intro z hz e
    subst hl0
    unfold VM.checkC
    simp only
    rw [if_neg (by simp only [List.length_cons] at hl; omega),if_pos (by rw [e]; exact hz),e]
  have row:=h'.row
  have hmap:=h'.map
  have hgn:=h'.gn
  have hgf:=h'.gf0
  have hgw:=h'.gw0
  cases j with
  | zero =>
    have ei:i=l.length:=by omega
    subst ei
    rw [List.drop_length] at hgo
    rw [List.take_length] at h4
    have e0:VM.fnsC fns []=(fns,0):=rfl
    rw [e0] at hgo
    subst hl0
    have hc:VM.checkC (f0 :: l0)=if 0 < f0.params.length then 10 else if (VM.bodiesC fns (f0 :: l0) []).2 ≠ 0 then (VM.bodiesC fns (f0 :: l0) []).2 else if 16 < (VM.bodiesC fns (f0 :: l0) []).1.length then 4 else 0:=by
      unfold VM.checkC
      simp only
      rw [if_neg (by simp only [List.length_cons] at hl; omega),hgo,if_neg (by simp)]
    rw [hc] at hq
    simp [zds]
    refine ⟨zjn f0,?_⟩
    show OPTK (some (AV.ro (f0.params.map strC))) _
    simp
    by_cases hp0:0 < f0.params.length
    · rw [if_pos hp0] at hq
      have hne:¬ f0.params=[]:=fun e=>by rw [e] at hp0; simp at hp0
      have hne2:¬ (f0.params.length:Int)=0:=by omega
      have:=hq H' m' hk
      simp [hne,this]
    · rw [if_neg hp0] at hq
      have hnil:f0.params=[]:=List.length_eq_zero_iff.1 (by omega)
      have hfin:LP (zbn Q) [.ptr gk 0,.ro ((f0 :: l0).map Fnc.avs),.int .i64 (f0 :: l0).length,.int .i64 0] H' m' :=
        zyd h' hw h4 (by omega) (fun hz H2 m2 hk2=>by
          have:=hq H2 m2 fun y hy=>(hk2 y hy).trans (hk y hy)
          rw [if_pos hz] at this
          exact this) fun hz H2 m2 hk2=>by
          have:=hq H2 m2 fun y hy=>(hk2 y hy).trans (hk y hy)
          rw [if_neg (by simpa using hz)] at this
          exact this
      simp [hnil]
      simp at hfin
      exact hfin
  | succ j =>
    have hlt:i < l.length:=by omega
    have hdr:l.drop i=l[i] :: l.drop (i+1):=List.drop_eq_getElem_cons hlt
    rw [hdr] at hgo
    have hpl:=zsj (List.getElem_mem hlt)
    have hts:l.take (i+1)=l.take i ++ [l[i]]:=List.take_succ_eq_append_getElem hlt
    simp only [VM.fnsC] at hgo
    simp [zds,hlt,zjn]
    generalize l[i]=f at *
    obtain ⟨fnm,ps,body⟩:=f
    obtain ⟨r,f1,f2⟩:=zjo fnm fns
    dsimp only [Fnc.avs]
    have ne_0:gk ≠ gf∧gf ≠ gk∧gk ≠ gw∧gw ≠ gk∧gf ≠ gw∧gw ≠ gf∧gk ≠ m'∧m' ≠ gk∧gf ≠ m'∧m' ≠ gf∧gw ≠ m'∧m' ≠ gw:=⟨by omega,by omega,by omega,by omega,by omega,by omega,by omega,by omega,by omega,by omega,by omega,by omega⟩
    simp [row,hmap,ne_0]
    show zn .str (.str fnm)=true∧OPTK (zah (.str fnm) _) _
    rw [f1]
    simp
    simp only at hgo hpl
    have hHm:(H'.put m' (some (.row 3 [.str fnm,.ro (ps.map fun w=>[.str w]),.ro (body.map Sm.avs)]))) m'=some (.row 3 (Fnc.mk fnm ps body).avs):=Heap.put_at _ _ _
    have keep:∀ y,y < m'→(H'.put m' (some (.row 3 [.str fnm,.ro (ps.map fun w=>[.str w]),.ro (body.map Sm.avs)]))) y=H' y:=fun y hy=>Heap.put_ne _ _ (by omega)
    have hkk:∀ y,y < gf→(H'.put m' (some (.row 3 [.str fnm,.ro (ps.map fun w=>[.str w]),.ro (body.map Sm.avs)]))) y=H y:=fun y hy=>by rw [Heap.put_ne _ _ (by omega)]; exact hk y hy
    have rf1:=h'.old (m':=m'+1) (by omega) keep
    have hsome:(fns.lookup fnm).isSome=r.isSome:=by
      cases r with
      | none=>simp only at f2; simp [f2]
      | some p=>simp only at f2; rw [Option.isSome_some]; exact Option.isSome_iff_ne_none.2 f2.1
    have fin : ∀ v,LP (zat Q J) [.ro (l.map Fnc.avs),.ptr gk 0,.ptr m' 0,.bool r.isSome,.ro (l.map Fnc.avs),.int .i64 l.length,.int .i64 i,.ro (ps.map strC),.int .i64 ps.length,.int .i64 0] (H'.put m' (some (.row 3 [.str fnm,.ro (ps.map fun w=>[.str w]),.ro (body.map Sm.avs)]))) (m'+1)∨v=true:=fun v=>.inl <| by
      refine zye rf1 hHm (by omega) (by omega) (fun hb => ?_) (fun hb h5 => ?_) fun hb h5 es hes => ?_
      · have := hq _ (m'+1) hkk
        rw [hcheck 7 (by decide) (by
          rw [hgo,if_pos (by
            rw [← hsome] at hb
            simpa using hb)])] at this
        exact this
      · have hnn:¬ ((fns.lookup fnm).isSome=true∨VM.unlike ps=false):=fun hc=>by
          rw [← hsome] at hb
          rcases hc with hc | hc <;> rw [hc] at hb <;> simp at hb
        rw [if_neg hnn,if_pos h5] at hgo
        have:=hq _ (m'+1) hkk
        rw [hcheck 5 (by decide) (by rw [hgo])] at this
        exact this
      · have hnn:¬ ((fns.lookup fnm).isSome=true∨VM.unlike ps=false):=fun hc=>by
          rw [← hsome] at hb
          rcases hc with hc | hc <;> rw [hc] at hb <;> simp at hb
        rw [if_neg hnn,if_neg h5] at hgo
        cases r with
        | some p=>simp at hb
        | none =>
          rw [f1] at hes
          simp only [Option.some.injEq] at hes
          subst hes
          rw [← hJ]
          refine ⟨j,by omega,i+1,fns ++ [(fnm,ps.length)],by omega,rfl,⟨?_,?_,?_,hgf,hgw,by omega⟩,fun y hy => ?_,fun f hf => ?_,hgo⟩
          · rw [Heap.put_ne _ _ (by omega)]; exact rf1.row
          · rw [Heap.put_at,List.map_append]; rfl
          · rw [Heap.put_ne _ _ (by omega)]; exact rf1.wds
          · rw [Heap.put_ne _ _ (by omega)]; exact hkk y hy
          · rw [hts] at hf
            rcases List.mem_append.1 hf with hf | hf
            · exact h4 f hf
            · rw [List.mem_singleton.1 hf]; simp only; omega
    have fin:=(fin false).resolve_right (by simp)
    cases r with
    | none=>simp at fin ⊢; exact fin
    | some p=>obtain ⟨q,v⟩:=p; simp at fin ⊢; exact fin
theorem zyb (l:List Fnc) (hw:zax l≤4294967296):QC Tryd.prog 12 [.ro (l.map Fnc.avs)] (.int .i64 (VM.checkC l)):=by
  refine QC.of' fun H n => ?_
  suffices main:∀ Q:QT,(∀ H' n',Keep n H' H→Q (.int .i64 (VM.checkC l)) H' n')→za Tryd.prog 12 [.ro (l.map Fnc.avs)] H n Q from main _ fun H' n' b=>⟨by simp,b⟩
  intro Q hq
  refine znx _ _ _ _ ?_
  have hK:Keep n H H:=by simp
  cases l with
  | nil =>
    have:=hq H n hK
    simp [zdr]
    exact this
  | cons f0 l0 =>
    have h1:¬ (l0.length:Int)+1=0:=by omega
    by_cases h5:5 < l0.length+1
    · have e:VM.checkC (f0 :: l0)=5:=by unfold VM.checkC; simp only; rw [if_pos h5]
      have h5':(5:Int) < l0.length+1:=by omega
      have:=hq H n hK
      rw [e] at this
      simp [zdr,h5',h1]
      exact this
    · have h5':¬ (5:Int) < l0.length+1:=by omega
      have hL:RfM (n+2) n (n+1) [] 0 [] (((H.put n (some (.mp []))).put (n+1) (some (.mp []))).put (n+2) (some (.row 3 [.amap n,.int .i64 0,.amap (n+1)]))) (n+3) :=
        ⟨Heap.put_at _ _ _,by rw [Heap.put_ne _ _ (by omega),Heap.put_ne _ _ (by omega),Heap.put_at]; rfl,by rw [Heap.put_ne _ _ (by omega),Heap.put_at]; rfl,by omega,by omega,by omega⟩
      have fin:=zyc (l:=f0 :: l0) (Q:=Q) rfl hL hw (by simp only [List.length_cons]; omega) fun H' m' hk=>hq H' m' fun y hy=>by rw [hk y hy,Heap.put_ne _ _ (by omega),Heap.put_ne _ _ (by omega),Heap.put_ne _ _ (by omega)]
      simp [zdr,h5',h1]
      simp at fin
      exact fin
end Go.Proofs.YtpllgpgdcbgalaaDoor
set_option maxRecDepth 8000
namespace Go.Proofs.YtpllgpgdcbgalaaDoor
open Go Go.RowKit
namespace VM
theorem exWL_sum:∀ l:List Ex,exWL l=(l.map exW).sum
  | []=>by simp [exWL]
  | x :: r=>by simp [exWL,exWL_sum r]
theorem smWL_sum:∀ l:List Sm,smWL l=(l.map smW).sum
  | []=>by simp [smWL]
  | x :: r=>by simp [smWL,smWL_sum r]
def Fits {α:Type} (m:St→α×St) (w:α→Nat):Prop:=∀ st,(m st).2.2=0→w (m st).1+(m st).2.1.length≤st.1.length
theorem until_zero {α:Type} {m:St→α×St}:∀ (k:Nat) (st:St),(untilF m k st).2.2=0→st.2=0
  | 0,st,h=>h
  | k+1,st,h=>by
    unfold untilF at h
    split at h
    · rename_i hc; exact hc.1
    · exact not_zero must_stuck h
theorem Fits.until {α:Type} {m:St→α×St} {w:α→Nat} (hf:Fits m w):∀ (k:Nat) (st:St),(untilF m k st).2.2=0→((untilF m k st).1.map w).sum+(untilF m k st).2.1.length≤st.1.length
  | 0,st,_=>by simp [untilF]
  | k + 1,st,h=>by
    unfold untilF at h ⊢
    split
    · rename_i hc
      rw [if_pos hc] at h
      have h1:=hf.until k _ h
      have h2:=hf (trim st.1,0) (until_zero k _ h)
      have h3:=trim_le st.1
      simp only [List.map_cons,List.sum_cons] at *
      omega
    · have:=must_le 41 st
      simp only [List.map_nil,List.sum_nil]
      omega
theorem Fits.many {α:Type} {m:St→α×St} {w:α→Nat} (hf:Fits m w):Fits (manyF m) (fun l=>(l.map w).sum):=fun st h=>hf.until _ st h
theorem fits_one {α:Type} {m:St→α×St} (hm:Nice m):Fits m (fun _=>1):=fun st h=>by
  have:=hm.eats st (not_zero (hm.stuck st) h) h
  show 1+_≤_
  omega
theorem Fits.times {α:Type} {m:St→α×St} {w:α→Nat} (hm:Nice m) (hf:Fits m w):∀ (k:Nat),Fits (timesF m k) (fun l=>(l.map w).sum)
  | 0=>fun st _=>by simp [timesF]
  | k+1=>fun st h=>by
    unfold timesF at h ⊢
    have h1:=Fits.times hm hf k _ h
    have h2:=hf st ((flow_times hm k _).2 h)
    simp only [List.map_cons,List.sum_cons] at *
    omega
theorem fits_form {m:St→Ex×St} (hm:Nice m) (hf:Fits m exW) (w:Str) (st:St) (h:(formF m w st).2.2=0):exW (formF m w st).1+(formF m w st).2.1.length≤st.1.length+1:=by
  have key:∀ s:St,(manyF m s).2.2=0→exWL (manyF m s).1+(manyF m s).2.1.length≤s.1.length:=fun s h=>by rw [exWL_sum]; exact hf.many s h
  unfold formF at *
  cases hw:headOf w with
  | some p =>
    obtain ⟨k,n,want⟩:=p
    rw [hw] at h
    dsimp only at *
    split at h
    · rename_i hc; rw [if_pos hc]; have:=key _ h; unfold exW; omega
    · exact absurd h (bad_err (by decide))
  | none =>
    rw [hw] at h
    dsimp only at *
    have hs:(if name w then st else badF 7 st).1.length=st.1.length:=by split <;> rfl
    generalize (if name w=true then st else badF 7 st)=s at *
    split at h
    · rename_i hc; rw [if_pos hc]; have:=key _ h; unfold exW; omega
    · exact absurd h (bad_err (by decide))
theorem leaf_quoted (t:Str) (e:Int):exW (quotedF t e).1=1:=by
  unfold quotedF
  split <;> simp [exW,exWL]
theorem leaf_plain (st:St):exW (plainF st).1=1:=by
  unfold plainF
  split <;> simp [exW,exWL]
theorem fits_expr:∀ d,Fits (exprF d) exW
  | 0=>fun st h=>absurd h (bad_err (by decide))
  | d + 1 => fun st h=>by
    have ih:=fits_expr d
    have eats:=(nice_expr (d+1)).eats st (not_zero ((nice_expr (d+1)).stuck st) h) h
    have ht:=trim_le st.1
    unfold exprF at *
    split at h
    · rename_i hc; exact absurd h hc
    · rename_i hc
      rw [if_neg hc] at *
      split at h
      · rename_i h2
        rw [if_pos h2] at *
        rw [leaf_quoted]; omega
      · rename_i h2
        rw [if_neg h2] at *
        split at h
        · rename_i h3
          rw [if_pos h3] at *
          rw [leaf_plain]; omega
        · rename_i h3
          rw [if_neg h3] at *
          have h4:=fits_form (nice_expr d) ih _ _ h
          have h5:=w_eats (form_zero (nice_expr d) h)
          simp only [List.length_drop] at h5
          have h6:nxt st.1=40:=by simpa using h3
          have h7:nxt st.1 ≠ 0:=by rw [h6]; decide
          have:0 < (trim st.1).length:=by
            obtain ⟨c,r,hc⟩:=zjm h7
            rw [hc]; simp
          omega
theorem fits_stmt:∀ d,Fits (stmtF d) smW
  | 0=>fun st h=>absurd h (bad_err (by decide))
  | d + 1 => fun st h=>by
    have ih:=fits_stmt d
    have hM:∀ s:St,(manyF (stmtF d) s).2.2=0→smWL (manyF (stmtF d) s).1+(manyF (stmtF d) s).2.1.length≤s.1.length:=fun s h=>by rw [smWL_sum]; exact ih.many s h
    have fM:∀ s:St,Flow s (manyF (stmtF d) s).2:=fun s=>(nice_many (nice_stmt d)).flow s
    by_cases hc:st.2 ≠ 0
    · unfold stmtF at h; rw [if_pos hc] at h; exact absurd h hc
    · simp only [stmtF] at h ⊢
      rw [if_neg hc] at h ⊢
      have f1:=flow_w (mustF 40 st)
      have w1:=w_eats (st:=mustF 40 st)
      have m1:=must_le 40 st
      generalize wF (mustF 40 st)=w at *
      have f2:Flow w.2 (if stKind w.1=0 then badF 1 w.2 else w.2):=by
        split
        · exact flow_bad 1 _
        · exact .refl _
      generalize (if stKind w.1=0 then badF 1 w.2 else w.2)=s1 at *
      have f3:=flow_nm (stKind w.1) s1
      generalize nmF (stKind w.1) s1=nm at *
      have f4:=flow_times (nice_expr d) (argsOf (stKind w.1)) nm.2
      have e4:=(fits_expr d).times (nice_expr d) (argsOf (stKind w.1)) nm.2
      generalize timesF (exprF d) (argsOf (stKind w.1)) nm.2=a at *
      have f5:=(f2.trans f3).trans f4
      simp only [← exWL_sum] at e4
      have fin:a.2.2=0→1+exWL a.1+a.2.1.length≤st.1.length:=fun ha=>by
        have h1:=e4 ha
        have h2:=w1 (f5.2 ha)
        have h3:=(f2.trans f3).1
        omega
      by_cases h3:stKind w.1=3
      · rw [if_pos h3] at h ⊢
        simp only [smW]
        have g1:=(flow_must 41 _).2 h
        have g2:=hM _ g1
        have g3:=(flow_must 40 _).2 ((fM _).2 g1)
        have g4:=hM _ g3
        have g5:=(flow_must 40 _).2 ((fM _).2 g3)
        have g6:=fin g5
        have q1:=must_le 41 (manyF (stmtF d) (mustF 40 (manyF (stmtF d) (mustF 40 a.2)).2)).2
        have q2:=must_le 40 (manyF (stmtF d) (mustF 40 a.2)).2
        have q3:=must_le 40 a.2
        omega
      · rw [if_neg h3] at h ⊢
        by_cases h4:stKind w.1=4
        · rw [if_pos h4] at h ⊢
          simp only [smW,smWL]
          have g1:=hM _ h
          have g2:=fin ((fM _).2 h)
          omega
        · rw [if_neg h4] at h ⊢
          simp only [smW,smWL]
          have g2:=fin ((flow_must 41 _).2 h)
          have q1:=must_le 41 a.2
          omega
def fncW (f:Fnc):Nat:=f.params.length+smWL f.body
theorem sum_one {α:Type} (l:List α):(l.map fun _=>1).sum=l.length:=by
  induction l with
  | nil=>rfl
  | cons x r ih=>simp [ih]; omega
theorem fits_fn:Fits fnF fncW:=fun st h=>by
  unfold fnF at *
  simp only [fncW] at *
  have b1:=(fits_stmt 11).many _ h
  have b2:=(fits_one nice_n).many _ ((nice_many (nice_stmt 11)).flow _ |>.2 h)
  have b3:=must_le 40 (nF (mustF 40 st)).2
  have b4:=(zace (mustF 40 st)).2
  have b5:=must_le 40 st
  simp only [← smWL_sum] at b1
  simp only [sum_one] at b2
  omega
theorem fits_fns:∀ (k:Nat) (st:St),(fnsF k st).2.2=0→zax (fnsF k st).1+(fnsF k st).2.1.length≤st.1.length
  | 0,st,_=>by simp [fnsF,zax]
  | k + 1,st,h=>by
    unfold fnsF at h ⊢
    have zero:∀ (k:Nat) (st:St),(fnsF k st).2.2=0→st.2=0:=fun k st h=>by
      cases k with
      | zero=>exact h
      | succ k =>
        unfold fnsF at h
        split at h
        · rename_i hc; exact hc.1
        · exact h
    split
    · rename_i hc
      rw [if_pos hc] at h
      have h1:=fits_fns k _ h
      have h2:=fits_fn (trim st.1,0) (zero k _ h)
      have h3:=trim_le st.1
      simp only [zax,fncW] at *
      omega
    · have h3:=trim_le st.1
      simp only [zax]
      split <;> (try simp only) <;> omega
theorem parse_fits (s:Str) (h:(parseF s).2=0):zax (parseF s).1≤1500:=by
  unfold parseF at *
  split at h
  · cases h
  · rename_i h1
    rw [if_neg h1] at *
    split at h
    · rename_i h2; exact absurd h h2
    · rename_i h2
      rw [if_neg h2]
      have:=fits_fns (s.length+2) (s,0) (by simpa using h2)
      simp only at *
      omega
end VM
end Go.Proofs.YtpllgpgdcbgalaaDoor
set_option maxRecDepth 8000
namespace Go.Proofs.YtpllgpgdcbgalaaDoor
open Go Go.RowKit
def Val.avs (v:Val):List AV:=[.int .i64 v.kind,.int .i64 v.n,.str v.text]
def Cl.avs (c:Cl):List AV:=c.left.avs ++ c.right.avs
def Ins.avs (i:Ins):List AV:=[.int .i64 i.op,.int .i64 i.a,.int .i64 i.b]
@[simp] theorem zajg (v:Val):v.avs.length=3:=rfl
@[simp] theorem zafj (c:Cl):c.avs.length=6:=rfl
def Cod.avs (c:Cod):List AV:=[.int .i64 c.params,.int .i64 c.vars,.ro (c.ins.map Ins.avs)]
def Prg.avs (p:Prg):List AV:=[.ro (p.codes.map Cod.avs),.ro (p.words.map fun w=>[.str w])]
def Prg.ok (p:Prg):Prop:=∀ w∈p.words,w.length≤maxLen
def Frm.avs (f:Frm):List AV:=[.int .i64 f.fn,.int .i64 f.at_,.ro (f.vars.map Val.avs),.ro (f.stack.map Val.avs)]
def Agt.avs (a:Agt):List AV:=[.int .i64 a.id,.int .i64 a.trip,.ro (a.prog.codes.map Cod.avs),.ro (a.prog.words.map fun w=>[.str w]),.ro (a.frames.map Frm.avs),.ro (a.heap.map Cl.avs),.int .i64 a.permit.fuel,.int .i64 a.permit.room,.int .i64 a.permit.hops]
end Go.Proofs.YtpllgpgdcbgalaaDoor
set_option maxRecDepth 8000
namespace Go.Proofs.YtpllgpgdcbgalaaDoor
open Go Go.RowKit
namespace VM
abbrev Env:=List (Str×Nat)
def look (env:Env) (t:Str):Nat:=(env.lookup t).getD 0
def idx (names:List Str) (t:Str):Int:=if t∈names then (names.idxOf t:Int) else -1
def opE (k:Int):Int:=if k=5 then 6 else if k=6 then 7 else if k=7 then 8 else if k=8 then 11 else if k=9 then 12 else 13
def hdI (names:List Str) (env:Env) (k z:Int) (t:Str) (n:Nat) (ws:List Str):List Str×List Ins :=
  if k=1 then (ws,[⟨1,z,0⟩])
  else if k=2 then (addW ws t,[⟨2,(ws.idxOf t:Int),0⟩])
  else if k=3 then (ws,[⟨3,(look env t:Int),0⟩])
  else if k=4 then (ws,[⟨5,z,0⟩])
  else if k=11 then (ws,[⟨17,idx names t,(n:Int)⟩])
  else if 5≤k∧k≤10 then (ws,[⟨opE k,0,0⟩])
  else (ws,[])
mutual
def exI (names:List Str) (env:Env):Ex→List Str→List Str×List Ins
  | .mk k z t ar,ws=>((hdI names env k z t ar.length (exIL names env ar ws).1).1,(exIL names env ar ws).2 ++ (hdI names env k z t ar.length (exIL names env ar ws).1).2)
def exIL (names:List Str) (env:Env):List Ex→List Str→List Str×List Ins
  | [],ws=>(ws,[])
  | x :: r,ws=>((exIL names env r (exI names env x ws).1).1,(exI names env x ws).2 ++ (exIL names env r (exI names env x ws).1).2)
end
mutual
def dpE:Ex→Nat
  | .mk _ _ _ ar=>max 1 (dpA ar 0)
def dpA:List Ex→Nat→Nat
  | [],_=>0
  | x :: r,i=>max (i+dpE x) (dpA r (i+1))
end
abbrev MkS:=List Str×Nat
def opS (k:Int):List Ins:=if k=5 then [⟨14,0,0⟩] else if k=6 then [⟨18,0,0⟩] else if k=7 then [⟨9,0,0⟩] else if k=8 then [⟨10,0,0⟩] else if k=9 then [⟨19,0,0⟩] else []
mutual
def stI (names:List Str) (env:Env) (b:Nat):Sm→MkS→MkS×Env×List Ins
  | .mk k nm ar t e,s =>
    let a:=exIL names env ar s.1
    let p:=b+a.2.length+1
    let t':=stIL names env p t (a.1,s.2)
    let q:=p+t'.2.length+1
    let e':=stIL names env q e t'.1
    if k=1 then ((a.1,s.2+1),(nm,s.2) :: env,a.2 ++ [⟨4,(s.2:Int),0⟩])
    else if k=2 then ((a.1,s.2),env,a.2 ++ [⟨4,(look env nm:Int),0⟩])
    else if k=3 then (e'.1,env,a.2 ++ (⟨16,(q:Int),0⟩ :: (t'.2 ++ (⟨15,((q+e'.2.length:Nat):Int),0⟩ :: e'.2))))
    else if k=4 then (t'.1,env,a.2 ++ (⟨16,(q:Int),0⟩ :: (t'.2 ++ [⟨15,(b:Int),0⟩])))
    else ((a.1,s.2),env,a.2 ++ opS k)
def stIL (names:List Str) (env:Env) (b:Nat):List Sm→MkS→MkS×List Ins
  | [],s=>(s,[])
  | x :: r,s =>
    let p:=stI names env b x s
    let q:=stIL names p.2.1 (b+p.2.2.length) r p.1
    (q.1,p.2.2 ++ q.2)
end
mutual
def hiS:Sm→Nat
  | .mk k _ ar t e=>max (dpA ar 0) (if k=3 then max (hiL t) (hiL e) else if k=4 then hiL t else 0)
def hiL:List Sm→Nat
  | []=>0
  | x :: r=>max (hiS x) (hiL r)
end
def penv:List Str→Nat→Env→Env
  | [],_,env=>env
  | n :: r,i,env=>penv r (i+1) ((n,i) :: env)
def fnI (names:List Str) (f:Fnc) (ws:List Str):List Str×Cod :=
  let q:=stIL names (penv f.params 0 []) 0 f.body (ws,f.params.length)
  (q.1.1,⟨(f.params.length:Int),(q.1.2:Int),q.2 ++ [⟨1,0,0⟩,⟨18,0,0⟩]⟩)
def mkL (names:List Str):List Fnc→List Str→Option (List Cod×List Str)
  | [],ws=>some ([],ws)
  | f :: r,ws=>if 200 < (fnI names f ws).2.ins.length∨16 < hiL f.body then none else (mkL names r (fnI names f ws).1).map fun p=>((fnI names f ws).2 :: p.1,p.2)
def makeP (l:List Fnc):Prg×Int:=match mkL (l.map (·.name)) l [] with
  | none=>(⟨[],[]⟩,4)
  | some p=>(⟨p.1,p.2⟩,0)
/- How much of it there is. -/
theorem hdI_le (names:List Str) (env:Env) (k z:Int) (t:Str) (n:Nat) (ws:List Str):(hdI names env k z t n ws).1.length≤ws.length+1∧(hdI names env k z t n ws).2.length≤1:=by
  have:=addW_le ws t
  unfold hdI
  (repeat' split) <;> simp only [List.length_cons,List.length_nil] <;> omega
mutual
theorem exI_le (names:List Str) (env:Env):∀ (x:Ex) (ws:List Str),(exI names env x ws).1.length≤ws.length+exW x∧(exI names env x ws).2.length≤exW x
  | .mk k z t ar,ws=>by
    have h1:=exIL_le names env ar ws
    have h2:=hdI_le names env k z t ar.length (exIL names env ar ws).1
    unfold exI exW
    simp only [List.length_append]
    omega
theorem exIL_le (names:List Str) (env:Env):∀ (l:List Ex) (ws:List Str),(exIL names env l ws).1.length≤ws.length+exWL l∧(exIL names env l ws).2.length≤exWL l
  | [],ws=>by unfold exIL exWL; simp
  | x :: r,ws=>by
    have h1:=exI_le names env x ws
    have h2:=exIL_le names env r (exI names env x ws).1
    unfold exIL exWL
    simp only [List.length_append]
    omega
end
mutual
theorem dpE_le:∀ x:Ex,dpE x≤exW x
  | .mk _ _ _ ar=>by have:=dpA_le ar 0; unfold dpE exW; omega
theorem dpA_le:∀ (l:List Ex) (i:Nat),dpA l i≤i+exWL l
  | [],i=>by unfold dpA; omega
  | x :: r,i=>by
    have h1:=dpE_le x
    have h2:=dpA_le r (i+1)
    have h3:=exW_pos x
    unfold dpA exWL
    omega
end
theorem opS_le (k:Int):(opS k).length≤1:=by
  unfold opS
  (repeat' split) <;> simp
mutual
def inW:Sm→Nat
  | .mk _ _ ar t e=>2+exWL ar+inWL t+inWL e
def inWL:List Sm→Nat
  | []=>0
  | x :: r=>inW x+inWL r
end
mutual
theorem inW_le:∀ x:Sm,inW x≤2*smW x
  | .mk _ _ ar t e=>by have h1:=inWL_le t; have h2:=inWL_le e; unfold inW smW; omega
theorem inWL_le:∀ l:List Sm,inWL l≤2*smWL l
  | []=>by unfold inWL; omega
  | x :: r=>by have h1:=inW_le x; have h2:=inWL_le r; unfold inWL smWL; omega
end
mutual
theorem stI_le (names:List Str):∀ (x:Sm) (env:Env) (b:Nat) (s:MkS),(stI names env b x s).1.1.length≤s.1.length+smW x∧(stI names env b x s).1.2≤s.2+smW x∧(stI names env b x s).2.2.length≤inW x
  | .mk k nm ar t e,env,b,s=>by
    have h1:=exIL_le names env ar s.1
    have h2:=stIL_le names t env (b+(exIL names env ar s.1).2.length+1) ((exIL names env ar s.1).1,s.2)
    have h3:=stIL_le names e env (b+(exIL names env ar s.1).2.length+1+(stIL names env (b+(exIL names env ar s.1).2.length+1) t ((exIL names env ar s.1).1,s.2)).2.length+1) (stIL names env (b+(exIL names env ar s.1).2.length+1) t ((exIL names env ar s.1).1,s.2)).1
    have h4:=opS_le k
    unfold stI smW inW
    simp only
    (repeat' split) <;> simp only [List.length_append,List.length_cons,List.length_nil] at * <;> omega
theorem stIL_le (names:List Str):∀ (l:List Sm) (env:Env) (b:Nat) (s:MkS),(stIL names env b l s).1.1.length≤s.1.length+smWL l∧(stIL names env b l s).1.2≤s.2+smWL l∧(stIL names env b l s).2.length≤inWL l
  | [],env,b,s=>by unfold stIL smWL; simp
  | x :: r,env,b,s=>by
    have h1:=stI_le names x env b s
    have h2:=stIL_le names r (stI names env b x s).2.1 (b+(stI names env b x s).2.2.length) (stI names env b x s).1
    unfold stIL smWL inWL
    simp only [List.length_append]
    omega
end
end VM
end Go.Proofs.YtpllgpgdcbgalaaDoor
set_option maxRecDepth 8000
namespace Go.Proofs.YtpllgpgdcbgalaaDoor
open Go Go.RowKit
namespace VM
def hdOk (k z:Int) (t:Str) (n:Nat):Prop :=
  (k=1∧n=0 ∧ -1073741824≤z∧z≤1073741824)∨(k=2∧n=0∧word t=true)∨(k=3∧n=0)∨(k=4∧n=2∧1≤z∧z≤5)∨(k=5∧n=2)∨(k=6∧n=1)∨(k=7∧n=1)∨(k=8∧n=1)∨(k=9∧n=0)∨(k=10∧n=1)∨(k=11∧n≤4)
mutual
def okEx:Ex→Prop
  | .mk k z t ar=>hdOk k z t ar.length∧okExL ar
def okExL:List Ex→Prop
  | []=>True
  | x :: r=>okEx x∧okExL r
end
mutual
def okSm:Sm→Prop
  | .mk k _ ar t e=>(1≤k∧k≤9)∧ar.length=argsOf k∧(k ≠ 3→e=[])∧(k ≠ 3→k ≠ 4→t=[])∧okExL ar∧okSmL t∧okSmL e
def okSmL:List Sm→Prop
  | []=>True
  | x :: r=>okSm x∧okSmL r
end
theorem okExL_all:∀ l:List Ex,(∀ x∈l,okEx x)→okExL l
  | [],_=>trivial
  | x :: r,h=>⟨h x (by simp),okExL_all r fun y hy=>h y (by simp [hy])⟩
theorem okSmL_all:∀ l:List Sm,(∀ x∈l,okSm x)→okSmL l
  | [],_=>trivial
  | x :: r,h=>⟨h x (by simp),okSmL_all r fun y hy=>h y (by simp [hy])⟩
def Yields {α:Type} (m:St→α×St) (P:α→Prop):Prop:=∀ st,(m st).2.2=0→P (m st).1
theorem Yields.until {α:Type} {m:St→α×St} {P:α→Prop} (hf:Yields m P):∀ (k:Nat) (st:St),(untilF m k st).2.2=0→∀ x∈(untilF m k st).1,P x
  | 0,st,_=>by simp [untilF]
  | k + 1,st,h=>by
    unfold untilF at h ⊢
    split
    · rename_i hc
      rw [if_pos hc] at h
      have h1:=hf.until k _ h
      have h2:=hf (trim st.1,0) (until_zero k _ h)
      intro x hx
      rcases List.mem_cons.1 hx with rfl | hx
      · exact h2
      · exact h1 x hx
    · intro x hx; simp at hx
theorem Yields.many {α:Type} {m:St→α×St} {P:α→Prop} (hf:Yields m P):Yields (manyF m) (fun l=>∀ x∈l,P x):=fun st h=>hf.until _ st h
theorem times_len {α:Type} (m:St→α×St):∀ (k:Nat) (st:St),(timesF m k st).1.length=k
  | 0,_=>rfl
  | k+1,st=>by unfold timesF; simp [times_len m k]
theorem Yields.times {α:Type} {m:St→α×St} {P:α→Prop} (hm:Nice m) (hf:Yields m P):∀ (k:Nat),Yields (timesF m k) (fun l=>∀ x∈l,P x)
  | 0=>fun st _=>by simp [timesF]
  | k+1=>fun st h=>by
    unfold timesF at h ⊢
    have h1:=Yields.times hm hf k _ h
    have h2:=hf st ((flow_times hm k _).2 h)
    intro x hx
    rcases List.mem_cons.1 hx with rfl | hx
    · exact h2
    · exact h1 x hx
theorem head_hd {w:Str} {k n:Int} {want:Nat} (h:headOf w=some (k,n,want)) (t:Str):hdOk k n t want:=by
  unfold headOf at h
  unfold hdOk
  (repeat' split at h) <;> cases h <;> simp
theorem ok_form {m:St→Ex×St} (hf:Yields m okEx) (w:Str) (st:St) (h:(formF m w st).2.2=0):okEx (formF m w st).1:=by
  have key:∀ s:St,(manyF m s).2.2=0→okExL (manyF m s).1:=fun s h=>okExL_all _ (hf.many s h)
  unfold formF at *
  cases hw:headOf w with
  | some p =>
    obtain ⟨k,n,want⟩:=p
    rw [hw] at h
    dsimp only at *
    split at h
    · rename_i hc
      unfold okEx
      exact ⟨by rw [hc]; exact head_hd hw _,key _ h⟩
    · exact absurd h (bad_err (by decide))
  | none =>
    rw [hw] at h
    dsimp only at *
    generalize (if name w=true then st else badF 7 st)=s at *
    split at h
    · rename_i hc
      unfold okEx
      exact ⟨by unfold hdOk; simp [hc],key _ h⟩
    · exact absurd h (bad_err (by decide))
theorem ok_quoted (t:Str) (e:Int) (h:(quotedF t e).2.2=0):okEx (quotedF t e).1:=by
  unfold quotedF at *
  split at h
  · rename_i hc
    rw [if_pos hc]
    simp only at h
    split at h
    · rename_i hw
      unfold okEx hdOk
      exact ⟨.inr (.inl ⟨rfl,rfl,hw⟩),trivial⟩
    · exact absurd h (bad_err (by decide))
  · exact absurd h (bad_err (by decide))
theorem ok_plain (st:St) (h:(plainF st).2.2=0):okEx (plainF st).1:=by
  unfold plainF at *
  split at h
  · simp only at h
    split at h
    · exact absurd h (bad_err (by decide))
    · rename_i n hn hc
      unfold okEx hdOk
      refine ⟨.inl ⟨rfl,rfl,by omega,by omega⟩,trivial⟩
  · unfold okEx hdOk
    exact ⟨by simp,trivial⟩
theorem ok_expr:∀ d,Yields (exprF d) okEx
  | 0=>fun st h=>absurd h (bad_err (by decide))
  | d + 1 => fun st h=>by
    have ih:=ok_expr d
    unfold exprF at *
    split at h
    · rename_i hc; exact absurd h hc
    · rename_i hc
      rw [if_neg hc] at *
      split at h
      · rename_i h2
        rw [if_pos h2] at *
        exact ok_quoted _ _ h
      · rename_i h2
        rw [if_neg h2] at *
        split at h
        · rename_i h3
          rw [if_pos h3] at *
          exact ok_plain _ h
        · rename_i h3
          rw [if_neg h3] at *
          exact ok_form ih _ _ h
theorem stKind_le (w:Str):0≤stKind w∧stKind w≤9:=by
  unfold stKind
  (repeat' split) <;> omega
theorem ok_stmt:∀ d,Yields (stmtF d) okSm
  | 0=>fun st h=>absurd h (bad_err (by decide))
  | d + 1 => fun st h=>by
    have ih:=ok_stmt d
    have hM:∀ s:St,(manyF (stmtF d) s).2.2=0→okSmL (manyF (stmtF d) s).1:=fun s h=>okSmL_all _ (ih.many s h)
    have fM:∀ s:St,Flow s (manyF (stmtF d) s).2:=fun s=>(nice_many (nice_stmt d)).flow s
    by_cases hc:st.2 ≠ 0
    · unfold stmtF at h; rw [if_pos hc] at h; exact absurd h hc
    · simp only [stmtF] at h ⊢
      rw [if_neg hc] at h ⊢
      generalize wF (mustF 40 st)=w at *
      have hk:=stKind_le w.1
      have hk0:(if stKind w.1=0 then badF 1 w.2 else w.2).2=0→stKind w.1 ≠ 0:=fun h h0=>by
        rw [if_pos h0] at h
        exact absurd h (bad_err (by decide))
      generalize (if stKind w.1=0 then badF 1 w.2 else w.2)=s1 at *
      have f3:=flow_nm (stKind w.1) s1
      generalize nmF (stKind w.1) s1=nm at *
      have f4:=flow_times (nice_expr d) (argsOf (stKind w.1)) nm.2
      have e4:=(ok_expr d).times (nice_expr d) (argsOf (stKind w.1)) nm.2
      have l4:=times_len (exprF d) (argsOf (stKind w.1)) nm.2
      generalize timesF (exprF d) (argsOf (stKind w.1)) nm.2=a at *
      have fin:a.2.2=0→okExL a.1∧1≤stKind w.1:=fun ha=>⟨okExL_all _ (e4 ha),by have:=hk0 ((f3.trans f4).2 ha); omega⟩
      by_cases h3:stKind w.1=3
      · rw [if_pos h3] at h ⊢
        have g1:=(flow_must 41 _).2 h
        have g2:=hM _ g1
        have g3:=(flow_must 40 _).2 ((fM _).2 g1)
        have g4:=hM _ g3
        have g5:=(flow_must 40 _).2 ((fM _).2 g3)
        have g6:=fin g5
        unfold okSm
        exact ⟨⟨g6.2,hk.2⟩,l4,fun h=>absurd h3 h,fun h=>absurd h3 h,g6.1,g4,g2⟩
      · rw [if_neg h3] at h ⊢
        by_cases h4:stKind w.1=4
        · rw [if_pos h4] at h ⊢
          have g1:=hM _ h
          have g2:=fin ((fM _).2 h)
          unfold okSm
          exact ⟨⟨g2.2,hk.2⟩,l4,fun _=>rfl,fun _ h=>absurd h4 h,g2.1,g1,trivial⟩
        · rw [if_neg h4] at h ⊢
          have g2:=fin ((flow_must 41 _).2 h)
          unfold okSm
          exact ⟨⟨g2.2,hk.2⟩,l4,fun _=>rfl,fun _ _=>rfl,g2.1,trivial,trivial⟩
theorem ok_fn:Yields fnF fun f=>okSmL f.body:=fun st h=>by
  unfold fnF at *
  exact okSmL_all _ ((ok_stmt 11).many _ h)
theorem ok_fns:∀ (k:Nat) (st:St),(fnsF k st).2.2=0→∀ f∈(fnsF k st).1,okSmL f.body
  | 0,st,_=>by simp [fnsF]
  | k + 1,st,h=>by
    unfold fnsF at h ⊢
    have zero:∀ (k:Nat) (st:St),(fnsF k st).2.2=0→st.2=0:=fun k st h=>by
      cases k with
      | zero=>exact h
      | succ k =>
        unfold fnsF at h
        split at h
        · rename_i hc; exact hc.1
        · exact h
    split
    · rename_i hc
      rw [if_pos hc] at h
      have h1:=ok_fns k _ h
      have h2:=ok_fn (trim st.1,0) (zero k _ h)
      intro x hx
      rcases List.mem_cons.1 hx with rfl | hx
      · exact h2
      · exact h1 x hx
    · intro x hx; simp at hx
theorem parse_ok (s:Str) (h:(parseF s).2=0):∀ f∈(parseF s).1,okSmL f.body:=by
  unfold parseF at *
  split at h
  · cases h
  · rename_i h1
    rw [if_neg h1] at *
    split at h
    · rename_i h2; exact absurd h h2
    · rename_i h2
      rw [if_neg h2]
      exact ok_fns _ _ (by simpa using h2)
end VM
end Go.Proofs.YtpllgpgdcbgalaaDoor
set_option maxRecDepth 8000
namespace Go.Proofs.YtpllgpgdcbgalaaDoor
open Go Go.RowKit
namespace VM
def shI (b:Nat) (i:Ins):Ins:=if i.op=15∨i.op=16 then ⟨i.op,i.a+b,i.b⟩ else i
theorem shI_no {b:Nat} {i:Ins} (h:i.op ≠ 15∧i.op ≠ 16):shI b i=i:=by unfold shI; rw [if_neg (by omega)]
theorem map_shI_no {b:Nat} {l:List Ins} (h:∀ i∈l,i.op ≠ 15∧i.op ≠ 16):l.map (shI b)=l:=by
  rw [List.map_congr_left fun i hi=>shI_no (h i hi)]; simp
theorem shI_16 (c:Nat) (q:Int):shI c ⟨16,q,0⟩=⟨16,q+c,0⟩:=by unfold shI; rw [if_pos (.inr rfl)]
theorem shI_15 (c:Nat) (q:Int):shI c ⟨15,q,0⟩=⟨15,q+c,0⟩:=by unfold shI; rw [if_pos (.inl rfl)]
theorem hdI_no (names:List Str) (env:Env) (k z:Int) (t:Str) (n:Nat) (ws:List Str):∀ i∈(hdI names env k z t n ws).2,i.op ≠ 15∧i.op ≠ 16:=by
  unfold hdI opE
  (repeat' split) <;> simp
mutual
theorem exI_no (names:List Str) (env:Env):∀ (x:Ex) (ws:List Str),∀ i∈(exI names env x ws).2,i.op ≠ 15∧i.op ≠ 16
  | .mk k z t ar,ws,i,hi=>by
    unfold exI at hi
    rcases List.mem_append.1 hi with h | h
    · exact exIL_no names env ar ws i h
    · exact hdI_no _ _ _ _ _ _ _ i h
theorem exIL_no (names:List Str) (env:Env):∀ (l:List Ex) (ws:List Str),∀ i∈(exIL names env l ws).2,i.op ≠ 15∧i.op ≠ 16
  | [],ws,i,hi=>by unfold exIL at hi; simp at hi
  | x :: r,ws,i,hi=>by
    unfold exIL at hi
    rcases List.mem_append.1 hi with h | h
    · exact exI_no names env x ws i h
    · exact exIL_no names env r _ i h
end
theorem opS_no (k:Int):∀ i∈opS k,i.op ≠ 15∧i.op ≠ 16:=by
  unfold opS
  (repeat' split) <;> simp
mutual
theorem stI_sh (names:List Str) (c:Nat):∀ (x:Sm) (env:Env) (b:Nat) (s:MkS),stI names env (b+c) x s=((stI names env b x s).1,(stI names env b x s).2.1,(stI names env b x s).2.2.map (shI c))
  | .mk k nm ar t e,env,b,s=>by
    have ha:=map_shI_no (b:=c) (exIL_no names env ar s.1)
    have ho:=map_shI_no (b:=c) (opS_no k)
    have ht:=stIL_sh names c t env (b+(exIL names env ar s.1).2.length+1) ((exIL names env ar s.1).1,s.2)
    rw [show b+(exIL names env ar s.1).2.length+1+c=b+c+(exIL names env ar s.1).2.length+1 by omega] at ht
    unfold stI
    simp only [ht,List.length_map]
    have he:=stIL_sh names c e env (b+(exIL names env ar s.1).2.length+1+(stIL names env (b+(exIL names env ar s.1).2.length+1) t ((exIL names env ar s.1).1,s.2)).2.length+1) (stIL names env (b+(exIL names env ar s.1).2.length+1) t ((exIL names env ar s.1).1,s.2)).1
    rw [show ∀ u:Nat,b+(exIL names env ar s.1).2.length+1+u+1+c=b+c+(exIL names env ar s.1).2.length+1+u+1 by omega] at he
    simp only [he,List.length_map]
    generalize stIL names env (b+(exIL names env ar s.1).2.length+1) t ((exIL names env ar s.1).1,s.2)=T
    generalize stIL names env (b+(exIL names env ar s.1).2.length+1+T.2.length+1) e T.1=E
    by_cases k1:k=1
    · rw [if_pos k1,if_pos k1]
      simp [ha,shI]
    rw [if_neg k1,if_neg k1]
    by_cases k2:k=2
    · rw [if_pos k2,if_pos k2]
      simp [ha,shI]
    rw [if_neg k2,if_neg k2]
    by_cases k3:k=3
    · rw [if_pos k3,if_pos k3]
      simp [ha,shI_15,shI_16]
      omega
    rw [if_neg k3,if_neg k3]
    by_cases k4:k=4
    · rw [if_pos k4,if_pos k4]
      simp [ha,shI_15,shI_16]
      omega
    rw [if_neg k4,if_neg k4]
    simp [ha,ho]
theorem stIL_sh (names:List Str) (c:Nat):∀ (l:List Sm) (env:Env) (b:Nat) (s:MkS),stIL names env (b+c) l s=((stIL names env b l s).1,(stIL names env b l s).2.map (shI c))
  | [],env,b,s=>by unfold stIL; simp
  | x :: r,env,b,s=>by
    have h1:=stI_sh names c x env b s
    have h2:=stIL_sh names c r (stI names env b x s).2.1 (b+(stI names env b x s).2.2.length) (stI names env b x s).1
    rw [show ∀ u:Nat,b+u+c=b+c+u by omega] at h2
    unfold stIL
    simp only [h1,List.length_map,h2,List.map_append]
end
mutual
theorem stI_jmp (names:List Str):∀ (x:Sm) (env:Env) (b:Nat) (s:MkS),∀ i∈(stI names env b x s).2.2,i.op=15∨i.op=16→0≤i.a∧i.a≤b+(stI names env b x s).2.2.length
  | .mk k nm ar t e,env,b,s=>by
    have ha:=exIL_no names env ar s.1
    have ho:=opS_no k
    have ht:=stIL_jmp names t env (b+(exIL names env ar s.1).2.length+1) ((exIL names env ar s.1).1,s.2)
    have he:=stIL_jmp names e env (b+(exIL names env ar s.1).2.length+1+(stIL names env (b+(exIL names env ar s.1).2.length+1) t ((exIL names env ar s.1).1,s.2)).2.length+1) (stIL names env (b+(exIL names env ar s.1).2.length+1) t ((exIL names env ar s.1).1,s.2)).1
    unfold stI
    simp only
    generalize stIL names env (b+(exIL names env ar s.1).2.length+1) t ((exIL names env ar s.1).1,s.2)=T at *
    generalize stIL names env (b+(exIL names env ar s.1).2.length+1+T.2.length+1) e T.1=E at *
    by_cases k1:k=1
    · rw [if_pos k1]
      intro i hi h
      simp only [List.mem_append,List.mem_singleton] at hi
      rcases hi with hi | rfl
      · have:=ha i hi; omega
      · simp at h
    rw [if_neg k1]
    by_cases k2:k=2
    · rw [if_pos k2]
      intro i hi h
      simp only [List.mem_append,List.mem_singleton] at hi
      rcases hi with hi | rfl
      · have:=ha i hi; omega
      · simp at h
    rw [if_neg k2]
    by_cases k3:k=3
    · rw [if_pos k3]
      intro i hi h
      simp only [List.mem_append,List.mem_cons,List.length_append,List.length_cons] at hi ⊢
      rcases hi with hi | rfl | hi | rfl | hi
      · have:=ha i hi; omega
      · simp only; omega
      · have:=ht i hi h; omega
      · simp only; omega
      · have:=he i hi h; omega
    rw [if_neg k3]
    by_cases k4:k=4
    · rw [if_pos k4]
      intro i hi h
      simp only [List.mem_append,List.mem_cons,List.not_mem_nil,or_false,List.length_append,List.length_cons,List.length_nil] at hi ⊢
      rcases hi with hi | rfl | hi | rfl
      · have:=ha i hi; omega
      · simp only; omega
      · have:=ht i hi h; omega
      · simp only; omega
    rw [if_neg k4]
    intro i hi h
    rcases List.mem_append.1 hi with hi | hi
    · have:=ha i hi; omega
    · have:=ho i hi; omega
theorem stIL_jmp (names:List Str):∀ (l:List Sm) (env:Env) (b:Nat) (s:MkS),∀ i∈(stIL names env b l s).2,i.op=15∨i.op=16→0≤i.a∧i.a≤b+(stIL names env b l s).2.length
  | [],env,b,s,i,hi,_=>by unfold stIL at hi; simp at hi
  | x :: r,env,b,s,i,hi,h=>by
    have h1:=stI_jmp names x env b s i
    have h2:=stIL_jmp names r (stI names env b x s).2.1 (b+(stI names env b x s).2.2.length) (stI names env b x s).1 i
    unfold stIL at hi ⊢
    simp only [List.mem_append,List.length_append] at hi ⊢
    rcases hi with hi | hi
    · have:=h1 hi h; omega
    · have:=h2 hi h; omega
end
mutual
def calls (N:List Str):Ex→Prop
  | .mk k _ t ar=>(k=11→t∈N)∧callsL N ar
def callsL (N:List Str):List Ex→Prop
  | []=>True
  | x :: r=>calls N x∧callsL N r
end
mutual
def callsS (N:List Str):Sm→Prop
  | .mk _ _ ar t e=>callsL N ar∧callsSL N t∧callsSL N e
def callsSL (N:List Str):List Sm→Prop
  | []=>True
  | x :: r=>callsS N x∧callsSL N r
end
theorem lookup_mem {t:Str}:∀ {fns:List (Str×Nat)},fns.lookup t ≠ none→t∈fns.map (·.1)
  | [],h=>absurd rfl h
  | p :: r,h=>by
    by_cases e:t=p.1
    · simp [e]
    · have hb:(t == p.1)=false:=by simpa using e
      obtain ⟨a,b⟩:=p
      rw [List.lookup_cons,hb] at h
      simp only [List.map_cons,List.mem_cons]
      exact .inr (lookup_mem h)
mutual
theorem exC_calls {fns:List (Str×Nat)} {nms:List Str}:∀ (x:Ex) (ws:List Str),(exC fns nms x ws).2=0→calls (fns.map (·.1)) x
  | .mk k z t ar,ws,h=>by
    unfold exC at h
    unfold calls
    by_cases h0:headE fns nms k t ar.length=0
    · rw [if_neg (by rw [h0]; simp)] at h
      refine ⟨fun h11 => ?_,exCL_calls ar _ h⟩
      subst h11
      refine lookup_mem fun hn => ?_
      unfold headE at h0
      simp [hn] at h0
    · rw [if_pos h0] at h
      exact absurd h h0
theorem exCL_calls {fns:List (Str×Nat)} {nms:List Str}:∀ (l:List Ex) (ws:List Str),(exCL fns nms l ws).2=0→callsL (fns.map (·.1)) l
  | [],ws,_=>by unfold callsL; trivial
  | x :: r,ws,h=>by
    unfold exCL at h
    unfold callsL
    by_cases hx:(exC fns nms x ws).2=0
    · rw [if_neg (by rw [hx]; simp)] at h
      exact ⟨exC_calls x ws hx,exCL_calls r _ h⟩
    · rw [if_pos hx] at h
      exact absurd h hx
end
theorem hiS_ok {k:Int} {nm:Str} {ar:List Ex} {t e:List Sm} (h:okSm (.mk k nm ar t e)):hiS (.mk k nm ar t e)=max (dpA ar 0) (max (hiL t) (hiL e)):=by
  unfold okSm at h
  obtain ⟨_,_,h3,h4,_⟩:=h
  unfold hiS
  by_cases k3:k=3
  · rw [if_pos k3]
  · rw [if_neg k3,h3 k3]
    by_cases k4:k=4
    · rw [if_pos k4]; simp [hiL]
    · rw [if_neg k4,h4 k3 k4]; simp [hiL]
mutual
theorem hiS_le:∀ x:Sm,hiS x≤smW x
  | .mk k nm ar t e=>by
    have h1:=dpA_le ar 0
    have h2:=hiL_le t
    have h3:=hiL_le e
    unfold hiS smW
    (repeat' split) <;> omega
theorem hiL_le:∀ l:List Sm,hiL l≤smWL l
  | []=>by unfold hiL; omega
  | x :: r=>by
    have h1:=hiS_le x
    have h2:=hiL_le r
    unfold hiL smWL
    omega
end
theorem okEx_kind {k z:Int} {t:Str} {ar:List Ex} (h:okEx (.mk k z t ar)):1≤k∧k≤11:=by
  unfold okEx hdOk at h
  omega
mutual
theorem smC_calls {fns:List (Str×Nat)}:∀ (x:Sm) (nms:List Str) (s:ScS),(smC fns nms x s).2.1=0→callsS (fns.map (·.1)) x
  | .mk k nm ar t e,nms,s,h=>by
    unfold smC at h
    unfold callsS
    simp only at h
    split at h
    · rename_i h1; exact absurd h h1
    rename_i h1
    split at h
    · simp at h
    split at h
    · simp at h
    split at h
    · simp at h
    generalize (if k=1 then nms ++ [nm] else nms)=n1 at h
    generalize (if k=1 then s.1+1 else s.1)=v1 at h
    by_cases h2:(smCL fns n1 t (v1,(exCL fns nms ar s.2).1)).2=0
    · rw [if_neg (by simpa using h2)] at h
      exact ⟨exCL_calls (nms:=nms) ar s.2 (by omega),smCL_calls t _ _ h2,smCL_calls e _ _ h⟩
    · rw [if_pos h2] at h
      exact absurd h h2
theorem smCL_calls {fns:List (Str×Nat)}:∀ (l:List Sm) (nms:List Str) (s:ScS),(smCL fns nms l s).2=0→callsSL (fns.map (·.1)) l
  | [],nms,s,_=>by unfold callsSL; trivial
  | x :: r,nms,s,h=>by
    unfold smCL at h
    unfold callsSL
    split at h
    · rename_i h1; exact absurd h h1
    · rename_i h1
      exact ⟨smC_calls x nms s (by omega),smCL_calls r _ _ h⟩
end
theorem fnsC_names:∀ (l:List Fnc) (m:List (Str×Nat)),(fnsC m l).2=0→(m.map (·.1)).Nodup→((fnsC m l).1.map (·.1))=m.map (·.1) ++ l.map (·.name)∧(m.map (·.1) ++ l.map (·.name)).Nodup
  | [],m,_,hn=>by unfold fnsC; simpa using hn
  | f :: r, m, h, hn=>by
    unfold fnsC at h ⊢
    split at h
    · simp at h
    · rename_i h1
      rw [if_neg h1]
      split at h
      · simp at h
      · rename_i h2
        rw [if_neg h2]
        have hno : f.name∉m.map (·.1):=fun hm=>by
          have : m.lookup f.name ≠ none:=by
            clear h hn h1 h2
            induction m with
            | nil=>simp at hm
            | cons p q ih =>
              obtain ⟨a,b⟩:=p
              rw [List.lookup_cons]
              by_cases e:f.name=a
              · simp [e]
              · have hb:(f.name == a)=false:=by simpa using e
                rw [hb]
                simp only [List.map_cons,List.mem_cons] at hm
                exact ih (hm.resolve_left e)
          cases hl:m.lookup f.name with
          | none=>exact this hl
          | some v=>rw [hl] at h1; simp at h1
        have:=fnsC_names r (m ++ [(f.name,f.params.length)]) h (by
          rw [List.map_append,List.nodup_append]
          refine ⟨hn,by simp,fun a ha b hb => ?_⟩
          simp at hb; subst hb
          exact fun e=>hno (e ▸ ha))
        simpa using this
theorem bodiesC_calls {fns:List (Str×Nat)}:∀ (l:List Fnc) (ws:List Str),(bodiesC fns l ws).2=0→∀ f∈l,callsSL (fns.map (·.1)) f.body
  | [],ws,_,f,hf=>by simp at hf
  | g :: r,ws,h,f,hf=>by
    unfold bodiesC at h
    split at h
    · rename_i h1; exact absurd h h1
    · rename_i h1
      rcases List.mem_cons.1 hf with rfl | hf
      · exact smCL_calls f.body f.params ((f.params.length:Int),ws) (by omega)
      · exact bodiesC_calls r _ h f hf
theorem check_calls {l:List Fnc} (h:checkC l=0):(l.map (·.name)).Nodup∧(∀ f∈l,callsSL (l.map (·.name)) f.body)∧l.length≤5:=by
  cases l with
  | nil=>simp [checkC] at h
  | cons f r =>
    unfold checkC at h
    simp only at h
    split at h
    · simp at h
    rename_i h5
    split at h
    · rename_i h1; exact absurd h h1
    rename_i h1
    split at h
    · simp at h
    split at h
    · rename_i h2; exact absurd h h2
    rename_i h2
    have hn:=fnsC_names (f :: r) [] (by omega) (by simp)
    have hb:=bodiesC_calls (f :: r) [] (fns:=(fnsC [] (f :: r)).1) (by omega)
    rw [hn.1] at hb
    simp only [List.map_nil,List.nil_append] at hn hb
    exact ⟨hn.2,hb,by simp; omega⟩
end VM
end Go.Proofs.YtpllgpgdcbgalaaDoor
