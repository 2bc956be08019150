/- The machine: New. The laws' first question, asked of closed facts. The machine: Pack. The machine: Pack, all of it. A copy of an agent; small things about agents. How great an agent is behind so many steps. VmTells, walked. The structs that laws are handed, read as data. Places that laws are handed, read as data. A value that may be: the document's word. What is to be shown of each function, written out. The plain law of wire: numbers as bytes, and back; no program in sight. Agents as bytes, and back: the plain functions. Right agents, that go on or are away: what is asked of them, and how they pass into one another. Agents as bytes, and back: what was written comes back; no part of it does. -/
import Derived.Test.YtdmibdjokofclaaDoorG11
import Derived.Test.YtdmibdjokofclaaDoorG9
import Derived.Test.YtdmibdjokofclaaDoorG6
import Derived.Test.YtdmibdjokofclaaDoorG8
import Derived.Test.YtdmibdjokofclaaDoorG7
set_option linter.unusedSimpArgs false
set_option linter.unusedVariables false
set_option maxRecDepth 8000
namespace Go.Proofs.YtdmibdjokofclaaDoor
open Go Go.RowKit
theorem zme.frz {H:Heap} {lo n nx:Nat} {fs:List Frm} {ss:List (AV×AV)} {fa ha:AV} {h:List Cl} {id trip:Int} {p:Prg} {m:Pmt} (ow:zme H lo n fs ss fa h ha) (hl:nx≤lo) {H':Heap} (hk:∀ g,lo≤g→g < n→H' g=H g):Frz H' nx (.agg (zc id trip p fa ha m)) (.agg (Agt.avs ⟨id,trip,p,fs,h,m⟩)):=by
  have b:∀ g∈own fa ++ (own ha ++ owns ss),nx≤g∧H' g=H g:=fun g hg=>by have:=ow.bd g hg; exact ⟨by omega,hk g this.1 this.2⟩
  refine zcf ?_ ((ow.hp.keep fun g hg=>(b g (by simp [hg])).2).frzH fun g hg=>(b g (by simp [hg])).1)
  have fr:=ow.frs.keep (H':=H') fun g hg=>(b g (by simp [hg])).2
  rcases ow.row with ⟨h0,rfl | rfl⟩ | ⟨gf,cs,rfl,c1,c2,c3⟩
  · rw [List.eq_nil_of_length_eq_zero h0]; exact .nils
  · rw [List.eq_nil_of_length_eq_zero h0]; exact .zs
  · have:=b gf (by simp [own])
    exact zaq.frz fr (by rw [this.2]; exact c1) c2 c3 this.1 (fun x hx=>(b x (by simp [hx])).1) rfl
theorem zaig {H:Heap} {G:Nat→Prop} {id trip:Int} {p:Prg} {fs:List Frm} {h:List Cl} {m:Pmt} {fa ha:AV} (h1:FrzP H G fa (.ro (fs.map Frm.avs))) (h2:FrzP H G ha (.ro (h.map Cl.avs))):FrzP H G (.agg (zc id trip p fa ha m)) (.agg (Agt.avs ⟨id,trip,p,fs,h,m⟩)):=by
  refine .agg _ _ rfl fun j v u hv hu => ?_
  match j with
  | 0=>cases hv; cases hu; exact .same _
  | 1=>cases hv; cases hu; exact .same _
  | 2=>cases hv; cases hu; exact .same _
  | 3=>cases hv; cases hu; exact .same _
  | 4=>cases hv; cases hu; exact h1
  | 5=>cases hv; cases hu; exact h2
  | 6=>cases hv; cases hu; exact .same _
  | 7=>cases hv; cases hu; exact .same _
  | 8=>cases hv; cases hu; exact .same _
  | j+9=>simp [zc] at hv
def Pmt.avs (m:Pmt):List AV:=[.int .i64 m.fuel,.int .i64 m.room,.int .i64 m.hops]
theorem Agt.avs_eq (a:Agt):a.avs=zc a.id a.trip a.prog (.ro (a.frames.map Frm.avs)) (.ro (a.heap.map Cl.avs)) a.permit:=rfl
set_option maxRecDepth 20000 in
set_option maxHeartbeats 1000000 in
theorem zaqj {id:Int} {p:Prg} {m:Pmt} (sz:zrz (VM.newAgt id p m)) (hp:0 < p.codes.length) (hv:0≤(VM.codeAt p 0).vars∧(VM.codeAt p 0).vars≤4096) :
    QC Tryd.prog 26 [.int .i64 id,.agg p.avs,.agg m.avs] (.agg (VM.newAgt id p m).avs):=by
  refine QC.of' fun H nx => ?_
  refine zadu _ _ _ H nx _ ?_
  have pv:(AV.agg p.avs).cells=p.avs:=by simp
  have pl:p.avs.length=2:=rfl
  have mv:(AV.agg m.avs).cells=m.avs:=by simp
  have ml:m.avs.length=3:=rfl
  have hsp:(AV.agg p.avs).sure=true:=by simp [Prg.avs]
  have hsm:(AV.agg m.avs).sure=true:=by simp [Pmt.avs]
  unfold zace
  rw [pv,pl,mv,ml]
  refine ⟨hsp,hsm,?_⟩
  have hc:p.codes[0]? = some (VM.codeAt p 0):=zmj (p:=p) (k:=0) hp
  obtain ⟨k,hk⟩:∃ k:Nat,(VM.codeAt p 0).vars=k:=⟨(VM.codeAt p 0).vars.toNat,by omega⟩
  have hc':p.codes[0]=VM.codeAt p 0:=(List.getElem?_eq_some_iff.1 hc).2
  have na:VM.newAgt id p m=⟨id,0,p,[⟨0,0,List.replicate k VM.vzero,[]⟩],[],m⟩:=by unfold VM.newAgt; rw [hk]; rfl
  simp [Prg.avs,Pmt.avs,hp,hc',Cod.avs,hk]
  refine ⟨by omega,by omega,fun x hx=>by rcases hx with (rfl | rfl | rfl | rfl) | rfl | rfl | rfl | rfl | rfl <;> rfl,?_⟩
  generalize hHH:Heap.put _ (nx+5) _=HH
  have q2:∃ z,HH (nx+2)=some (.row 9 z)∧z.length=9:=⟨_,by rw [← hHH,Heap.put_ne _ _ (by omega),Heap.put_ne _ _ (by omega),Heap.put_ne _ _ (by omega),Heap.put_at],rfl⟩
  have q3:HH (nx+3)=some (.row 3 (List.replicate k [AV.int .i64 0,AV.int .i64 0,AV.str []]).flatten):=by rw [← hHH,Heap.put_ne _ _ (by omega),Heap.put_ne _ _ (by omega),Heap.put_at]
  have q4:HH (nx+4)=some (.row 4 [AV.int .i64 0,AV.int .i64 0,.slc (nx+3) 0 k,.nils]):=by rw [← hHH,Heap.put_ne _ _ (by omega),Heap.put_at]
  have q5:Keep nx HH H:=fun g hg=>by rw [← hHH,Heap.put_ne _ _ (by omega),Heap.put_ne _ _ (by omega),Heap.put_ne _ _ (by omega),Heap.put_ne _ _ (by omega),Heap.put_ne _ _ (by omega),Heap.put_ne _ _ (by omega)]
  let G:Nat→Prop:=fun g=>g=nx+3∨g=nx+4
  let H0:Heap:=fun g=>if g=nx+3∨g=nx+4 then none else HH g
  have h0:∀ g o,H0 g=some o→¬ G g∧HH g=some o:=fun g o hg=>by
    by_cases h:g=nx+3∨g=nx+4
    · simp only [H0,if_pos h] at hg; cases hg
    · simp only [H0,if_neg h] at hg; exact ⟨h,hg⟩
  have hr:(List.replicate k VM.vzero).map Val.avs=List.replicate k [AV.int .i64 0,AV.int .i64 0,AV.str []]:=by rw [List.map_replicate]; rfl
  refine za.thaw (args:=[.agg (VM.newAgt id p m).avs]) (H0:=H0) (G:=G) ?_ (zhk.cons ?_ .nil) h0
  · refine zzz sz fun H1 n1 ss fa ha hn1 k1 ow => ?_
    obtain ⟨z,z1,z2⟩:=q2
    have e2:H1 (nx+2)=some (.row 9 z):=by
      rw [k1 _ (by omega)]; simp only [H0]; rw [if_neg (by omega)]; exact z1
    have h1:=ow.hp.one
    have f1:=ow.row.one
    simp [zacf,zc,h1.1,h1.2.1,h1.2.2,f1.1,f1.2.1,f1.2.2,e2,z2]
    have put:∀ o g,g ≠ nx+2→(H1.put (nx+2) o) g=H1 g:=fun o g hg=>Heap.put_ne _ _ hg
    refine ⟨ow.frz (by omega) fun g h1 h2=>put _ g (by omega),fun g hg => ?_⟩
    · rw [k1 g (by omega)]
      simp only [H0]
      rw [if_neg (by omega)]
      exact q5 g hg
  · rw [na]
    refine zaig ?_ .nils
    refine FrzP.row (.inr rfl) q4 rfl (fun x hx=>by simp at hx; subst hx; rfl) (fun i x j v hx hv => ?_) (by simp)
    match i,hx with
    | 0, hx =>
      simp at hx; subst hx
      match j,hv with
      | 0,hv=>cases hv; exact ⟨_,rfl,.same _⟩
      | 1,hv=>cases hv; exact ⟨_,rfl,.same _⟩
      | 2,hv =>
        cases hv
        refine ⟨_,rfl,?_⟩
        rw [hr]
        refine FrzP.row (.inl rfl) q3 (by simp) (fun x hx=>by rw [(List.mem_replicate.1 hx).2]; rfl) (fun i x j v hx hv=>⟨v,?_,.same _⟩) (by simp)
        exact zuw (fun y hy=>by rw [(List.mem_replicate.1 hy).2]; rfl) hx hv
      | 3,hv=>cases hv; exact ⟨_,rfl,.nils⟩
      | j+4,hv=>simp [Frm.avs] at hv
    | i+1,hx=>simp at hx
end Go.Proofs.YtdmibdjokofclaaDoor
set_option maxRecDepth 8000
namespace Go.Proofs.YtdmibdjokofclaaDoor
open Go Go.RowKit
theorem zanq (h:List Cl) (l:List Val) (hr:VM.right h l=true) (hs:h.length*64≤140737488355328) (hl:l.length*32≤140737488355328):QC Tryd.prog 47 [.ro (h.map Cl.avs),.ro (l.map Val.avs)] (.tup [.ro ((VM.canonV h l).map Val.avs),.ro ((VM.canonC h l).map Cl.avs)]) :=
  QC.of' fun H nx=>zanr h l hr hs hl .ro .ro
end Go.Proofs.YtdmibdjokofclaaDoor
set_option maxRecDepth 8000
namespace Go.Proofs.YtdmibdjokofclaaDoor
open Go Go.RowKit
section
variable {ki:IntKind}
theorem zadw {s:Nat} {xs:List (List AV)} {a:Int} {H:Heap} {k:AV→Prop} (hs:∀ x∈xs,x.length=s) (h0:0≤a) (h1:a≤xs.length) (hk:k (.ro (xs.drop a.toNat))):SL s (.ro xs) (some (.int ki a)) none H k:=by
  simp only [SL,zbc,lohi,PURE,qk,Int.toNat_natCast,List.take_length]
  exact ⟨h0,h1,Int.le_refl _,hs,hk⟩
end
theorem Slot.cp {H:Heap} {sz k:Nat} {cells:List AV} {a:AV} {kh:AV→Heap→Prop} (hg:Slot H sz k cells a) {ys rest:List (List AV)} (hs:∀ x∈ys ++ rest,x.length=sz) (hy:ys.length=k) (hone:∀ x∈ys ++ rest,∀ c∈x,c.one=true)
    (hk:∀ H',Slot H' sz k ys.flatten a→(∀ g,g∉own a→H' g=H g)→kh (.int .i64 k) H'):CP sz a (.ro (ys ++ rest)) H kh:=by
  have hsrc:=zcw (H:=H) hs
  rcases hg with ⟨rfl,rfl | rfl⟩ | ⟨g,cs,rfl,h1,h2,h3⟩
  · unfold CP COPY
    rw [hsrc]
    exact hk _ (.inl ⟨rfl,.inl rfl⟩) fun g _=>rfl
  · unfold CP COPY
    rw [hsrc]
    exact hk _ (.inl ⟨rfl,.inr rfl⟩) fun g _=>rfl
  · have hl:ys.flatten.length=k*sz:=by rw [zbf fun x hx=>hs x (List.mem_append_left _ hx),hy]
    refine zwc hsrc h1 (by omega) ?_ ?_
    · refine List.all_eq_true.2 fun c hc => ?_
      obtain ⟨x,hx,hcx⟩:=List.mem_flatten.1 hc
      exact hone x hx c hcx
    · have e:min (ys ++ rest).length k=k:=by simp [hy]
      rw [e]
      have et:((ys ++ rest).flatten.take (k*sz))=ys.flatten:=by rw [List.flatten_append,List.take_append_of_le_length (by omega),List.take_of_length_le (by omega)]
      rw [et]
      refine hk _ (.inr ⟨g,_,rfl,Heap.put_at _ _ _,?_,?_⟩) fun x hx=>Heap.put_ne _ _ (by simpa [own] using hx)
      · unfold zba
        simp [hl]
      · unfold zba
        simp [hl]
theorem Slot.gather {H:Heap} {sz k bytes nx m:Nat} {cells new:List AV} {a x:AV} {rdx:List Nat} {kt:Kt} (hg:Slot H sz k cells a) (hlen:cells.length=k*sz) (hs:zm sz H x=some (m,new,rdx)) (hnl:new.length=m*sz) (hone:new.all AV.one=true)
    (hb:(k+m)*bytes≤140737488355328) (hk:∀ v rd fr D,fr.length≤1→(∀ g∈domD D,g∈own a∨g=nx)→Slot (H.apply D) sz (k+m) (cells ++ new) v→(∀ g∈own v,g=nx∧fr.length=1)→(∀ g,g∉own a→g ≠ nx→(H.apply D) g=H g)→kt v rd fr D):zam sz bytes a x H nx kt:=by
  rcases hg with ⟨rfl,rfl | rfl⟩ | ⟨g,cs,rfl,h1,h2,h3⟩
  · have hc:cells=[]:=List.eq_nil_of_length_eq_zero (by omega)
    subst hc
    rw [zpu,hs,optk]
    refine ⟨hone,fun hm => ?_,fun hm=>⟨by simpa using hb,?_⟩⟩
    · simp only at hm; subst hm
      exact hk _ _ _ _ (by simp) (by simp) (.inl ⟨rfl,.inl rfl⟩) (by simp [own]) fun g _ _=>rfl
    · exact hk _ _ _ _ (by simp) (by simp) (.inr ⟨nx,new,by simp,by simp only [zaw,zbg,Heap.put_at],by rw [List.nil_append,List.take_of_length_le (by rw [Nat.zero_add]; omega)],by rw [Nat.zero_add]; omega⟩) (by simp [own]) fun g _ hx=>by simp only [zaw,zbg]; exact Heap.put_ne _ _ hx
  · have hc:cells=[]:=List.eq_nil_of_length_eq_zero (by omega)
    subst hc
    rw [zadb,hs,optk]
    refine ⟨hone,fun hm => ?_,fun hm=>⟨by simpa using hb,?_⟩⟩
    · simp only at hm; subst hm
      exact hk _ _ _ _ (by simp) (by simp) (.inl ⟨rfl,.inr rfl⟩) (by simp [own]) fun g _ _=>rfl
    · exact hk _ _ _ _ (by simp) (by simp) (.inr ⟨nx,new,by simp,by simp only [zaw,zbg,Heap.put_at],by rw [List.nil_append,List.take_of_length_le (by rw [Nat.zero_add]; omega)],by rw [Nat.zero_add]; omega⟩) (by simp [own]) fun g _ hx=>by simp only [zaw,zbg]; exact Heap.put_ne _ _ hx
  · rw [zrx,hs,optk,h1,rowk]
    refine ⟨rfl,hone,by omega,Nat.le_add_right_of_le hb,hk _ _ _ _ (by simp) (by simp [own]) (.inr ⟨nx,cells ++ new,rfl,?_,?_,?_⟩) (by simp [own]) (fun x hx1 hx => ?_)⟩
    · simp only [zaw,zbg]; rw [Heap.put_at,List.drop_zero,h2]
    · rw [List.take_of_length_le]; rw [List.length_append,hlen,hnl,Nat.add_mul]; exact Nat.le_refl _
    · rw [List.length_append,hlen,hnl,Nat.add_mul]; exact Nat.le_refl _
    · simp only [zaw,zbg]; rw [Heap.put_ne _ _ hx,Heap.put_ne _ _ (by simpa [own] using hx1)]
theorem QC.thaw {P:Program} {f:FuncId} {args args':List AV} {r:AV} (h:QC P f args r) {H H0:Heap} {nx:Nat} {G:Nat→Prop} (hf:zhk H G args' args) (h0:∀ g o,H0 g=some o→¬ G g∧H g=some o) {kk:AV→Heap→Nat→Prop} (hk:kk r H0 nx):za P f args' H nx kk :=
  za.thaw ((h H0 nx).mono fun v H' n' ⟨a,b,c⟩=>by subst a; subst b; subst c; exact hk) hf h0
theorem zrj:∀ {ss:List (AV×AV)} {k i:Nat} {s t:AV×AV} {g:Nat},(owns ss).Nodup→ss[k]? = some s→ss[i]? = some t→k ≠ i→g∈own s.1 ++ own s.2→g∈own t.1 ++ own t.2→False
  | [],k,i,s,t,g,_,h,_,_,_,_=>by simp at h
  | u :: ss,k,i,s,t,g,nd,h1,h2,hne,m1,m2=>by
    have e:owns (u :: ss)=(own u.1 ++ own u.2) ++ owns ss:=by simp [owns]
    rw [e,List.nodup_append] at nd
    obtain ⟨_,n2,n3⟩:=nd
    have mem:∀ {j:Nat} {v:AV×AV},ss[j]? = some v→g∈own v.1 ++ own v.2→g∈owns ss:=fun hv hg=>List.mem_flatMap.2 ⟨_,List.mem_of_getElem? hv,hg⟩
    match k,i with
    | 0,0=>exact hne rfl
    | 0,i+1 =>
      simp at h1 h2; subst h1
      exact n3 g m1 g (mem h2 m2) rfl
    | k+1,0 =>
      simp at h1 h2; subst h2
      exact n3 g m2 g (mem h1 m1) rfl
    | k+1,i+1=>exact zrj n2 (by simpa using h1) (by simpa using h2) (by omega) m1 m2
theorem zaq.set {H H':Heap} {fs:List Frm} {ss:List (AV×AV)} {i:Nat} {f:Frm} {s:AV×AV} (h:zaq H fs ss) (nd:(owns ss).Nodup) (hs:ss[i]? = some s) (hk:∀ g,g∉own s.1→g∉own s.2→H' g=H g) (h1:Slot H' 3 f.vars.length (rowV f.vars) s.1) (h2:Slot H' 3 f.stack.length (rowV f.stack) s.2):zaq H' (fs.set i f) ss:=by
  refine ⟨by simp [h.1],fun k f' s' hf hs' => ?_⟩
  by_cases e:k=i
  · subst e
    rw [hs] at hs'; cases hs'
    have hl:k < fs.length:=by rw [← h.1]; exact (List.getElem?_eq_some_iff.1 hs).1
    rw [List.getElem?_set_self hl] at hf
    cases hf
    exact ⟨h1,h2⟩
  · rw [List.getElem?_set_ne (Ne.symm e)] at hf
    obtain ⟨q1,q2⟩:=h.2 k f' s' hf hs'
    have hd:∀ g,(g∈own s'.1∨g∈own s'.2)→g∉own s.1∧g∉own s.2:=fun g hg=>by
      exact ⟨fun hx=>zrj nd hs' hs e (List.mem_append.2 hg) (List.mem_append_left _ hx),fun hx=>zrj nd hs' hs e (List.mem_append.2 hg) (List.mem_append_right _ hx)⟩
    exact ⟨q1.keep fun g hg=>hk g (hd g (.inl hg)).1 (hd g (.inl hg)).2,q2.keep fun g hg=>hk g (hd g (.inr hg)).1 (hd g (.inr hg)).2⟩
end Go.Proofs.YtdmibdjokofclaaDoor
set_option maxRecDepth 8000
namespace Go.Proofs.YtdmibdjokofclaaDoor
open Go Go.RowKit
theorem zaeu:∀ {fs:List Frm} {ss:List (AV×AV)} {i:Nat} {f:Frm} {s:AV×AV},ss.length=fs.length→fs[i]? = some f→ss[i]? = some s→((frow fs ss).drop (i*4)).take 4=[.int .i64 f.fn,.int .i64 f.at_,s.1,s.2]
  | [],_,i,f,s,_,h,_=>by simp at h
  | _ :: _,[],i,f,s,h0,_,h=>by simp at h
  | g :: fs,t :: ss,0,f,s,h0,h1,h2=>by simp at h1 h2; subst h1; subst h2; simp [frow]
  | g :: fs,t :: ss,i+1,f,s,h0,h1,h2=>by
    have:=zaeu (fs:=fs) (ss:=ss) (i:=i) (f:=f) (s:=s) (by simpa using h0) (by simpa using h1) (by simpa using h2)
    rw [← this,show (i+1)*4=i*4+1+1+1+1 by omega]
    simp [frow]
theorem zakm {cs:List AV} {fs:List Frm} {ss:List (AV×AV)} {i:Nat} {f:Frm} {s:AV×AV} (h:cs.take (fs.length*4)=frow fs ss) (hl:ss.length=fs.length) (h1:fs[i]? = some f) (h2:ss[i]? = some s):(cs.drop (i*4)).take 4=[.int .i64 f.fn,.int .i64 f.at_,s.1,s.2]:=by
  have e:=zaeu hl h1 h2
  have hi:=(List.getElem?_eq_some_iff.1 h1).1
  rw [← h,List.drop_take,List.take_take] at e
  rw [← e]; congr 1; omega
theorem Slot.frzP {H:Heap} {G:Nat→Prop} {sz:Nat} {xs:List (List AV)} {a:AV} (hs:Slot H sz xs.length xs.flatten a) (ho:∀ g∈own a,G g) (hsz:∀ x∈xs,x.length=sz):FrzP H G a (.ro xs):=by
  rcases hs with ⟨h0,rfl | rfl⟩ | ⟨g,cs,rfl,h1,h2,h3⟩
  · rw [List.eq_nil_of_length_eq_zero h0]; exact .nils
  · rw [List.eq_nil_of_length_eq_zero h0]; exact .zs
  · refine FrzP.row (ho g (by simp [own])) h1 rfl hsz (fun i x j v hx hv=>⟨v,?_,.same _⟩) h3
    have:=zuw hsz hx hv
    rw [← h2,List.getElem?_take] at this
    split at this
    · exact this
    · cases this
def zh (fs:List Frm):List Val:=fs.flatMap fun f=>f.vars ++ f.stack
theorem zuo (fs:List Frm) (f:Frm):zh (fs ++ [f])=zh fs ++ f.vars ++ f.stack:=by simp [zh]
theorem zxe {fs:List Frm} (i:Nat):(zh (fs.take i)).length≤(zh fs).length:=by
  have e:zh fs=zh (fs.take i) ++ zh (fs.drop i):=by unfold zh; rw [← List.flatMap_append,List.take_append_drop]
  rw [e,List.length_append]; omega
set_option maxRecDepth 20000 in
set_option maxHeartbeats 1000000 in
theorem zage {a:Agt} {H5:Heap} {lo n1 gf p1:Nat} {ss:List (AV×AV)} {cs:List AV} {Q:AV→Heap→Nat→Prop} (hb:(zh a.frames).length≤4096) (hfl:a.frames.length≤4096) (c1:H5 gf=some (.row 4 cs)) (c2:cs.take (a.frames.length*4)=frow a.frames ss) (c3:a.frames.length*4≤cs.length)
    (fr:zaq H5 a.frames ss) (bd:∀ g,(g=gf∨g∈owns ss)→lo≤g∧g < n1)
    (hend:∀ H' n' l,n1+1≤n'→(∀ g,g < n1+1→H' g=H5 g)→Slot H' 3 (zh a.frames).length (rowV (zh a.frames)) l→(∀ g∈own l,n1 < g∧g < n') →
      FA 5 (.ptr n1 0) fun v29=>LD false 1 v29 H' fun v30=>za Tryd.prog 47 [v30,l] H' n' (zrf [.ptr p1 0,.ptr n1 0,l,.slc gf 0 a.frames.length,.int .i64 a.frames.length,.int .i64 a.frames.length] Q)) :
    LP (ziy Q) [.ptr p1 0,.ptr n1 0,.nils,.slc gf 0 a.frames.length,.int .i64 a.frames.length,.int .i64 0] H5 (n1+1):=by
  refine LP.mk (fun k xs H' n'=>∃ (i:Nat) (l:AV),k=a.frames.length - i∧i≤a.frames.length∧xs=[.ptr p1 0,.ptr n1 0,l,.slc gf 0 a.frames.length,.int .i64 a.frames.length,.int .i64 i]∧n1+1≤n'∧(∀ g,g < n1+1→H' g=H5 g) ∧
    Slot H' 3 (zh (a.frames.take i)).length (rowV (zh (a.frames.take i))) l∧∀ g∈own l,n1 < g∧g < n') a.frames.length ⟨0,.nils,rfl,by omega,rfl,Nat.le_refl _,fun _ _=>rfl,.inl ⟨rfl,.inl rfl⟩,by simp [own]⟩ ?_
  rintro k xs H' n' ⟨i,l,rfl,hi,rfl,hn,keep,sl,bl⟩
  suffices key:∀ K:J3,(∀ (i':Nat) (l:AV) H' n',a.frames.length - i' < a.frames.length - i→i'≤a.frames.length→n1+1≤n'→(∀ g,g < n1+1→H' g=H5 g)→Slot H' 3 (zh (a.frames.take i')).length (rowV (zh (a.frames.take i'))) l→(∀ g∈own l,n1 < g∧g < n')→K [.ptr p1 0,.ptr n1 0,l,.slc gf 0 a.frames.length,.int .i64 a.frames.length,.int .i64 i'] H' n') →
      ziy Q K [.ptr p1 0,.ptr n1 0,l,.slc gf 0 a.frames.length,.int .i64 a.frames.length,.int .i64 i] H' n' from
    key _ fun i' l H' n' h1 h2 h3 h4 h5 h6=>⟨_,h1,i',l,rfl,h2,rfl,h3,h4,h5,h6⟩
  intro K hK
  by_cases hil:i < a.frames.length
  · have hf:a.frames[i]? = some a.frames[i]:=List.getElem?_eq_getElem hil
    have hs:ss[i]? = some (ss[i]'(by rw [fr.1]; exact hil)):=List.getElem?_eq_getElem _
    generalize a.frames[i]=f at hf
    generalize ss[i]'(by rw [fr.1]; exact hil)=s at hs
    obtain ⟨sv,st⟩:=fr.2 i f s hf hs
    have hgf:=bd gf (.inl rfl)
    have e1:H' gf=some (.row 4 cs):=(keep gf (by omega)).trans c1
    have e2:=zakm c2 fr.1 hf hs
    have one:s.1.one=true∧s.2.one=true:=⟨sv.one.2.1,st.one.2.1⟩
    have hsm:∀ g,(g∈own s.1∨g∈own s.2)→g < n1:=fun g hg=>by
      refine (bd g (.inr (List.mem_flatMap.2 ⟨s,List.mem_of_getElem? hs,?_⟩))).2
      simpa using hg
    have htk:a.frames.take (i+1)=a.frames.take i ++ [f]:=zdn hf
    have hle:=zxe (fs:=a.frames) (i+1)
    have hadd:IntKind.i64.wrap ((i:Int)+1)=((i+1:Nat):Int):=by rw [i64w (by omega)]; rfl
    have hr1:zh (a.frames.take (i+1))=zh (a.frames.take i) ++ f.vars ++ f.stack:=by rw [htk,zuo]
    rw [hr1] at hle
    simp only [List.length_append] at hle
    simp [ziy,hil,e1,e2,sv.one,st.one]
    refine ⟨by omega,?_⟩
    have lst:(frow a.frames ss).length=a.frames.length*4:=zav fr.1
    have b0:∀ l:List Val,(rowV l).all AV.one=true:=fun l=>List.all_eq_true.2 fun c hc=>zae (zbq _ c hc)
    have z0:∀ l:List Val,l.length=0→rowV l=[]:=fun l h=>by rw [List.eq_nil_of_length_eq_zero h]; rfl
    generalize hX:Heap.put H' n' _=HX
    have x1:HX n'=some (.row 4 [.int .i64 f.fn,.int .i64 f.at_,s.1,s.2]):=by rw [← hX,Heap.put_at]
    have xk:∀ g,g ≠ n'→HX g=H' g:=fun g hg=>by rw [← hX,Heap.put_ne _ _ hg]
    have xs:∀ g,(g∈own s.1∨g∈own s.2)→HX g=H5 g:=fun g hg=>by have:=hsm g hg; rw [xk g (by omega),keep g (by omega)]
    obtain ⟨rd0,hs1⟩:=(sv.keep fun g hg=>xs g (.inl hg)).src (z0 f.vars)
    refine Slot.gather (sl.keep fun g hg=>xk g (by have:=bl g hg; omega)) (by simp) hs1 (by simp) (b0 _) (by omega) fun v1 rd1 fr1 D1 l1 d1 s1 o1 k1 => ?_
    have y1:(HX.apply D1) n'=some (.row 4 [.int .i64 f.fn,.int .i64 f.at_,s.1,s.2]):=by rw [k1 n' (fun h=>by have:=bl _ h; omega) (by omega)]; exact x1
    have yk:∀ g,g < n1+1→(HX.apply D1) g=H5 g:=fun g hg=>by rw [k1 g (fun h=>by have:=bl _ h; omega) (by omega),xk g (by omega),keep g hg]
    have dd:n'∉domD D1:=fun h=>by
      rcases d1 n' h with h | h
      · have:=bl _ h; omega
      · omega
    generalize HX.apply D1=HY at *
    simp only [y1,rowk]
    simp
    obtain ⟨rd2,hs2⟩:=(st.keep fun g hg=>yk g (by have:=hsm g (.inr hg); omega)).src (z0 f.stack)
    refine Slot.gather s1 (by simp; omega) hs2 (by simp) (b0 _) (by omega) fun v2 rd3 fr2 D2 l2 d2 s2 o2 k2 => ?_
    have zk:∀ g,g < n1+1→(HY.apply D2) g=H5 g:=fun g hg=>by rw [k2 g (fun h=>by have:=o1 _ h; omega) (by omega),yk g hg]
    generalize HY.apply D2=HZ at *
    refine zbi (fun g _=>by simp) (zbi (fun g _=>by simp) (zbi (fun g hg=>by simp; rintro rfl; exact dd hg) (zbi (fun g _=>by simp) ?_)))
    rw [hadd]
    refine hK (i+1) v2 HZ _ (by omega) (by omega) (by omega) zk ?_ fun g hg => ?_
    · rw [hr1,zhp,zhp]
      simpa [Nat.add_assoc] using s2
    · have:=o2 g hg; omega
  · obtain rfl:i=a.frames.length:=by omega
    rw [List.take_length] at sl
    have:=hend H' n' l hn keep sl bl
    simpa [ziy] using this
theorem zaet {p:Val→Val}:∀ (fs:List Frm) (ss:List (AV×AV)),frow (fs.map fun f=>{ f with vars:=f.vars.map p,stack:=f.stack.map p }) ss=frow fs ss
  | [],_=>rfl
  | _ :: _,[]=>rfl
  | f :: fs,s :: ss=>by simp only [List.map_cons,frow]; rw [zaet fs ss]
def pkF (p:Val→Val) (f:Frm):Frm:={ f with vars:=f.vars.map p,stack:=f.stack.map p }
set_option maxRecDepth 20000 in
set_option maxHeartbeats 1000000 in
theorem zajp {fs:List Frm} {id trip:Int} {pr:Prg} {m:Pmt} {p:Val→Val} {hp:List Cl} {H1:Heap} {n1 gf p1 n:Nat} {ss:List (AV×AV)} {cs:List AV} {ha:AV} {Q:AV→Heap→Nat→Prop} (hfl:fs.length≤4096) (c1:H1 gf=some (.row 4 cs)) (c2:cs.take (fs.length*4)=frow fs ss) (c3:fs.length*4≤cs.length)
    (fr:zaq H1 fs ss) (nd:(owns ss).Nodup) (g0:gf∉owns ss) (g1:n1∉owns ss) (g2:p1∉owns ss) (g3:p1 ≠ n1) (r1:H1 n1=some (.row 9 (zc id trip pr (.slc gf 0 fs.length) ha m))) (r2:∃ z,H1 p1=some (.row 9 z)∧z.length=9)
    (hend:∀ H',zaq H' (fs.map (pkF p)) ss→(∀ g,g∉owns ss→g ≠ n1→g ≠ p1→H' g=H1 g)→Q (.agg (zc id trip pr (.slc gf 0 fs.length) (.ro (hp.map Cl.avs)) m)) H' n) :
    LP (ziz Q) [.ptr p1 0,.ptr n1 0,.ro ((zh fs).map fun v=>(p v).avs),.ro (hp.map Cl.avs),.int .i64 fs.length,.int .i64 0] H1 n:=by
  refine LP.mk (fun k xs H' n'=>∃ i:Nat,k=fs.length - i∧i≤fs.length∧n'=n∧xs=[.ptr p1 0,.ptr n1 0,.ro ((zh (fs.drop i)).map fun v=>(p v).avs),.ro (hp.map Cl.avs),.int .i64 fs.length,.int .i64 i] ∧
    zaq H' ((fs.take i).map (pkF p) ++ fs.drop i) ss∧∀ g,g∉owns ss→H' g=H1 g) fs.length ⟨0,rfl,by omega,rfl,rfl,by simpa using fr,fun _ _=>rfl⟩ ?_
  rintro k xs H' n' ⟨i,rfl,hi,rfl,rfl,fr',keep⟩
  suffices key:∀ K:J3,(∀ (i':Nat) H',fs.length - i' < fs.length - i→i'≤fs.length→zaq H' ((fs.take i').map (pkF p) ++ fs.drop i') ss→(∀ g,g∉owns ss→H' g=H1 g)→K [.ptr p1 0,.ptr n1 0,.ro ((zh (fs.drop i')).map fun v=>(p v).avs),.ro (hp.map Cl.avs),.int .i64 fs.length,.int .i64 i'] H' n') →
      ziz Q K [.ptr p1 0,.ptr n1 0,.ro ((zh (fs.drop i)).map fun v=>(p v).avs),.ro (hp.map Cl.avs),.int .i64 fs.length,.int .i64 i] H' n' from
    key _ fun i' H' h1 h2 h3 h4=>⟨_,h1,i',rfl,h2,rfl,rfl,h3,h4⟩
  intro K hK
  have e0:=(keep _ g0).trans c1
  have e1:=(keep _ g1).trans r1
  obtain ⟨z,z1,z2⟩:=r2
  have e2:=(keep _ g2).trans z1
  by_cases hil:i < fs.length
  · have hf:fs[i]? = some fs[i]:=List.getElem?_eq_getElem hil
    have hs:ss[i]? = some (ss[i]'(by rw [fr.1]; exact hil)):=List.getElem?_eq_getElem _
    have hdrop:fs.drop i=fs[i] :: fs.drop (i+1):=List.drop_eq_getElem_cons hil
    have htk:fs.take (i+1)=fs.take i ++ [fs[i]]:=zdn hf
    generalize fs[i]=f at *
    generalize ss[i]'(by rw [fr.1]; exact hil)=s at hs
    have e3:=zakm c2 fr.1 hf hs
    have hadd:IntKind.i64.wrap ((i:Int)+1)=((i+1:Nat):Int):=by rw [i64w (by omega)]; rfl
    have hm:((fs.take i).map (pkF p) ++ fs.drop i)[i]? = some f:=by rw [List.getElem?_append_right (by simp; omega)]; simp [Nat.min_eq_left (Nat.le_of_lt hil),hf]
    obtain ⟨sv,st⟩:=fr'.2 i f s hm hs
    have hroots:zh (fs.drop i)=f.vars ++ (f.stack ++ zh (fs.drop (i+1))):=by rw [hdrop]; simp [zh]
    have q2:cs[i*4+2]? = some s.1:=by
      have:=congrArg (·[2]?) e3
      simpa using this
    have q3:cs[i*4+3]? = some s.2:=by
      have:=congrArg (·[3]?) e3
      simpa using this
    rw [hroots]
    have hown:∀ g,(g∈own s.1∨g∈own s.2)→g∈owns ss:=fun g hg=>List.mem_flatMap.2 ⟨s,List.mem_of_getElem? hs,by simpa using hg⟩
    have hdis:∀ g∈own s.1,g∉own s.2:=by
      obtain ⟨hi1,rfl⟩:=List.getElem?_eq_some_iff.1 hs
      have hsub:(own ss[i].1 ++ own ss[i].2).Sublist (owns ss):=List.sublist_flatten_of_mem (List.mem_map.2 ⟨_,List.getElem_mem hi1,rfl⟩)
      have:=List.nodup_append.1 (nd.sublist hsub)
      exact fun g h1 h2=>this.2.2 g h1 g h2 rfl
    have len3:∀ l:List Val,∀ x∈l.map (fun v=>(p v).avs),x.length=3:=fun l x hx=>by obtain ⟨v,_,rfl⟩:=List.mem_map.1 hx; rfl
    have one3:∀ l:List Val,∀ x∈l.map (fun v=>(p v).avs),∀ c∈x,c.one=true:=fun l x hx c hc=>by obtain ⟨v,_,rfl⟩:=List.mem_map.1 hx; exact zae (zat _ c hc)
    have fl:∀ l:List Val,(l.map fun v=>(p v).avs).flatten=rowV (l.map p):=fun l=>by simp [rowV,List.map_map,Function.comp_def]
    simp [ziz,hil,e0,e1,zc,q2,q3]
    refine Slot.cp sv (fun x hx => ?_) (by simp) (fun x hx => ?_) fun H2 s2 k2 => ?_
    · rw [← List.map_append,← List.map_append] at hx; exact len3 _ x hx
    · rw [← List.map_append,← List.map_append] at hx; exact one3 _ x hx
    refine zadw (fun x hx => ?_) (by omega) (by simp; omega) ?_
    · rw [← List.map_append,← List.map_append] at hx; exact len3 _ x hx
    have h2:H2 gf=some (.row 4 cs):=by rw [k2 gf (fun h=>g0 (hown _ (.inl h)))]; exact e0
    have hd1:∀ (A B:List (List AV)) (n:Nat),A.length=n→(A ++ B).drop ((n:Int).toNat)=B:=fun A B n h=>by simp [← h]
    rw [hd1 _ _ _ (by simp)]
    simp only [h2,rowk,q3,optk]
    refine Slot.cp (st.keep fun g hg=>k2 g fun h=>hdis g h hg) (fun x hx => ?_) (by simp) (fun x hx => ?_) fun H3 s3 k3 => ?_
    · rw [← List.map_append] at hx; exact len3 _ x hx
    · rw [← List.map_append] at hx; exact one3 _ x hx
    refine zadw (fun x hx => ?_) (by omega) (by simp; omega) ?_
    · rw [← List.map_append] at hx; exact len3 _ x hx
    rw [hd1 _ _ _ (by simp),hadd]
    rw [fl] at s2 s3
    have e4:(fs.take (i+1)).map (pkF p) ++ fs.drop (i+1)=((fs.take i).map (pkF p) ++ fs.drop i).set i (pkF p f):=by
      rw [htk,hdrop,List.set_append_right _ _ (by simp; omega)]
      simp [Nat.min_eq_left (Nat.le_of_lt hil)]
    refine hK (i+1) H3 (by omega) (by omega) ?_ fun g hg => ?_
    · rw [e4]
      refine fr'.set nd hs (fun g h1 h2=>by rw [k3 g h2,k2 g h1]) ?_ ?_
      · have:=s2.keep (H':=H3) fun g hg=>k3 g (hdis g hg)
        simpa [pkF] using this
      · simpa [pkF] using s3
    · rw [k3 g (fun h=>hg (hown _ (.inr h))),k2 g (fun h=>hg (hown _ (.inl h)))]
      exact keep g hg
  · obtain rfl:i=fs.length:=by omega
    rw [List.take_length,List.drop_length,List.append_nil] at fr'
    simp [ziz,e1,e2,zc,z2,g3]
    have:=hend ((H'.put n1 (some (.row 9 (zc id trip pr (.slc gf 0 fs.length) (.ro (hp.map Cl.avs)) m)))).put p1 (some (.row 9 (zc id trip pr (.slc gf 0 fs.length) (.ro (hp.map Cl.avs)) m ++ z.drop 9)))) (fr'.keep fun g hg => ?_) fun g q1 q2 q3 => ?_
    · simpa [zc] using this
    · have a1:g ≠ p1:=fun e=>g2 (e ▸ hg)
      have a2:g ≠ n1:=fun e=>g1 (e ▸ hg)
      rw [Heap.put_ne _ _ a1,Heap.put_ne _ _ a2]
    · rw [Heap.put_ne _ _ q3,Heap.put_ne _ _ q2]; exact keep g q1
set_option maxRecDepth 20000 in
set_option maxHeartbeats 1000000 in
theorem zapc {a:Agt} {fs:List Frm} {f:Frm} (sz:zrz a) (hfr:a.frames=fs ++ [f]) (hfl:a.frames.length≤4096) (hb:(zh a.frames).length≤4096) (hr:VM.right a.heap (zh a.frames)=true) :
    QC Tryd.prog 32 [.agg a.avs] (.agg (VM.pack a).avs):=by
  refine QC.of' fun H nx => ?_
  refine zadf _ H nx _ ?_
  have av:(AV.agg a.avs).cells=a.avs:=by simp
  have al:a.avs.length=9:=rfl
  have hsu:(AV.agg a.avs).sure=true:=by simp [Agt.avs]
  have at9:a.avs.take 9=a.avs:=by rw [← al,List.take_length]
  unfold zzo
  rw [av,al]
  refine ⟨hsu,?_⟩
  simp [al,at9]
  refine zzz sz fun H1 n1 ss fa ha hn1 k1 ow => ?_
  generalize hHH:Heap.put _ (nx+1) _=HH at *
  have q2:∃ z,HH (nx+1)=some (.row 9 z)∧z.length=9:=⟨_,by rw [← hHH,Heap.put_at],rfl⟩
  have q4:Keep nx HH H:=fun g hg=>by rw [← hHH,Heap.put_ne _ _ (by omega),Heap.put_ne _ _ (by omega)]
  have h1:=ow.hp.one
  obtain ⟨gf,cs,rfl,c1,c2,c3⟩:∃ gf cs,fa=.slc gf 0 a.frames.length∧H1 gf=some (.row 4 cs)∧cs.take (a.frames.length*4)=frow a.frames ss∧a.frames.length*4≤cs.length:=by
    rcases ow.row with ⟨h0,_⟩ | ⟨gf,cs,h2⟩
    · rw [hfr] at h0; simp at h0
    · exact ⟨gf,cs,h2⟩
  have bd:∀ g,(g=gf∨g∈owns ss)→nx+2≤g∧g < n1:=fun g hg=>ow.bd g (by rcases hg with rfl | h <;> simp [own, *])
  have bh:∀ g∈own ha,nx+2≤g∧g < n1:=fun g hg=>ow.bd g (by simp [hg])
  have nd:=ow.nd
  have e0:own (AV.slc gf 0 a.frames.length)=[gf]:=rfl
  rw [e0,List.singleton_append,List.nodup_cons,List.nodup_append] at nd
  obtain ⟨nd1,nd2,nd3,nd4⟩:=nd
  simp only [List.mem_append,not_or] at nd1
  simp [zzp,zc,h1.1,h1.2.1,h1.2.2]
  generalize hX:Heap.put H1 n1 _=HX
  have x1:HX n1=some (.row 9 (zc a.id a.trip a.prog (.slc gf 0 a.frames.length) ha a.permit)):=by rw [← hX,Heap.put_at]; rfl
  have xk:∀ g,g < n1→HX g=H1 g:=fun g hg=>by rw [← hX,Heap.put_ne _ _ (by omega)]
  refine zage (lo:=nx+2) hb hfl (by rw [xk gf (bd gf (.inl rfl)).2]; exact c1) c2 c3 (ow.frs.keep fun g hg=>xk g (bd g (.inr hg)).2) bd fun H' n' l hn keep sl bl => ?_
  have x2:=(keep n1 (by omega)).trans x1
  simp [x2,zc]
  let G:Nat→Prop:=fun g=>g∈own ha∨g∈own l
  let H0:Heap:=fun g=>if g∈own ha∨g∈own l then none else H' g
  have h0:∀ g o,H0 g=some o→¬ G g∧H' g=some o:=fun g o hg=>by
    by_cases h:g∈own ha∨g∈own l
    · simp only [H0,if_pos h] at hg; cases hg
    · simp only [H0,if_neg h] at hg; exact ⟨h,hg⟩
  have up:∀ g,g∉own ha→g < n1+1→H0 g=HX g:=fun g h1 h2=>by
    simp only [H0]
    rw [if_neg (fun h=>by
      rcases h with h | h
      · exact h1 h
      · have:=bl g h; omega)]
    exact keep g h2
  refine QC.thaw (zanq a.heap (zh a.frames) hr sz.b5 (by omega)) (G:=G) (H0:=H0) (zhk.cons (Slot.frzP (sz:=6) ?_ (fun g hg=>.inl hg) (zbj _)) (zhk.cons (Slot.frzP (sz:=3) ?_ (fun g hg=>.inr hg) (zbw _)) .nil)) h0 ?_
  · have:=ow.hp.keep (H':=H') fun g hg=>by have:=bh g hg; rw [keep g (by omega),xk g (by omega)]
    simpa [rowC] using this
  · simpa [rowV] using sl
  have y1:H0 n1=some (.row 9 (zc a.id a.trip a.prog (.slc gf 0 a.frames.length) ha a.permit)):=by
    rw [up n1 (fun h=>by have:=bh _ h; omega) (by omega)]; exact x1
  have lowk:∀ g,g < nx+2→H0 g=HH g:=fun g hg=>by
    rw [up g (fun h=>by have:=bh _ h; omega) (by omega),xk g (by omega),k1 g (by omega)]
  simp [zrf,y1,zc]
  obtain ⟨z,z1,z2⟩:=q2
  have hcv:(VM.canonV a.heap (zh a.frames)).map Val.avs=(zh a.frames).map fun v=>(VM.put (VM.order a.heap (zh a.frames)) v).avs:=by
    unfold VM.canonV; rw [List.map_map]; rfl
  rw [hcv]
  have gdis:∀ g∈owns ss,g∉own ha:=fun g hg h=>nd4 g h g hg rfl
  refine zajp (id:=a.id) (trip:=a.trip) (pr:=a.prog) (m:=a.permit) (p:=VM.put (VM.order a.heap (zh a.frames))) (hp:=VM.canonC a.heap (zh a.frames)) (ss:=ss) (cs:=cs) (ha:=ha) hfl ?_ c2 c3 (ow.frs.keep fun g hg => ?_) nd3 nd1.2 (fun h=>by have:=bd _ (.inr h); omega) (fun h=>by have:=bd _ (.inr h); omega) (by omega) y1 ⟨z,by rw [lowk _ (by omega)]; exact z1,z2⟩ fun H3 fr3 k3 => ?_
  · rw [up gf nd1.1 (by have:=bd gf (.inl rfl); omega),xk gf (bd gf (.inl rfl)).2]; exact c1
  · rw [up g (gdis g hg) (by have:=bd g (.inr hg); omega),xk g (bd g (.inr hg)).2]
  have hgf:=bd gf (.inl rfl)
  refine ⟨?_,fun g hg => ?_⟩
  · have hp:VM.pack a=⟨a.id,a.trip,a.prog,a.frames.map (pkF (VM.put (VM.order a.heap (zh a.frames)))),VM.canonC a.heap (zh a.frames),a.permit⟩:=rfl
    rw [hp]
    have ef:frow (a.frames.map (pkF (VM.put (VM.order a.heap (zh a.frames))))) ss=frow a.frames ss:=zaet _ _
    refine zcf (zaq.frz (cs:=cs) fr3 ?_ (by simpa [ef] using c2) (by simpa using c3) (by omega) (fun x hx=>by have:=bd x (.inr hx); omega) (by simp)) (.same _ (zcn (zao _)))
    rw [k3 gf nd1.2 (by omega) (by omega),up gf nd1.1 (by omega),xk gf hgf.2]; exact c1
  · rw [k3 g (fun h=>by have:=bd _ (.inr h); omega) (by omega) (by omega),lowk g (by omega)]
    exact q4 g hg
end Go.Proofs.YtdmibdjokofclaaDoor
set_option maxRecDepth 8000
namespace Go.Proofs.YtdmibdjokofclaaDoor
open Go Go.RowKit
theorem zach {a:Agt} {fs:List Frm} {f:Frm} (l:VM.Live a fs f):f.stack.length≤17:=by
  have nw:=l.now
  have ok:=l.ok f (by simp)
  have hst:=l.still
  unfold VM.Still VM.hts at hst
  have hm:=(zcr ((zad l.prog).1 _ (VM.code_mem ok.code)).2.1 ((zad l.prog).1 _ (VM.code_mem ok.code)).2.2).2 _ (List.mem_of_getElem? hst)
  omega
theorem zabt {A:Nat→Prop} (f:Frm):∀ (j:Nat) (v:AV),f.avs[j]? = some v→Bel A v:=fun j v hv=>by
  match j,hv with
  | 0,hv=>cases hv; exact .int _ _
  | 1,hv=>cases hv; exact .int _ _
  | 2,hv=>cases hv; exact zcn (zek _)
  | 3,hv=>cases hv; exact zcn (zek _)
  | j+4,hv=>simp [Frm.avs] at hv
theorem zahi {A:Nat→Prop} (fs:List Frm):Bel A (.ro (fs.map Frm.avs)):=by
  refine .ro _ fun i x j v hx hv => ?_
  rw [List.getElem?_map] at hx
  obtain ⟨f,_,rfl⟩:=Option.map_eq_some_iff.1 hx
  exact zabt f j v hv
theorem zap (a:Agt):a.avs.drop 9=[]∧a.avs.take 9=a.avs∧a.avs.length=9:=⟨rfl,rfl,rfl⟩
theorem zck (a:Agt):∀ x∈a.avs,x.one=true:=fun x hx=>by
  simp [Agt.avs] at hx
  rcases hx with rfl | rfl | rfl | rfl | rfl | rfl | rfl | rfl | rfl <;> rfl
theorem eavs (e:Evt):e.avs=[.int .i64 e.kind,.str e.text,.int .i64 e.err]:=rfl
end Go.Proofs.YtdmibdjokofclaaDoor
set_option maxRecDepth 8000
namespace Go.Proofs.YtdmibdjokofclaaDoor
open Go Go.RowKit
structure Fits (p:Prg) (b:Agt):Prop where
  prog:b.prog=p
  frames:b.frames.length≤4096
  heap:b.heap.length≤4096
  stk:∀ f∈b.frames,f.vars.length≤4096∧f.stack.length≤4096
theorem zaju {a:Agt} {fs:List Frm} {f:Frm} (l:VM.Live a fs f):Fits a.prog a:=by
  have flen:=l.flen
  have hlen:=l.hlen
  have hroom:=l.room
  exact ⟨rfl,by rw [l.fr]; simp; omega,by omega,fun g hg=>by have:=Live.stk l g hg; omega⟩
end Go.Proofs.YtdmibdjokofclaaDoor
set_option maxRecDepth 8000
namespace Go.Proofs.YtdmibdjokofclaaDoor
open Go Go.RowKit
theorem zgc {A:Nat→Prop} (a:Agt):Bel A (.agg a.avs):=by
  refine .agg _ fun j v hv => ?_
  match j,hv with
  | 0,hv=>cases hv; exact .int _ _
  | 1,hv=>cases hv; exact .int _ _
  | 2,hv=>cases hv; exact zvk _
  | 3,hv=>cases hv; exact zvj _
  | 4,hv=>cases hv; exact zahi _
  | 5,hv=>cases hv; exact zcn (zao _)
  | 6,hv=>cases hv; exact .int _ _
  | 7,hv=>cases hv; exact .int _ _
  | 8,hv=>cases hv; exact .int _ _
  | j+9,hv=>simp [Agt.avs] at hv
end Go.Proofs.YtdmibdjokofclaaDoor
set_option maxRecDepth 8000
namespace Go.Proofs.YtdmibdjokofclaaDoor
open Go Go.RowKit
theorem zabr:Tryd.prog.cellsOf 65=3:=by kernel_rfl
def Ins.rd (x:Ins):Prop:=zdr x.op∧zdr x.a∧zdr x.b
theorem oIns:OpA Tryd.prog 65 Ins.avs Ins.rd :=
  ⟨fun _ _=>zabr.symm,fun enc w base sp held fuel cs x h hw=>by
    obtain ⟨hl,hf⟩:=zbl Tryd.underlying65 h hw
    rw [zabr] at hl
    obtain ⟨x0,h0,r0⟩:=hf 0 3 0 1 (by kernel_rfl) cInt oInt
    obtain ⟨x1,h1,r1⟩:=hf 1 3 1 1 (by kernel_rfl) cInt oInt
    obtain ⟨x2,h2,r2⟩:=hf 2 3 2 1 (by kernel_rfl) cInt oInt
    match cs,hl with
    | [c0,c1,c2],_=>exact ⟨⟨x0,x1,x2⟩,⟨h0,h1,h2⟩,fun ρ A=>((r0 ρ A).append ((r1 ρ A).append (r2 ρ A)))⟩⟩
theorem zafj:Tryd.prog.cellsOf 61=1:=by kernel_rfl
theorem zarf:OpA Tryd.prog 61 (fun l:List Ins=>[.ro (l.map Ins.avs)]) (rdL Ins.rd (Tryd.prog.bytesOf 65)):=zem Tryd.underlying61 zafj oIns (by rw [zabr]; decide)
theorem zafm:Tryd.prog.cellsOf 63=3:=by kernel_rfl
def Cod.rd (x:Cod):Prop:=zdr x.params∧zdr x.vars∧rdL Ins.rd (Tryd.prog.bytesOf 65) x.ins
theorem oCod:OpA Tryd.prog 63 Cod.avs Cod.rd :=
  ⟨fun _ _=>zafm.symm,fun enc w base sp held fuel cs x h hw=>by
    obtain ⟨hl,hf⟩:=zbl Tryd.underlying63 h hw
    rw [zafm] at hl
    obtain ⟨x0,h0,r0⟩:=hf 0 3 0 1 (by kernel_rfl) cInt oInt
    obtain ⟨x1,h1,r1⟩:=hf 1 3 1 1 (by kernel_rfl) cInt oInt
    obtain ⟨x2,h2,r2⟩:=hf 2 61 2 1 (by kernel_rfl) zafj zarf
    match cs,hl with
    | [c0,c1,c2],_=>exact ⟨⟨x0,x1,x2⟩,⟨h0,h1,h2⟩,fun ρ A=>((r0 ρ A).append ((r1 ρ A).append (r2 ρ A)))⟩⟩
theorem zahg:Tryd.prog.cellsOf 23=1:=by kernel_rfl
theorem zari:OpA Tryd.prog 23 (fun l:List Cod=>[.ro (l.map Cod.avs)]) (rdL Cod.rd (Tryd.prog.bytesOf 63)):=zem Tryd.underlying23 zahg oCod (by rw [zafm]; decide)
theorem zacx:Tryd.prog.cellsOf 24=1:=by kernel_rfl
theorem zard:OpA Tryd.prog 24 (fun l:List (List UInt8)=>[.ro (l.map (fun w=>[.str w]))]) (rdL (fun s=>s.length≤reachBytes) (Tryd.prog.bytesOf 9)):=zem Tryd.underlying24 zacx oStr (by rw [cStr]; decide)
theorem zvh:Tryd.prog.cellsOf 26=2:=by kernel_rfl
def Prg.rd (x:Prg):Prop:=rdL Cod.rd (Tryd.prog.bytesOf 63) x.codes∧rdL (fun s=>s.length≤reachBytes) (Tryd.prog.bytesOf 9) x.words
theorem oPrg:OpA Tryd.prog 26 Prg.avs Prg.rd :=
  ⟨fun _ _=>zvh.symm,fun enc w base sp held fuel cs x h hw=>by
    obtain ⟨hl,hf⟩:=zbl Tryd.underlying26 h hw
    rw [zvh] at hl
    obtain ⟨x0,h0,r0⟩:=hf 0 23 0 1 (by kernel_rfl) zahg zari
    obtain ⟨x1,h1,r1⟩:=hf 1 24 1 1 (by kernel_rfl) zacx zard
    match cs,hl with
    | [c0,c1],_=>exact ⟨⟨x0,x1⟩,⟨h0,h1⟩,fun ρ A=>((r0 ρ A).append (r1 ρ A))⟩⟩
theorem zabs:Tryd.prog.cellsOf 80=4:=by kernel_rfl
def Frm.rd (x:Frm):Prop:=zdr x.fn∧zdr x.at_∧rdL Val.rd (Tryd.prog.bytesOf 55) x.vars∧rdL Val.rd (Tryd.prog.bytesOf 55) x.stack
theorem oFrm:OpA Tryd.prog 80 Frm.avs Frm.rd :=
  ⟨fun _ _=>zabs.symm,fun enc w base sp held fuel cs x h hw=>by
    obtain ⟨hl,hf⟩:=zbl Tryd.underlying80 h hw
    rw [zabs] at hl
    obtain ⟨x0,h0,r0⟩:=hf 0 3 0 1 (by kernel_rfl) cInt oInt
    obtain ⟨x1,h1,r1⟩:=hf 1 3 1 1 (by kernel_rfl) cInt oInt
    obtain ⟨x2,h2,r2⟩:=hf 2 78 2 1 (by kernel_rfl) zait zany
    obtain ⟨x3,h3,r3⟩:=hf 3 78 3 1 (by kernel_rfl) zait zany
    match cs,hl with
    | [c0,c1,c2,c3],_=>exact ⟨⟨x0,x1,x2,x3⟩,⟨h0,h1,h2,h3⟩,fun ρ A=>((r0 ρ A).append ((r1 ρ A).append ((r2 ρ A).append (r3 ρ A))))⟩⟩
theorem zafk:Tryd.prog.cellsOf 29=1:=by kernel_rfl
theorem zarg:OpA Tryd.prog 29 (fun l:List Frm=>[.ro (l.map Frm.avs)]) (rdL Frm.rd (Tryd.prog.bytesOf 80)):=zem Tryd.underlying29 zafk oFrm (by rw [zabs]; decide)
theorem zyr:Tryd.prog.cellsOf 28=3:=by kernel_rfl
def Pmt.rd (x:Pmt):Prop:=zdr x.fuel∧zdr x.room∧zdr x.hops
theorem oPmt:OpA Tryd.prog 28 Pmt.avs Pmt.rd :=
  ⟨fun _ _=>zyr.symm,fun enc w base sp held fuel cs x h hw=>by
    obtain ⟨hl,hf⟩:=zbl Tryd.underlying28 h hw
    rw [zyr] at hl
    obtain ⟨x0,h0,r0⟩:=hf 0 3 0 1 (by kernel_rfl) cInt oInt
    obtain ⟨x1,h1,r1⟩:=hf 1 3 1 1 (by kernel_rfl) cInt oInt
    obtain ⟨x2,h2,r2⟩:=hf 2 3 2 1 (by kernel_rfl) cInt oInt
    match cs,hl with
    | [c0,c1,c2],_=>exact ⟨⟨x0,x1,x2⟩,⟨h0,h1,h2⟩,fun ρ A=>((r0 ρ A).append ((r1 ρ A).append (r2 ρ A)))⟩⟩
theorem zahh:Tryd.prog.cellsOf 32=9:=by kernel_rfl
def Agt.rd (x:Agt):Prop:=zdr x.id∧zdr x.trip∧x.prog.rd∧rdL Frm.rd (Tryd.prog.bytesOf 80) x.frames∧rdL Cl.rd (Tryd.prog.bytesOf 82) x.heap∧x.permit.rd
theorem oAgt:OpA Tryd.prog 32 Agt.avs Agt.rd :=
  ⟨fun _ _=>zahh.symm,fun enc w base sp held fuel cs x h hw=>by
    obtain ⟨hl,hf⟩:=zbl Tryd.underlying32 h hw
    rw [zahh] at hl
    obtain ⟨x0,h0,r0⟩:=hf 0 3 0 1 (by kernel_rfl) cInt oInt
    obtain ⟨x1,h1,r1⟩:=hf 1 3 1 1 (by kernel_rfl) cInt oInt
    obtain ⟨x2,h2,r2⟩:=hf 2 26 2 2 (by kernel_rfl) zvh oPrg
    obtain ⟨x3,h3,r3⟩:=hf 3 29 4 1 (by kernel_rfl) zafk zarg
    obtain ⟨x4,h4,r4⟩:=hf 4 30 5 1 (by kernel_rfl) cCls oCls
    obtain ⟨x5,h5,r5⟩:=hf 5 28 6 3 (by kernel_rfl) zyr oPmt
    match cs,hl with
    | [c0,c1,c2,c3,c4,c5,c6,c7,c8],_=>exact ⟨⟨x0,x1,x2,x3,x4,x5⟩,⟨h0,h1,h2,h3,h4,h5⟩,fun ρ A=>((r0 ρ A).append ((r1 ρ A).append ((r2 ρ A).append ((r3 ρ A).append ((r4 ρ A).append (r5 ρ A))))))⟩⟩
theorem zafl:Tryd.prog.cellsOf 57=4:=by kernel_rfl
def Fct.rd (x:Fct):Prop:=x.key.length≤reachBytes∧x.val.rd
theorem oFct:OpA Tryd.prog 57 Fct.avs Fct.rd :=
  ⟨fun _ _=>zafl.symm,fun enc w base sp held fuel cs x h hw=>by
    obtain ⟨hl,hf⟩:=zbl Tryd.underlying57 h hw
    rw [zafl] at hl
    obtain ⟨x0,h0,r0⟩:=hf 0 9 0 1 (by kernel_rfl) cStr oStr
    obtain ⟨x1,h1,r1⟩:=hf 1 55 1 3 (by kernel_rfl) cVal oVal
    match cs,hl with
    | [c0,c1,c2,c3],_=>exact ⟨⟨x0,x1⟩,⟨h0,h1⟩,fun ρ A=>((r0 ρ A).append (r1 ρ A))⟩⟩
theorem zahf:Tryd.prog.cellsOf 47=1:=by kernel_rfl
theorem zarh:OpA Tryd.prog 47 (fun l:List Fct=>[.ro (l.map Fct.avs)]) (rdL Fct.rd (Tryd.prog.bytesOf 57)):=zem Tryd.underlying47 zahf oFct (by rw [zafl]; decide)
theorem zafi:Tryd.prog.cellsOf 49=4:=by kernel_rfl
def Spt.rd (x:Spt):Prop:=x.name.length≤reachBytes∧rdL Fct.rd (Tryd.prog.bytesOf 57) x.facts∧zdr x.fuel∧zdr x.cells
theorem oSpt:OpA Tryd.prog 49 Spt.avs Spt.rd :=
  ⟨fun _ _=>zafi.symm,fun enc w base sp held fuel cs x h hw=>by
    obtain ⟨hl,hf⟩:=zbl Tryd.underlying49 h hw
    rw [zafi] at hl
    obtain ⟨x0,h0,r0⟩:=hf 0 9 0 1 (by kernel_rfl) cStr oStr
    obtain ⟨x1,h1,r1⟩:=hf 1 47 1 1 (by kernel_rfl) zahf zarh
    obtain ⟨x2,h2,r2⟩:=hf 2 3 2 1 (by kernel_rfl) cInt oInt
    obtain ⟨x3,h3,r3⟩:=hf 3 3 3 1 (by kernel_rfl) cInt oInt
    match cs,hl with
    | [c0,c1,c2,c3],_=>exact ⟨⟨x0,x1,x2,x3⟩,⟨h0,h1,h2,h3⟩,fun ρ A=>((r0 ρ A).append ((r1 ρ A).append ((r2 ρ A).append (r3 ρ A))))⟩⟩
end Go.Proofs.YtdmibdjokofclaaDoor
set_option maxRecDepth 8000
namespace Go.Proofs.YtdmibdjokofclaaDoor
open Go Go.RowKit
theorem zapq:Tryd.prog.cellsOf 22=1:=by kernel_rfl
theorem zare:OpA Tryd.prog 22 (fun l:List Spt=>[.ro (l.map Spt.avs)]) (rdL Spt.rd (Tryd.prog.bytesOf 49)):=zem Tryd.underlying22 zapq oSpt (by rw [zafi]; decide)
end Go.Proofs.YtdmibdjokofclaaDoor
set_option maxRecDepth 8000
namespace Go.Proofs.YtdmibdjokofclaaDoor
open Go Go.RowKit
theorem zow (v:Val) (n:Int):QC Tryd.prog 21 [.agg v.avs,.int .i64 n] (.int .i64 (VM.wrong v n)):=by
  refine QC.of' fun H nx=>znt _ _ H nx _ ?_
  obtain ⟨kind,m,text⟩:=v
  simp [zim,Val.avs]
  simp only [← List.length_eq_zero_iff]
  repeat' first | apply And.intro | intro _
  all_goals (simp only [VM.wrong,ne_eq,← List.length_eq_zero_iff]; (repeat' split) <;> omega)
end Go.Proofs.YtdmibdjokofclaaDoor
set_option maxRecDepth 8000
namespace Go.Proofs.YtdmibdjokofclaaDoor
open Go Go.RowKit
def zcy (Q:QT) (xs3:List AV) (K2:J3) (v9:AV) (H10:Heap) (nx11:Nat):Prop :=
 CNDC v9
 (Q (nth xs3 3) H10 nx11)
 (BI .add (nth xs3 3) (.int .i64 1) fun v12 =>
 K2 [nth xs3 0,nth xs3 1,nth xs3 2,v12] H10 nx11)
def zcx (Q:QT) (K2:J3) (xs3:List AV) (H4:Heap) (nx5:Nat):Prop :=
 BI .lss (nth xs3 3) (nth xs3 2) fun v6 =>
 CNDC v6
 (IA 4 (nth xs3 0) (nth xs3 3) fun v7 =>
 LD true 4 v7 H4 fun v8 =>
 CALL Tryd.prog (nth xs3 1) [v8] H4 nx5 (zcy Q xs3 K2))
 (Q (.int .i64 (-1)) H4 nx5)
def zfn (a0 a1:AV) (H:Heap) (nx:Nat) (Q:QT):Prop :=
 LNL a0 fun v1 =>
 LP (zcx Q) [a0,a1,v1,.int .i64 0] H nx
theorem zkp (a0 a1:AV) (H:Heap) (nx:Nat) (Q:QT):zfn a0 a1 H nx Q→za Tryd.prog 22 [a0,a1] H nx Q :=
  zd (lv:=lvOf [(2,2,[0,1,7,8])]) (c:=zn Tryd.f22) zw zx mixed Tryd.func22 (by kernel_rfl) (by kernel_rfl) (by kernel_rfl) (by kernel_rfl) (by kernel_rfl)
def ztc (Q:QT) (v2:AV) (H3:Heap) (nx4:Nat):Prop :=
 Q v2 H3 nx4
def ztb (a0 a1:AV) (H:Heap) (nx:Nat) (Q:QT):Prop :=
 a1.sure=true ∧
 PUTH H nx (.row a1.cells.length a1.cells) fun H1 =>
 za Tryd.prog 22 [a0,.clo 23 [.ptr nx 0]] H1 (nx+1) (ztc Q)
theorem zys (a0 a1:AV) (H:Heap) (nx:Nat) (Q:QT):ztb a0 a1 H nx Q→za Tryd.prog 6 [a0,a1] H nx Q :=
  zd (lv:=lvOf []) (c:=zn Tryd.f6) zw zx mixed Tryd.func6 (by kernel_rfl) (by kernel_rfl) (by kernel_rfl) (by kernel_rfl) (by kernel_rfl)
def zpk (a0 a1:AV) (H:Heap) (nx:Nat) (Q:QT):Prop :=
 a0.sure=true ∧
 PUTH H nx (.row a0.cells.length a0.cells) fun H1 =>
 LD false 1 (.ptr nx 0) H1 fun v2 =>
 LD false 1 a1 H1 fun v3 =>
 BS .eql v2 v3 fun v4 =>
 Q v4 H1 (nx+1)
theorem zvr (a0 a1:AV) (H:Heap) (nx:Nat) (Q:QT):zpk a0 a1 H nx Q→za Tryd.prog 23 [a0,a1] H nx Q :=
  zd (lv:=lvOf []) (c:=zn Tryd.f23) zw zx mixed Tryd.func23 (by kernel_rfl) (by kernel_rfl) (by kernel_rfl) (by kernel_rfl) (by kernel_rfl)
def zvq (nx:Nat) (Q:QT) (v21:AV) (H22:Heap) (nx23:Nat):Prop :=
 ST 9 (.ptr (nx+2) 0) v21 H22 fun H24 =>
 LD true 9 (.ptr (nx+2) 0) H24 fun v25 =>
 Q (.tup [v25,.bool true]) H24 nx23
def znr (nx:Nat) (Q:QT) (v5:AV) (H6:Heap) (nx7:Nat):Prop :=
 PUTH H6 nx7 (.row 9 [.int .i64 0,.int .i64 0,.nils,.nils,.nils,.nils,.int .i64 0,.int .i64 0,.int .i64 0]) fun H8 =>
 ST 9 (.ptr nx7 0) v5 H8 fun H9 =>
 LD false 1 (.ptr nx7 5) H9 fun v10 =>
 LNL v10 fun v11 =>
 LD false 1 (.ptr (nx+1) 3) H9 fun v12 =>
 BI .gtr v11 v12 fun v13 =>
 CNDC v13
 (ST 9 (.ptr (nx+2) 0) (.agg [.int .i64 0,.int .i64 0,.nils,.nils,.nils,.nils,.int .i64 0,.int .i64 0,.int .i64 0]) H9 fun H14 =>
 LD true 9 (.ptr (nx+2) 0) H14 fun v15 =>
 Q (.tup [v15,.bool false]) H14 (nx7+1))
 (LD false 1 (.ptr nx7 6) H9 fun v16 =>
 LD false 1 (.ptr (nx+1) 2) H9 fun v17 =>
 MM true v16 v17 fun v18 =>
 ST 1 (.ptr nx7 6) v18 H9 fun H19 =>
 LD true 9 (.ptr nx7 0) H19 fun v20 =>
 za Tryd.prog 28 [v20,.int .i64 1] H19 (nx7+1) (zvq nx Q))
def zvp (a0 a1:AV) (H:Heap) (nx:Nat) (Q:QT):Prop :=
 a0.sure=true ∧
 PUTH H nx (.row a0.cells.length a0.cells) fun H1 =>
 a1.sure=true ∧
 PUTH H1 (nx+1) (.row a1.cells.length a1.cells) fun H2 =>
 PUTH H2 (nx+2) (.row 9 [.int .i64 0,.int .i64 0,.nils,.nils,.nils,.nils,.int .i64 0,.int .i64 0,.int .i64 0]) fun H3 =>
 LD true 9 (.ptr nx 0) H3 fun v4 =>
 za Tryd.prog 32 [v4] H3 (nx+3) (znr nx Q)
theorem zaas (a0 a1:AV) (H:Heap) (nx:Nat) (Q:QT):zvp a0 a1 H nx Q→za Tryd.prog 15 [a0,a1] H nx Q :=
  zd (lv:=lvOf []) (c:=zn Tryd.f15) zw zx mixed Tryd.func15 (by kernel_rfl) (by kernel_rfl) (by kernel_rfl) (by kernel_rfl) (by kernel_rfl)
def zpj (a0:AV) (H:Heap) (nx:Nat) (Q:QT):Prop :=
 a0.sure=true ∧
 PUTH H nx (.row a0.cells.length a0.cells) fun H1 =>
 LD false 1 (.ptr nx 0) H1 fun v2 =>
 BI .lss v2 (.int .i64 0) fun v3 =>
 CND v3
 (Q (.int .i64 3) H1 (nx+1))
 (LD false 1 (.ptr nx 0) H1 fun v4 =>
 BI .gtr v4 (.int .i64 2000) fun v5 =>
 CND v5
 (Q (.int .i64 3) H1 (nx+1))
 (LD false 1 (.ptr nx 1) H1 fun v6 =>
 BI .lss v6 (.int .i64 0) fun v7 =>
 CND v7
 (Q (.int .i64 3) H1 (nx+1))
 (LD false 1 (.ptr nx 1) H1 fun v8 =>
 BI .gtr v8 (.int .i64 60) fun v9 =>
 CND v9
 (Q (.int .i64 3) H1 (nx+1))
 (LD false 1 (.ptr nx 2) H1 fun v10 =>
 BI .lss v10 (.int .i64 0) fun v11 =>
 CND v11
 (Q (.int .i64 3) H1 (nx+1))
 (LD false 1 (.ptr nx 2) H1 fun v12 =>
 BI .gtr v12 (.int .i64 12) fun v13 =>
 CNDC v13
 (Q (.int .i64 3) H1 (nx+1))
 (Q (.int .i64 0) H1 (nx+1)))))))
theorem zvo (a0:AV) (H:Heap) (nx:Nat) (Q:QT):zpj a0 H nx Q→za Tryd.prog 8 [a0] H nx Q :=
  zd (lv:=lvOf []) (c:=zn Tryd.f8) zw zx mixed Tryd.func8 (by kernel_rfl) (by kernel_rfl) (by kernel_rfl) (by kernel_rfl) (by kernel_rfl)
def zei (Q:QT) (v1:AV) (H2:Heap) (nx3:Nat):Prop :=
 BI .geq v1 (.int .i64 0) fun v4 =>
 Q v4 H2 nx3
def zeh (a0 a1:AV) (H:Heap) (nx:Nat) (Q:QT):Prop :=
 za Tryd.prog 22 [a0,a1] H nx (zei Q)
theorem zja (a0 a1:AV) (H:Heap) (nx:Nat) (Q:QT):zeh a0 a1 H nx Q→za Tryd.prog 18 [a0,a1] H nx Q :=
  zd (lv:=lvOf []) (c:=zn Tryd.f18) zw zx mixed Tryd.func18 (by kernel_rfl) (by kernel_rfl) (by kernel_rfl) (by kernel_rfl) (by kernel_rfl)
def zka (Q:QT) (xs39:List AV) (K38:J3) (v53:AV) (H54:Heap) (nx55:Nat):Prop :=
 BI .neq v53 (.int .i64 0) fun v56 =>
 CNDC v56
 (Q (.tup [.int .i64 11,nth xs39 1]) H54 nx55)
 (BI .add (nth xs39 7) (.int .i64 1) fun v57 =>
 K38 [nth xs39 0,nth xs39 1,nth xs39 2,nth xs39 3,nth xs39 4,nth xs39 5,nth xs39 6,v57] H54 nx55)
def zcu (Q:QT) (K6:J3) (K38:J3) (xs39:List AV) (H40:Heap) (nx41:Nat):Prop :=
 BI .lss (nth xs39 7) (nth xs39 6) fun v42 =>
 CNDC v42
 (IA 4 (nth xs39 5) (nth xs39 7) fun v43 =>
 LD true 4 v43 H40 fun v44 =>
 PUTH H40 nx41 (.row 4 [.str [],.int .i64 0,.int .i64 0,.str []]) fun H45 =>
 ST 4 (.ptr nx41 0) v44 H45 fun H46 =>
 LD false 1 (.ptr nx41 0) H46 fun v47 =>
 LNS v47 fun v48 =>
 BI .gtr v48 (.int .i64 60) fun v49 =>
 CND v49
 (Q (.tup [.int .i64 11,nth xs39 1]) H46 (nx41+1))
 (LD false 1 (.ptr nx41 1) H46 fun v50 =>
 BI .eql v50 (.int .i64 2) fun v51 =>
 CND v51
 (Q (.tup [.int .i64 11,nth xs39 1]) H46 (nx41+1))
 (LD true 3 (.ptr nx41 1) H46 fun v52 =>
 za Tryd.prog 20 [v52,.int .i64 0] H46 (nx41+1) (zka Q xs39 K38))))
 (BI .add (nth xs39 4) (.int .i64 1) fun v58 =>
 K6 [nth xs39 0,nth xs39 2,nth xs39 3,v58] H40 nx41)
def zbr (Q:QT) (xs7:List AV) (nx9:Nat) (K6:J3) (v22:AV) (H23:Heap) (nx24:Nat):Prop :=
 CNDC v22
 (Q (.tup [.int .i64 7,nth xs7 3]) H23 nx24)
 (LD false 1 (.ptr nx9 2) H23 fun v25 =>
 BI .lss v25 (.int .i64 0) fun v26 =>
 CND v26
 (Q (.tup [.int .i64 3,nth xs7 3]) H23 nx24)
 (LD false 1 (.ptr nx9 2) H23 fun v27 =>
 BI .gtr v27 (.int .i64 2000) fun v28 =>
 CND v28
 (Q (.tup [.int .i64 3,nth xs7 3]) H23 nx24)
 (LD false 1 (.ptr nx9 3) H23 fun v29 =>
 BI .lss v29 (.int .i64 0) fun v30 =>
 CND v30
 (Q (.tup [.int .i64 3,nth xs7 3]) H23 nx24)
 (LD false 1 (.ptr nx9 3) H23 fun v31 =>
 BI .gtr v31 (.int .i64 60) fun v32 =>
 CNDC v32
 (Q (.tup [.int .i64 3,nth xs7 3]) H23 nx24)
 (LD false 1 (.ptr nx9 1) H23 fun v33 =>
 LNL v33 fun v34 =>
 BI .gtr v34 (.int .i64 4) fun v35 =>
 CNDC v35
 (Q (.tup [.int .i64 5,nth xs7 3]) H23 nx24)
 (LD false 1 (.ptr nx9 1) H23 fun v36 =>
 LNL v36 fun v37 =>
 LP (zcu Q K6) [nth xs7 0,nth xs7 3,nth xs7 1,nth xs7 2,nth xs7 3,v36,v37,.int .i64 0] H23 nx24))))))
def zct (Q:QT) (K6:J3) (xs7:List AV) (H8:Heap) (nx9:Nat):Prop :=
 BI .lss (nth xs7 3) (nth xs7 2) fun v10 =>
 CNDC v10
 (IA 4 (nth xs7 1) (nth xs7 3) fun v11 =>
 LD true 4 v11 H8 fun v12 =>
 PUTH H8 nx9 (.row 4 [.str [],.nils,.int .i64 0,.int .i64 0]) fun H13 =>
 ST 4 (.ptr nx9 0) v12 H13 fun H14 =>
 LD false 1 (.ptr nx9 0) H14 fun v15 =>
 LNS v15 fun v16 =>
 BI .lss v16 (.int .i64 1) fun v17 =>
 CND v17
 (Q (.tup [.int .i64 7,nth xs7 3]) H14 (nx9+1))
 (LD false 1 (.ptr nx9 0) H14 fun v18 =>
 LNS v18 fun v19 =>
 BI .gtr v19 (.int .i64 12) fun v20 =>
 CND v20
 (Q (.tup [.int .i64 7,nth xs7 3]) H14 (nx9+1))
 (SL 4 (nth xs7 0) none (some (nth xs7 3)) H14 fun v21 =>
 za Tryd.prog 18 [v21,.clo 19 [.ptr nx9 0]] H14 (nx9+1) (zbr Q xs7 nx9 K6))))
 (Q (.tup [.int .i64 0,.int .i64 (-1)]) H8 nx9)
def zgd (a0:AV) (H:Heap) (nx:Nat) (Q:QT):Prop :=
 LNL a0 fun v1 =>
 BI .lss v1 (.int .i64 1) fun v2 =>
 CND v2
 (Q (.tup [.int .i64 5,.int .i64 (-1)]) H nx)
 (LNL a0 fun v3 =>
 BI .gtr v3 (.int .i64 4) fun v4 =>
 CNDC v4
 (Q (.tup [.int .i64 5,.int .i64 (-1)]) H nx)
 (LNL a0 fun v5 =>
 LP (zct Q) [a0,a0,v5,.int .i64 0] H nx))
theorem zxc (a0:AV) (H:Heap) (nx:Nat) (Q:QT):zgd a0 H nx Q→za Tryd.prog 4 [a0] H nx Q :=
  zd (lv:=lvOf [(2,4,[0,16,17,18]),(2,13,[0,4,16,17,18,66,67,68])]) (c:=zn Tryd.f4) zw zx mixed Tryd.func4 (by kernel_rfl) (by kernel_rfl) (by kernel_rfl) (by kernel_rfl) (by kernel_rfl)
def zfw (xs34:List AV) (K33:J3) (v96:AV) (H97:Heap) (nx98:Nat):Prop :=
 ST 9 (nth xs34 3) v96 H97 fun H99 =>
 K33 [nth xs34 0,nth xs34 1,nth xs34 2,nth xs34 3,nth xs34 4] H99 nx98
def znq (nx72:Nat) (H75:Heap) (xs34:List AV) (K33:J3) (v70:AV) (v83:AV) (_:List Nat) (fr85:List Nat) (D86:zq):Prop :=
 EX v83 0 fun v87 =>
 EX v83 1 fun v88 =>
 zac 9 (.ptr nx72 0) v87 (H75.apply D86) fun _ _ fr91 D92 =>
 zb (domD D92) [] (
 CNDC v88
 (LD true 9 (.ptr nx72 0) ((H75.apply D86).apply D92) fun v93 =>
 ST 9 (nth xs34 3) v93 ((H75.apply D86).apply D92) fun H94 =>
 K33 [nth xs34 0,v70,nth xs34 2,nth xs34 3,nth xs34 4] H94 (((nx72+1)+fr85.length)+fr91.length))
 (LD true 9 (nth xs34 3) ((H75.apply D86).apply D92) fun v95 =>
 za Tryd.prog 28 [v95,.int .i64 0] ((H75.apply D86).apply D92) (((nx72+1)+fr85.length)+fr91.length) (zfw xs34 K33)))
def zjh (xs34:List AV) (K33:J3) (v70:AV) (H71:Heap) (nx72:Nat):Prop :=
 LD true 9 (nth xs34 3) H71 fun v73 =>
 PUTH H71 nx72 (.row 9 [.int .i64 0,.int .i64 0,.nils,.nils,.nils,.nils,.int .i64 0,.int .i64 0,.int .i64 0]) fun H74 =>
 ST 9 (.ptr nx72 0) v73 H74 fun H75 =>
 BI .geq v70 (.int .i64 0) fun v76 =>
 CND v76
 (BI .neq v70 (nth xs34 1) fun v77 =>
 CNDC v77
 (LDR true 9 (nth xs34 3) H75 fun v78 _ =>
 IA 4 (nth xs34 0) v70 fun v80 =>
 LDR true 4 v80 H75 fun v81 _ =>
 zo Tryd.prog (.clo 15 []) [v78,v81] H75 (nx72+1) (znq nx72 H75 xs34 K33 v70))
 (LD true 9 (nth xs34 3) H75 fun v100 =>
 za Tryd.prog 28 [v100,.int .i64 0] H75 (nx72+1) (zfw xs34 K33)))
 (LD true 9 (nth xs34 3) H75 fun v105 =>
 za Tryd.prog 28 [v105,.int .i64 0] H75 (nx72+1) (zfw xs34 K33))
def zfv (H35:Heap) (nx36:Nat) (rd38:List Nat) (rd41:List Nat) (xs34:List AV) (K33:J3) (Q:QT) (v42:AV) (rd43:List Nat) (fr44:List Nat) (D45:zq):Prop :=
 EX v42 0 fun v46 =>
 EX v42 1 fun v47 =>
 PUTH (H35.apply D45) (nx36+fr44.length) (.row 9 [.int .i64 0,.int .i64 0,.nils,.nils,.nils,.nils,.int .i64 0,.int .i64 0,.int .i64 0]) fun H48 =>
 PUTH H48 ((nx36+fr44.length)+1) (.row 3 [.int .i64 0,.str [],.int .i64 0]) fun H49 =>
 zac 9 (.ptr (nx36+fr44.length) 0) v46 H49 fun _ _ fr52 D53 =>
 zac 3 (.ptr ((nx36+fr44.length)+1) 0) v47 (H49.apply D53) fun _ _ fr56 D57 =>
 (nx36+fr44.length)∉rd38 ∧
 (nx36+fr44.length)∉[] ∧
 (nx36+fr44.length)∉[] ∧
 (nx36+fr44.length)∉[] ∧
 (nx36+fr44.length)∉rd41 ∧
 zb (domD D45) [] (
 zb (domD D45) [(nx36+fr44.length)] (
 (nx36+fr44.length)∉rd43 ∧
 (nx36+fr44.length)∉[] ∧
 (nx36+fr44.length)∉[] ∧
 (nx36+fr44.length)∉[] ∧
 ((nx36+fr44.length)+1)∉rd38 ∧
 ((nx36+fr44.length)+1)∉[] ∧
 ((nx36+fr44.length)+1)∉[] ∧
 ((nx36+fr44.length)+1)∉[] ∧
 ((nx36+fr44.length)+1)∉rd41 ∧
 zb (domD D45) [] (
 zb (domD D45) [((nx36+fr44.length)+1)] (
 ((nx36+fr44.length)+1)∉rd43 ∧
 ((nx36+fr44.length)+1)∉[] ∧
 ((nx36+fr44.length)+1)∉[] ∧
 ((nx36+fr44.length)+1)∉[] ∧
 (nx36+fr44.length)∉[] ∧
 (nx36+fr44.length)∉[((nx36+fr44.length)+1)] ∧
 ((nx36+fr44.length)+1)∉[] ∧
 zb (domD D53) [] (
 LD true 9 (.ptr (nx36+fr44.length) 0) ((H49.apply D53).apply D57) fun v58 =>
 ST 9 (nth xs34 3) v58 ((H49.apply D53).apply D57) fun H59 =>
 LD false 1 (.ptr ((nx36+fr44.length)+1) 0) H59 fun v60 =>
 BI .eql v60 (.int .i64 2) fun v61 =>
 CNDC v61
 (LD false 1 (.ptr ((nx36+fr44.length)+1) 1) H59 fun v62 =>
 BSL 1 1 [.str []] [(0,v62)] fun cells63 =>
 PUTH H59 ((((nx36+fr44.length)+2)+fr52.length)+fr56.length) (.row 1 cells63) fun H64 =>
 APP 1 16 (nth xs34 4) (.slc ((((nx36+fr44.length)+2)+fr52.length)+fr56.length) 0 1) H64 (((((nx36+fr44.length)+2)+fr52.length)+fr56.length)+1) fun v65 H66 nx67 =>
 K33 [nth xs34 0,nth xs34 1,nth xs34 2,nth xs34 3,v65] H66 nx67)
 (BI .eql v60 (.int .i64 3) fun v68 =>
 CNDC v68
 (LD false 1 (.ptr ((nx36+fr44.length)+1) 1) H59 fun v69 =>
 za Tryd.prog 6 [nth xs34 0,v69] H59 ((((nx36+fr44.length)+2)+fr52.length)+fr56.length) (zjh xs34 K33))
 (BI .eql v60 (.int .i64 4) fun v110 =>
 CNDC v110
 (LDR false 1 (.ptr ((nx36+fr44.length)+1) 1) H59 fun v111 _ =>
 LDR false 1 (.ptr ((nx36+fr44.length)+1) 2) H59 fun v113 _ =>
 BD (zaa tab [(3,0),(9,1),(33,2)]) [.int .i64 0,.str [],.int .i64 0] [(1,v111),(2,v113)] fun v115 =>
 zac 3 (nth xs34 2) v115 H59 fun _ _ fr118 D119 =>
 LD true 3 (nth xs34 2) (H59.apply D119) fun v120 =>
 Q (.tup [nth xs34 4,v120,.int .i64 0]) (H59.apply D119) (((((nx36+fr44.length)+2)+fr52.length)+fr56.length)+fr118.length))
 (BI .eql v60 (.int .i64 5) fun v121 =>
 CNDC v121
 (LDR false 1 (.ptr ((nx36+fr44.length)+1) 1) H59 fun v122 _ =>
 LDR false 1 (.ptr ((nx36+fr44.length)+1) 2) H59 fun v124 _ =>
 BD (zaa tab [(3,0),(9,1),(33,2)]) [.int .i64 0,.str [],.int .i64 0] [(1,v122),(2,v124)] fun v126 =>
 zac 3 (nth xs34 2) v126 H59 fun _ _ fr129 D130 =>
 LD true 3 (nth xs34 2) (H59.apply D130) fun v131 =>
 Q (.tup [nth xs34 4,v131,.int .i64 0]) (H59.apply D130) (((((nx36+fr44.length)+2)+fr52.length)+fr56.length)+fr129.length))
 (K33 [nth xs34 0,nth xs34 1,nth xs34 2,nth xs34 3,nth xs34 4] H59 ((((nx36+fr44.length)+2)+fr52.length)+fr56.length))))))))))
def zjg (Q:QT) (K33:J3) (xs34:List AV) (H35:Heap) (nx36:Nat):Prop :=
 LDR true 9 (nth xs34 3) H35 fun v37 rd38 =>
 IA 4 (nth xs34 0) (nth xs34 1) fun v39 =>
 LDR true 4 v39 H35 fun v40 rd41 =>
 zo Tryd.prog (.clo 27 []) [v37,v40,.int .i64 2001] H35 nx36 (zfv H35 nx36 rd38 rd41 xs34 K33 Q)
def zvn (Q:QT) (a2:AV) (a3:AV) (nx:Nat) (v28:AV) (H29:Heap) (nx30:Nat):Prop :=
 PUTH H29 nx30 (.row 9 [.int .i64 0,.int .i64 0,.nils,.nils,.nils,.nils,.int .i64 0,.int .i64 0,.int .i64 0]) fun H31 =>
 ST 9 (.ptr nx30 0) v28 H31 fun H32 =>
 LP (zjg Q) [a2,a3,.ptr (nx+2) 0,.ptr nx30 0,.nils] H32 (nx30+1)
def zfu (nx:Nat) (Q:QT) (a3:AV) (a2:AV) (v13:AV) (H14:Heap) (nx15:Nat):Prop :=
 BI .neq v13 (.int .i64 0) fun v16 =>
 CNDC v16
 (ST 3 (.ptr (nx+2) 0) (.agg [.int .i64 0,.str [],.int .i64 0]) H14 fun H17 =>
 LD true 3 (.ptr (nx+2) 0) H17 fun v18 =>
 Q (.tup [.nils,v18,v13]) H17 nx15)
 (BI .lss a3 (.int .i64 0) fun v19 =>
 CND v19
 (ST 3 (.ptr (nx+2) 0) (.agg [.int .i64 0,.str [],.int .i64 0]) H14 fun H20 =>
 LD true 3 (.ptr (nx+2) 0) H20 fun v21 =>
 Q (.tup [.nils,v21,.int .i64 6]) H20 nx15)
 (LNL a2 fun v22 =>
 BI .geq a3 v22 fun v23 =>
 CNDC v23
 (ST 3 (.ptr (nx+2) 0) (.agg [.int .i64 0,.str [],.int .i64 0]) H14 fun H24 =>
 LD true 3 (.ptr (nx+2) 0) H24 fun v25 =>
 Q (.tup [.nils,v25,.int .i64 6]) H24 nx15)
 (LD true 2 (.ptr nx 0) H14 fun v26 =>
 LD true 3 (.ptr (nx+1) 0) H14 fun v27 =>
 za Tryd.prog 26 [.int .i64 0,v26,v27] H14 nx15 (zvn Q a2 a3 nx))))
def znp (nx:Nat) (Q:QT) (a3:AV) (a2:AV) (v4:AV) (H5:Heap) (nx6:Nat):Prop :=
 EX v4 0 fun v7 =>
 EX v4 1 fun _ =>
 BI .neq v7 (.int .i64 0) fun v9 =>
 CNDC v9
 (ST 3 (.ptr (nx+2) 0) (.agg [.int .i64 0,.str [],.int .i64 0]) H5 fun H10 =>
 LD true 3 (.ptr (nx+2) 0) H10 fun v11 =>
 Q (.tup [.nils,v11,v7]) H10 nx6)
 (LD true 3 (.ptr (nx+1) 0) H5 fun v12 =>
 za Tryd.prog 8 [v12] H5 nx6 (zfu nx Q a3 a2))
def zvm (a0 a1 a2 a3:AV) (H:Heap) (nx:Nat) (Q:QT):Prop :=
 a0.sure=true ∧
 PUTH H nx (.row a0.cells.length a0.cells) fun H1 =>
 a1.sure=true ∧
 PUTH H1 (nx+1) (.row a1.cells.length a1.cells) fun H2 =>
 PUTH H2 (nx+2) (.row 3 [.int .i64 0,.str [],.int .i64 0]) fun H3 =>
 za Tryd.prog 4 [a2] H3 (nx+3) (znp nx Q a3 a2)
theorem zaar (a0 a1 a2 a3:AV) (H:Heap) (nx:Nat) (Q:QT):zvm a0 a1 a2 a3 H nx Q→za Tryd.prog 11 [a0,a1,a2,a3] H nx Q :=
  zd (lv:=lvOf [(2,11,[2,3,9,14,15])]) (c:=zn Tryd.f11) zw zx mixed Tryd.func11 (by kernel_rfl) (by kernel_rfl) (by kernel_rfl) (by kernel_rfl) (by kernel_rfl)
def zno (a0 a1:AV) (H:Heap) (nx:Nat) (Q:QT):Prop :=
 a0.sure=true ∧
 PUTH H nx (.row a0.cells.length a0.cells) fun H1 =>
 LD false 1 (.ptr nx 0) H1 fun v2 =>
 FA 0 a1 fun v3 =>
 LD false 1 v3 H1 fun v4 =>
 BS .eql v2 v4 fun v5 =>
 Q v5 H1 (nx+1)
theorem ztl (a0 a1:AV) (H:Heap) (nx:Nat) (Q:QT):zno a0 a1 H nx Q→za Tryd.prog 19 [a0,a1] H nx Q :=
  zd (lv:=lvOf []) (c:=zn Tryd.f19) zw zx mixed Tryd.func19 (by kernel_rfl) (by kernel_rfl) (by kernel_rfl) (by kernel_rfl) (by kernel_rfl)
def zid (Q:QT) (xs54:List AV) (K53:J3) (v66:AV) (H67:Heap) (nx68:Nat):Prop :=
 BI .neq v66 (.int .i64 0) fun v69 =>
 CNDC v69
 (Q (.tup [.int .i64 11,nth xs54 1]) H67 nx68)
 (BI .add (nth xs54 7) (.int .i64 1) fun v70 =>
 K53 [nth xs54 0,nth xs54 1,nth xs54 2,nth xs54 3,nth xs54 4,nth xs54 5,nth xs54 6,v70] H67 nx68)
def zde (Q:QT) (K6:J3) (K53:J3) (xs54:List AV) (H55:Heap) (nx56:Nat):Prop :=
 BI .lss (nth xs54 7) (nth xs54 6) fun v57 =>
 CNDC v57
 (IA 4 (nth xs54 5) (nth xs54 7) fun v58 =>
 LD true 4 v58 H55 fun v59 =>
 PUTH H55 nx56 (.row 4 [.str [],.int .i64 0,.int .i64 0,.str []]) fun H60 =>
 ST 4 (.ptr nx56 0) v59 H60 fun H61 =>
 LD false 1 (.ptr nx56 0) H61 fun v62 =>
 LNS v62 fun v63 =>
 BI .gtr v63 (.int .i64 60) fun v64 =>
 CND v64
 (Q (.tup [.int .i64 11,nth xs54 1]) H61 (nx56+1))
 (LD true 3 (.ptr nx56 1) H61 fun v65 =>
 za Tryd.prog 21 [v65,.int .i64 0] H61 (nx56+1) (zid Q xs54 K53)))
 (BI .add (nth xs54 4) (.int .i64 1) fun v71 =>
 K6 [nth xs54 0,nth xs54 2,nth xs54 3,v71] H55 nx56)
def zaj (Q:QT) (K6:J3) (K19:J3) (xs20:List AV) (H21:Heap) (nx22:Nat):Prop :=
 BI .lss (nth xs20 9) (nth xs20 8) fun v23 =>
 CNDC v23
 (IA 4 (nth xs20 7) (nth xs20 9) fun v24 =>
 LD true 4 v24 H21 fun v25 =>
 PUTH H21 nx22 (.row 4 [.str [],.nils,.int .i64 0,.int .i64 0]) fun H26 =>
 ST 4 (.ptr nx22 0) v25 H26 fun H27 =>
 CND (nth xs20 3)
 (BI .add (nth xs20 9) (.int .i64 1) fun v28 =>
 K19 [nth xs20 0,nth xs20 1,nth xs20 2,.bool true,nth xs20 4,nth xs20 5,nth xs20 6,nth xs20 7,nth xs20 8,v28] H27 (nx22+1))
 (LD false 1 (.ptr nx22 0) H27 fun v29 =>
 FA 0 (nth xs20 2) fun v30 =>
 LD false 1 v30 H27 fun v31 =>
 BS .eql v29 v31 fun v32 =>
 BI .add (nth xs20 9) (.int .i64 1) fun v33 =>
 K19 [nth xs20 0,nth xs20 1,nth xs20 2,v32,nth xs20 4,nth xs20 5,nth xs20 6,nth xs20 7,nth xs20 8,v33] H27 (nx22+1)))
 (CNDC (nth xs20 3)
 (Q (.tup [.int .i64 7,nth xs20 1]) H21 nx22)
 (FA 2 (nth xs20 2) fun v34 =>
 LD false 1 v34 H21 fun v35 =>
 BI .lss v35 (.int .i64 0) fun v36 =>
 CND v36
 (Q (.tup [.int .i64 3,nth xs20 1]) H21 nx22)
 (FA 2 (nth xs20 2) fun v37 =>
 LD false 1 v37 H21 fun v38 =>
 BI .gtr v38 (.int .i64 2000) fun v39 =>
 CND v39
 (Q (.tup [.int .i64 3,nth xs20 1]) H21 nx22)
 (FA 3 (nth xs20 2) fun v40 =>
 LD false 1 v40 H21 fun v41 =>
 BI .lss v41 (.int .i64 0) fun v42 =>
 CND v42
 (Q (.tup [.int .i64 3,nth xs20 1]) H21 nx22)
 (FA 3 (nth xs20 2) fun v43 =>
 LD false 1 v43 H21 fun v44 =>
 BI .gtr v44 (.int .i64 60) fun v45 =>
 CNDC v45
 (Q (.tup [.int .i64 3,nth xs20 1]) H21 nx22)
 (FA 1 (nth xs20 2) fun v46 =>
 LD false 1 v46 H21 fun v47 =>
 LNL v47 fun v48 =>
 BI .gtr v48 (.int .i64 4) fun v49 =>
 CNDC v49
 (Q (.tup [.int .i64 5,nth xs20 1]) H21 nx22)
 (FA 1 (nth xs20 2) fun v50 =>
 LD false 1 v50 H21 fun v51 =>
 LNL v51 fun v52 =>
 LP (zde Q K6) [nth xs20 0,nth xs20 1,nth xs20 4,nth xs20 5,nth xs20 6,v51,v52,.int .i64 0] H21 nx22)))))))
def zdd (Q:QT) (K6:J3) (xs7:List AV) (H8:Heap) (nx9:Nat):Prop :=
 BI .lss (nth xs7 3) (nth xs7 2) fun v10 =>
 CNDC v10
 (IA 4 (nth xs7 1) (nth xs7 3) fun v11 =>
 LD true 4 v11 H8 fun v12 =>
 PUTH H8 nx9 (.row 4 [.str [],.nils,.int .i64 0,.int .i64 0]) fun H13 =>
 ST 4 (.ptr nx9 0) v12 H13 fun H14 =>
 LD false 1 (.ptr nx9 0) H14 fun v15 =>
 BS .eql v15 (.str []) fun v16 =>
 CND v16
 (SL 4 (nth xs7 0) none (some (nth xs7 3)) H14 fun v17 =>
 LNL v17 fun v18 =>
 LP (zaj Q K6) [nth xs7 0,nth xs7 3,.ptr nx9 0,.bool true,nth xs7 1,nth xs7 2,nth xs7 3,v17,v18,.int .i64 0] H14 (nx9+1))
 (LD false 1 (.ptr nx9 0) H14 fun v72 =>
 LNS v72 fun v73 =>
 BI .gtr v73 (.int .i64 12) fun v74 =>
 SL 4 (nth xs7 0) none (some (nth xs7 3)) H14 fun v75 =>
 LNL v75 fun v76 =>
 LP (zaj Q K6) [nth xs7 0,nth xs7 3,.ptr nx9 0,v74,nth xs7 1,nth xs7 2,nth xs7 3,v75,v76,.int .i64 0] H14 (nx9+1)))
 (Q (.tup [.int .i64 0,.int .i64 (-1)]) H8 nx9)
def zfg (a0:AV) (H:Heap) (nx:Nat) (Q:QT):Prop :=
 LNL a0 fun v1 =>
 BI .eql v1 (.int .i64 0) fun v2 =>
 CND v2
 (Q (.tup [.int .i64 5,.int .i64 (-1)]) H nx)
 (LNL a0 fun v3 =>
 BI .gtr v3 (.int .i64 4) fun v4 =>
 CNDC v4
 (Q (.tup [.int .i64 5,.int .i64 (-1)]) H nx)
 (LNL a0 fun v5 =>
 LP (zdd Q) [a0,a0,v5,.int .i64 0] H nx))
theorem ztm (a0:AV) (H:Heap) (nx:Nat) (Q:QT):zfg a0 H nx Q→za Tryd.prog 5 [a0] H nx Q :=
  zd (lv:=lvOf [(2,4,[0,19,20,21]),(2,8,[0,4,5,6,19,20,21,37,38,39]),(2,19,[0,4,19,20,21,79,80,81])]) (c:=zn Tryd.f5) zw zx mixed Tryd.func5 (by kernel_rfl) (by kernel_rfl) (by kernel_rfl) (by kernel_rfl) (by kernel_rfl)
def zfx (Q:QT) (K2:J3) (xs3:List AV) (H4:Heap) (nx5:Nat):Prop :=
 BI .lss (nth xs3 3) (nth xs3 2) fun v6 =>
 CNDC v6
 (IA 4 (nth xs3 1) (nth xs3 3) fun v7 =>
 LD true 4 v7 H4 fun v8 =>
 PUTH H4 nx5 (.row 4 [.str [],.nils,.int .i64 0,.int .i64 0]) fun H9 =>
 ST 4 (.ptr nx5 0) v8 H9 fun H10 =>
 LD false 1 (.ptr nx5 0) H10 fun v11 =>
 BS .eql v11 (nth xs3 0) fun v12 =>
 CNDC v12
 (Q (nth xs3 3) H10 (nx5+1))
 (BI .add (nth xs3 3) (.int .i64 1) fun v13 =>
 K2 [nth xs3 0,nth xs3 1,nth xs3 2,v13] H10 (nx5+1)))
 (Q (.int .i64 (-1)) H4 nx5)
def zpw (a0 a1:AV) (H:Heap) (nx:Nat) (Q:QT):Prop :=
 LNL a0 fun v1 =>
 LP (zfx Q) [a1,a0,v1,.int .i64 0] H nx
theorem zwi (a0 a1:AV) (H:Heap) (nx:Nat) (Q:QT):zpw a0 a1 H nx Q→za Tryd.prog 7 [a0,a1] H nx Q :=
  zd (lv:=lvOf [(2,2,[1,7,8,9])]) (c:=zn Tryd.f7) zw zx mixed Tryd.func7 (by kernel_rfl) (by kernel_rfl) (by kernel_rfl) (by kernel_rfl) (by kernel_rfl)
def zml (a0:AV) (H:Heap) (nx:Nat) (Q:QT):Prop :=
 a0.sure=true ∧
 PUTH H nx (.row a0.cells.length a0.cells) fun H1 =>
 LD false 1 (.ptr nx 0) H1 fun v2 =>
 BI .lss v2 (.int .i64 0) fun v3 =>
 CND v3
 (Q (.int .i64 3) H1 (nx+1))
 (LD false 1 (.ptr nx 1) H1 fun v4 =>
 BI .lss v4 (.int .i64 0) fun v5 =>
 CND v5
 (Q (.int .i64 3) H1 (nx+1))
 (LD false 1 (.ptr nx 2) H1 fun v6 =>
 BI .lss v6 (.int .i64 0) fun v7 =>
 CND v7
 (Q (.int .i64 3) H1 (nx+1))
 (LD false 1 (.ptr nx 0) H1 fun v8 =>
 BI .gtr v8 (.int .i64 2000) fun v9 =>
 CND v9
 (Q (.int .i64 3) H1 (nx+1))
 (LD false 1 (.ptr nx 1) H1 fun v10 =>
 BI .gtr v10 (.int .i64 60) fun v11 =>
 CND v11
 (Q (.int .i64 3) H1 (nx+1))
 (LD false 1 (.ptr nx 2) H1 fun v12 =>
 BI .gtr v12 (.int .i64 12) fun v13 =>
 CNDC v13
 (Q (.int .i64 3) H1 (nx+1))
 (Q (.int .i64 0) H1 (nx+1)))))))
theorem ztd (a0:AV) (H:Heap) (nx:Nat) (Q:QT):zml a0 H nx Q→za Tryd.prog 9 [a0] H nx Q :=
  zd (lv:=lvOf []) (c:=zn Tryd.f9) zw zx mixed Tryd.func9 (by kernel_rfl) (by kernel_rfl) (by kernel_rfl) (by kernel_rfl) (by kernel_rfl)
def zha (nx:Nat) (Q:QT) (v22:AV) (H23:Heap) (nx24:Nat):Prop :=
 ST 9 (.ptr (nx+2) 0) v22 H23 fun H25 =>
 LD true 9 (.ptr (nx+2) 0) H25 fun v26 =>
 Q (.tup [v26,.bool true]) H25 nx24
def zgz (nx:Nat) (Q:QT) (v5:AV) (H6:Heap) (nx7:Nat):Prop :=
 PUTH H6 nx7 (.row 9 [.int .i64 0,.int .i64 0,.nils,.nils,.nils,.nils,.int .i64 0,.int .i64 0,.int .i64 0]) fun H8 =>
 ST 9 (.ptr nx7 0) v5 H8 fun H9 =>
 LD false 1 (.ptr nx7 5) H9 fun v10 =>
 LNL v10 fun v11 =>
 LD false 1 (.ptr (nx+1) 3) H9 fun v12 =>
 BI .gtr v11 v12 fun v13 =>
 CNDC v13
 (ST 9 (.ptr (nx+2) 0) (.agg [.int .i64 0,.int .i64 0,.nils,.nils,.nils,.nils,.int .i64 0,.int .i64 0,.int .i64 0]) H9 fun H14 =>
 LD true 9 (.ptr (nx+2) 0) H14 fun v15 =>
 Q (.tup [v15,.bool false]) H14 (nx7+1))
 (LD false 1 (.ptr nx7 6) H9 fun v16 =>
 LD false 1 (.ptr (nx+1) 2) H9 fun v17 =>
 BI .gtr v16 v17 fun v18 =>
 CNDC v18
 (LD false 1 (.ptr (nx+1) 2) H9 fun v19 =>
 ST 1 (.ptr nx7 6) v19 H9 fun H20 =>
 LD true 9 (.ptr nx7 0) H20 fun v21 =>
 za Tryd.prog 31 [v21,.int .i64 1] H20 (nx7+1) (zha nx Q))
 (LD true 9 (.ptr nx7 0) H9 fun v27 =>
 za Tryd.prog 31 [v27,.int .i64 1] H9 (nx7+1) (zha nx Q)))
def zsa (a0 a1:AV) (H:Heap) (nx:Nat) (Q:QT):Prop :=
 a0.sure=true ∧
 PUTH H nx (.row a0.cells.length a0.cells) fun H1 =>
 a1.sure=true ∧
 PUTH H1 (nx+1) (.row a1.cells.length a1.cells) fun H2 =>
 PUTH H2 (nx+2) (.row 9 [.int .i64 0,.int .i64 0,.nils,.nils,.nils,.nils,.int .i64 0,.int .i64 0,.int .i64 0]) fun H3 =>
 LD true 9 (.ptr nx 0) H3 fun v4 =>
 za Tryd.prog 33 [v4] H3 (nx+3) (zgz nx Q)
theorem zxw (a0 a1:AV) (H:Heap) (nx:Nat) (Q:QT):zsa a0 a1 H nx Q→za Tryd.prog 16 [a0,a1] H nx Q :=
  zd (lv:=lvOf []) (c:=zn Tryd.f16) zw zx mixed Tryd.func16 (by kernel_rfl) (by kernel_rfl) (by kernel_rfl) (by kernel_rfl) (by kernel_rfl)
def zdg (xs34:List AV) (K33:J3) (v95:AV) (H96:Heap) (nx97:Nat):Prop :=
 ST 9 (nth xs34 3) v95 H96 fun H98 =>
 K33 [nth xs34 0,nth xs34 1,nth xs34 2,nth xs34 3,nth xs34 4] H98 nx97
def zif (nx72:Nat) (H74:Heap) (xs34:List AV) (K33:J3) (v70:AV) (v82:AV) (_:List Nat) (fr84:List Nat) (D85:zq):Prop :=
 EX v82 0 fun v86 =>
 EX v82 1 fun v87 =>
 zac 9 (.ptr nx72 0) v86 (H74.apply D85) fun _ _ fr90 D91 =>
 zb (domD D91) [] (
 CNDC v87
 (LD true 9 (.ptr nx72 0) ((H74.apply D85).apply D91) fun v92 =>
 ST 9 (nth xs34 3) v92 ((H74.apply D85).apply D91) fun H93 =>
 K33 [nth xs34 0,v70,nth xs34 2,nth xs34 3,nth xs34 4] H93 (((nx72+1)+fr84.length)+fr90.length))
 (LD true 9 (nth xs34 3) ((H74.apply D85).apply D91) fun v94 =>
 za Tryd.prog 31 [v94,.int .i64 0] ((H74.apply D85).apply D91) (((nx72+1)+fr84.length)+fr90.length) (zdg xs34 K33)))
def zfi (xs34:List AV) (K33:J3) (v70:AV) (H71:Heap) (nx72:Nat):Prop :=
 PUTH H71 nx72 (.row 9 [.int .i64 0,.int .i64 0,.nils,.nils,.nils,.nils,.int .i64 0,.int .i64 0,.int .i64 0]) fun H73 =>
 ST 9 (.ptr nx72 0) (.agg [.int .i64 0,.int .i64 0,.nils,.nils,.nils,.nils,.int .i64 0,.int .i64 0,.int .i64 0]) H73 fun H74 =>
 BI .geq v70 (.int .i64 0) fun v75 =>
 CND v75
 (BI .neq v70 (nth xs34 1) fun v76 =>
 CNDC v76
 (LDR true 9 (nth xs34 3) H74 fun v77 _ =>
 IA 4 (nth xs34 0) v70 fun v79 =>
 LDR true 4 v79 H74 fun v80 _ =>
 zo Tryd.prog (.clo 16 []) [v77,v80] H74 (nx72+1) (zif nx72 H74 xs34 K33 v70))
 (LD true 9 (nth xs34 3) H74 fun v99 =>
 za Tryd.prog 31 [v99,.int .i64 0] H74 (nx72+1) (zdg xs34 K33)))
 (LD true 9 (nth xs34 3) H74 fun v104 =>
 za Tryd.prog 31 [v104,.int .i64 0] H74 (nx72+1) (zdg xs34 K33))
def zch (H35:Heap) (nx36:Nat) (rd38:List Nat) (rd41:List Nat) (xs34:List AV) (K33:J3) (Q:QT) (v42:AV) (rd43:List Nat) (fr44:List Nat) (D45:zq):Prop :=
 EX v42 0 fun v46 =>
 EX v42 1 fun v47 =>
 PUTH (H35.apply D45) (nx36+fr44.length) (.row 9 [.int .i64 0,.int .i64 0,.nils,.nils,.nils,.nils,.int .i64 0,.int .i64 0,.int .i64 0]) fun H48 =>
 PUTH H48 ((nx36+fr44.length)+1) (.row 3 [.int .i64 0,.str [],.int .i64 0]) fun H49 =>
 zac 9 (.ptr (nx36+fr44.length) 0) v46 H49 fun _ _ fr52 D53 =>
 zac 3 (.ptr ((nx36+fr44.length)+1) 0) v47 (H49.apply D53) fun _ _ fr56 D57 =>
 (nx36+fr44.length)∉rd38 ∧
 (nx36+fr44.length)∉[] ∧
 (nx36+fr44.length)∉[] ∧
 (nx36+fr44.length)∉[] ∧
 (nx36+fr44.length)∉rd41 ∧
 zb (domD D45) [] (
 zb (domD D45) [(nx36+fr44.length)] (
 (nx36+fr44.length)∉rd43 ∧
 (nx36+fr44.length)∉[] ∧
 (nx36+fr44.length)∉[] ∧
 (nx36+fr44.length)∉[] ∧
 ((nx36+fr44.length)+1)∉rd38 ∧
 ((nx36+fr44.length)+1)∉[] ∧
 ((nx36+fr44.length)+1)∉[] ∧
 ((nx36+fr44.length)+1)∉[] ∧
 ((nx36+fr44.length)+1)∉rd41 ∧
 zb (domD D45) [] (
 zb (domD D45) [((nx36+fr44.length)+1)] (
 ((nx36+fr44.length)+1)∉rd43 ∧
 ((nx36+fr44.length)+1)∉[] ∧
 ((nx36+fr44.length)+1)∉[] ∧
 ((nx36+fr44.length)+1)∉[] ∧
 (nx36+fr44.length)∉[] ∧
 (nx36+fr44.length)∉[((nx36+fr44.length)+1)] ∧
 ((nx36+fr44.length)+1)∉[] ∧
 zb (domD D53) [] (
 LD true 9 (.ptr (nx36+fr44.length) 0) ((H49.apply D53).apply D57) fun v58 =>
 ST 9 (nth xs34 3) v58 ((H49.apply D53).apply D57) fun H59 =>
 LD false 1 (.ptr ((nx36+fr44.length)+1) 0) H59 fun v60 =>
 BI .eql v60 (.int .i64 2) fun v61 =>
 CNDC v61
 (LD false 1 (.ptr ((nx36+fr44.length)+1) 1) H59 fun v62 =>
 BSL 1 1 [.str []] [(0,v62)] fun cells63 =>
 PUTH H59 ((((nx36+fr44.length)+2)+fr52.length)+fr56.length) (.row 1 cells63) fun H64 =>
 APP 1 16 (nth xs34 4) (.slc ((((nx36+fr44.length)+2)+fr52.length)+fr56.length) 0 1) H64 (((((nx36+fr44.length)+2)+fr52.length)+fr56.length)+1) fun v65 H66 nx67 =>
 K33 [nth xs34 0,nth xs34 1,nth xs34 2,nth xs34 3,v65] H66 nx67)
 (BI .eql v60 (.int .i64 3) fun v68 =>
 CNDC v68
 (LD false 1 (.ptr ((nx36+fr44.length)+1) 1) H59 fun v69 =>
 za Tryd.prog 7 [nth xs34 0,v69] H59 ((((nx36+fr44.length)+2)+fr52.length)+fr56.length) (zfi xs34 K33))
 (BI .eql v60 (.int .i64 4) fun v109 =>
 CNDC v109
 (LDR false 1 (.ptr ((nx36+fr44.length)+1) 1) H59 fun v110 _ =>
 LDR false 1 (.ptr ((nx36+fr44.length)+1) 2) H59 fun v112 _ =>
 BD (zaa tab [(3,0),(9,1),(33,2)]) [.int .i64 0,.str [],.int .i64 0] [(1,v110),(2,v112)] fun v114 =>
 zac 3 (nth xs34 2) v114 H59 fun _ _ fr117 D118 =>
 LD true 3 (nth xs34 2) (H59.apply D118) fun v119 =>
 Q (.tup [nth xs34 4,v119,.int .i64 0]) (H59.apply D118) (((((nx36+fr44.length)+2)+fr52.length)+fr56.length)+fr117.length))
 (BI .eql v60 (.int .i64 5) fun v120 =>
 CNDC v120
 (LDR false 1 (.ptr ((nx36+fr44.length)+1) 1) H59 fun v121 _ =>
 LDR false 1 (.ptr ((nx36+fr44.length)+1) 2) H59 fun v123 _ =>
 BD (zaa tab [(3,0),(9,1),(33,2)]) [.int .i64 0,.str [],.int .i64 0] [(1,v121),(2,v123)] fun v125 =>
 zac 3 (nth xs34 2) v125 H59 fun _ _ fr128 D129 =>
 LD true 3 (nth xs34 2) (H59.apply D129) fun v130 =>
 Q (.tup [nth xs34 4,v130,.int .i64 0]) (H59.apply D129) (((((nx36+fr44.length)+2)+fr52.length)+fr56.length)+fr128.length))
 (K33 [nth xs34 0,nth xs34 1,nth xs34 2,nth xs34 3,nth xs34 4] H59 ((((nx36+fr44.length)+2)+fr52.length)+fr56.length))))))))))
def zfh (Q:QT) (K33:J3) (xs34:List AV) (H35:Heap) (nx36:Nat):Prop :=
 LDR true 9 (nth xs34 3) H35 fun v37 rd38 =>
 IA 4 (nth xs34 0) (nth xs34 1) fun v39 =>
 LDR true 4 v39 H35 fun v40 rd41 =>
 zo Tryd.prog (.clo 30 []) [v37,v40] H35 nx36 (zch H35 nx36 rd38 rd41 xs34 K33 Q)
def zny (Q:QT) (a2:AV) (a3:AV) (nx:Nat) (v28:AV) (H29:Heap) (nx30:Nat):Prop :=
 PUTH H29 nx30 (.row 9 [.int .i64 0,.int .i64 0,.nils,.nils,.nils,.nils,.int .i64 0,.int .i64 0,.int .i64 0]) fun H31 =>
 ST 9 (.ptr nx30 0) v28 H31 fun H32 =>
 LP (zfh Q) [a2,a3,.ptr (nx+2) 0,.ptr nx30 0,.nils] H32 (nx30+1)
def zdf (nx:Nat) (Q:QT) (a3:AV) (a2:AV) (v13:AV) (H14:Heap) (nx15:Nat):Prop :=
 BI .neq v13 (.int .i64 0) fun v16 =>
 CNDC v16
 (ST 3 (.ptr (nx+2) 0) (.agg [.int .i64 0,.str [],.int .i64 0]) H14 fun H17 =>
 LD true 3 (.ptr (nx+2) 0) H17 fun v18 =>
 Q (.tup [.nils,v18,v13]) H17 nx15)
 (BI .lss a3 (.int .i64 0) fun v19 =>
 CND v19
 (ST 3 (.ptr (nx+2) 0) (.agg [.int .i64 0,.str [],.int .i64 0]) H14 fun H20 =>
 LD true 3 (.ptr (nx+2) 0) H20 fun v21 =>
 Q (.tup [.nils,v21,.int .i64 6]) H20 nx15)
 (LNL a2 fun v22 =>
 BI .geq a3 v22 fun v23 =>
 CNDC v23
 (ST 3 (.ptr (nx+2) 0) (.agg [.int .i64 0,.str [],.int .i64 0]) H14 fun H24 =>
 LD true 3 (.ptr (nx+2) 0) H24 fun v25 =>
 Q (.tup [.nils,v25,.int .i64 6]) H24 nx15)
 (LD true 2 (.ptr nx 0) H14 fun v26 =>
 LD true 3 (.ptr (nx+1) 0) H14 fun v27 =>
 za Tryd.prog 29 [.int .i64 0,v26,v27] H14 nx15 (zny Q a2 a3 nx))))
def zie (nx:Nat) (Q:QT) (a3:AV) (a2:AV) (v4:AV) (H5:Heap) (nx6:Nat):Prop :=
 EX v4 0 fun v7 =>
 EX v4 1 fun _ =>
 BI .neq v7 (.int .i64 0) fun v9 =>
 CNDC v9
 (ST 3 (.ptr (nx+2) 0) (.agg [.int .i64 0,.str [],.int .i64 0]) H5 fun H10 =>
 LD true 3 (.ptr (nx+2) 0) H10 fun v11 =>
 Q (.tup [.nils,v11,v7]) H10 nx6)
 (LD true 3 (.ptr (nx+1) 0) H5 fun v12 =>
 za Tryd.prog 9 [v12] H5 nx6 (zdf nx Q a3 a2))
def znx (a0 a1 a2 a3:AV) (H:Heap) (nx:Nat) (Q:QT):Prop :=
 a0.sure=true ∧
 PUTH H nx (.row a0.cells.length a0.cells) fun H1 =>
 a1.sure=true ∧
 PUTH H1 (nx+1) (.row a1.cells.length a1.cells) fun H2 =>
 PUTH H2 (nx+2) (.row 3 [.int .i64 0,.str [],.int .i64 0]) fun H3 =>
 za Tryd.prog 5 [a2] H3 (nx+3) (zie nx Q a3 a2)
theorem ztn (a0 a1 a2 a3:AV) (H:Heap) (nx:Nat) (Q:QT):znx a0 a1 a2 a3 H nx Q→za Tryd.prog 12 [a0,a1,a2,a3] H nx Q :=
  zd (lv:=lvOf [(2,11,[2,3,9,14,15])]) (c:=zn Tryd.f12) zw zx mixed Tryd.func12 (by kernel_rfl) (by kernel_rfl) (by kernel_rfl) (by kernel_rfl) (by kernel_rfl)
def zfc (Q:QT) (K5:J3) (xs6:List AV) (H7:Heap) (nx8:Nat):Prop :=
 BI .lss (nth xs6 3) (nth xs6 2) fun v9 =>
 CNDC v9
 (IA 1 (nth xs6 0) (nth xs6 3) fun v10 =>
 LDR false 1 v10 H7 fun v11 _ =>
 IA 1 (nth xs6 1) (nth xs6 3) fun v13 =>
 LDR false 1 v13 H7 fun v14 _ =>
 BS .neq v11 v14 fun v16 =>
 CNDC v16
 (Q (.bool false) H7 nx8)
 (BI .add (nth xs6 3) (.int .i64 1) fun v17 =>
 K5 [nth xs6 0,nth xs6 1,nth xs6 2,v17] H7 nx8))
 (Q (.bool true) H7 nx8)
def zjk (a0 a1:AV) (H:Heap) (nx:Nat) (Q:QT):Prop :=
 LNL a0 fun v1 =>
 LNL a1 fun v2 =>
 BI .neq v1 v2 fun v3 =>
 CNDC v3
 (Q (.bool false) H nx)
 (LNL a0 fun v4 =>
 LP (zfc Q) [a0,a1,v4,.int .i64 0] H nx)
theorem zpm (a0 a1:AV) (H:Heap) (nx:Nat) (Q:QT):zjk a0 a1 H nx Q→za Tryd.prog 13 [a0,a1] H nx Q :=
  zd (lv:=lvOf [(2,4,[0,1,12,13])]) (c:=zn Tryd.f13) zw zx mixed Tryd.func13 (by kernel_rfl) (by kernel_rfl) (by kernel_rfl) (by kernel_rfl) (by kernel_rfl)
def ziw (Q:QT) (v112:AV) (H113:Heap) (nx114:Nat):Prop :=
 Q v112 H113 nx114
def ziv (H88:Heap) (D92:zq) (nx74:Nat) (fr84:List Nat) (fr91:List Nat) (rd94:List Nat) (rd97:List Nat) (v87:AV) (Q:QT) (v98:AV) (rd99:List Nat) (fr100:List Nat) (D101:zq):Prop :=
 EX v98 0 fun v102 =>
 EX v98 1 fun v103 =>
 PUTH ((H88.apply D92).apply D101) ((((nx74+fr84.length)+1)+fr91.length)+fr100.length) (.row 9 [.int .i64 0,.int .i64 0,.nils,.nils,.nils,.nils,.int .i64 0,.int .i64 0,.int .i64 0]) fun H104 =>
 zac 9 (.ptr ((((nx74+fr84.length)+1)+fr91.length)+fr100.length) 0) v102 H104 fun _ _ fr107 D108 =>
 ((((nx74+fr84.length)+1)+fr91.length)+fr100.length)∉rd94 ∧
 ((((nx74+fr84.length)+1)+fr91.length)+fr100.length)∉[] ∧
 ((((nx74+fr84.length)+1)+fr91.length)+fr100.length)∉[] ∧
 ((((nx74+fr84.length)+1)+fr91.length)+fr100.length)∉rd97 ∧
 zb (domD D101) [] (
 zb (domD D101) [((((nx74+fr84.length)+1)+fr91.length)+fr100.length)] (
 ((((nx74+fr84.length)+1)+fr91.length)+fr100.length)∉rd99 ∧
 ((((nx74+fr84.length)+1)+fr91.length)+fr100.length)∉[] ∧
 ((((nx74+fr84.length)+1)+fr91.length)+fr100.length)∉[] ∧
 ((((nx74+fr84.length)+1)+fr91.length)+fr100.length)∉[] ∧
 zb (domD D108) [] (
 BB .eql v87 v103 fun v109 =>
 CND v109
 (LD true 9 (.ptr (nx74+fr84.length) 0) (H104.apply D108) fun v110 =>
 LD true 9 (.ptr ((((nx74+fr84.length)+1)+fr91.length)+fr100.length) 0) (H104.apply D108) fun v111 =>
 za Tryd.prog 17 [v110,v111] (H104.apply D108) ((((((nx74+fr84.length)+1)+fr91.length)+fr100.length)+1)+fr107.length) (ziw Q))
 (Q (.bool false) (H104.apply D108) ((((((nx74+fr84.length)+1)+fr91.length)+fr100.length)+1)+fr107.length)))))
def ziu (H73:Heap) (nx74:Nat) (rd78:List Nat) (rd81:List Nat) (nx:Nat) (a0:AV) (Q:QT) (v82:AV) (rd83:List Nat) (fr84:List Nat) (D85:zq):Prop :=
 EX v82 0 fun v86 =>
 EX v82 1 fun v87 =>
 PUTH (H73.apply D85) (nx74+fr84.length) (.row 9 [.int .i64 0,.int .i64 0,.nils,.nils,.nils,.nils,.int .i64 0,.int .i64 0,.int .i64 0]) fun H88 =>
 zac 9 (.ptr (nx74+fr84.length) 0) v86 H88 fun _ _ fr91 D92 =>
 (nx74+fr84.length)∉rd78 ∧
 (nx74+fr84.length)∉[] ∧
 (nx74+fr84.length)∉[] ∧
 (nx74+fr84.length)∉rd81 ∧
 zb (domD D85) [] (
 zb (domD D85) [(nx74+fr84.length)] (
 (nx74+fr84.length)∉rd83 ∧
 (nx74+fr84.length)∉[] ∧
 (nx74+fr84.length)∉[] ∧
 (nx74+fr84.length)∉[] ∧
 zb (domD D92) [] (
 LDR true 9 (.ptr (nx+2) 0) (H88.apply D92) fun v93 rd94 =>
 IA 4 a0 (.int .i64 0) fun v95 =>
 LDR true 4 v95 (H88.apply D92) fun v96 rd97 =>
 zo Tryd.prog (.clo 16 []) [v93,v96] (H88.apply D92) (((nx74+fr84.length)+1)+fr91.length) (ziv H88 D92 nx74 fr84 fr91 rd94 rd97 v87 Q))))
def zco (Q:QT) (v60:AV) (nx:Nat) (a0:AV) (v72:AV) (H73:Heap) (nx74:Nat):Prop :=
 BI .neq v72 (.int .i64 0) fun v75 =>
 CND v75
 (Q (.bool true) H73 nx74)
 (BI .neq v60 (.int .i64 0) fun v76 =>
 CNDC v76
 (Q (.bool true) H73 nx74)
 (LDR true 9 (.ptr (nx+2) 0) H73 fun v77 rd78 =>
 IA 4 a0 (.int .i64 0) fun v79 =>
 LDR true 4 v79 H73 fun v80 rd81 =>
 zo Tryd.prog (.clo 15 []) [v77,v80] H73 nx74 (ziu H73 nx74 rd78 rd81 nx a0 Q)))
def zit (Q:QT) (nx:Nat) (v60:AV) (a0:AV) (v67:AV) (H68:Heap) (nx69:Nat):Prop :=
 UO .not v67 fun v70 =>
 CNDC v70
 (Q (.bool false) H68 nx69)
 (LD true 9 (.ptr (nx+2) 0) H68 fun v71 =>
 za Tryd.prog 14 [v71,.bool true] H68 nx69 (zco Q v60 nx a0))
def zis (v50:AV) (Q:QT) (nx47:Nat) (v48:AV) (nx:Nat) (a0:AV) (v55:AV) (H56:Heap) (nx57:Nat):Prop :=
 EX v55 0 fun v58 =>
 EX v55 1 fun v59 =>
 EX v55 2 fun v60 =>
 PUTH H56 nx57 (.row 3 [.int .i64 0,.str [],.int .i64 0]) fun H61 =>
 ST 3 (.ptr nx57 0) v59 H61 fun H62 =>
 BI .neq v50 v60 fun v63 =>
 CND v63
 (Q (.bool false) H62 (nx57+1))
 (LD true 3 (.ptr nx47 0) H62 fun v64 =>
 LD true 3 (.ptr nx57 0) H62 fun v65 =>
 gd (eqsT 40) (
 BA [.int .i64 0,.str [],.int .i64 0] .neq v64 v65 fun v66 =>
 CND v66
 (Q (.bool false) H62 (nx57+1))
 (za Tryd.prog 13 [v48,v58] H62 (nx57+1) (zit Q nx v60 a0))))
def zir (nx:Nat) (a0:AV) (a4:AV) (Q:QT) (v45:AV) (H46:Heap) (nx47:Nat):Prop :=
 EX v45 0 fun v48 =>
 EX v45 1 fun v49 =>
 EX v45 2 fun v50 =>
 PUTH H46 nx47 (.row 3 [.int .i64 0,.str [],.int .i64 0]) fun H51 =>
 ST 3 (.ptr nx47 0) v49 H51 fun H52 =>
 LD true 2 (.ptr nx 0) H52 fun v53 =>
 LD true 3 (.ptr (nx+1) 0) H52 fun v54 =>
 za Tryd.prog 12 [v53,v54,a0,a4] H52 (nx47+1) (zis v50 Q nx47 v48 nx a0)
def zeq (Q:QT) (nx:Nat) (a0:AV) (a4:AV) (v39:AV) (H40:Heap) (nx41:Nat):Prop :=
 BI .neq v39 (.int .i64 0) fun v42 =>
 CNDC v42
 (Q (.bool true) H40 nx41)
 (LD true 2 (.ptr nx 0) H40 fun v43 =>
 LD true 3 (.ptr (nx+1) 0) H40 fun v44 =>
 za Tryd.prog 11 [v43,v44,a0,a4] H40 nx41 (zir nx a0 a4 Q))
def ziq (v27:AV) (D19:zq) (D30:zq) (rd32:List Nat) (Q:QT) (H10:Heap) (D23:zq) (nx11:Nat) (fr18:List Nat) (fr22:List Nat) (fr29:List Nat) (nx:Nat) (a0:AV) (a4:AV) (v33:AV) (_:List Nat) (fr35:List Nat) (D36:zq):Prop :=
 BI .neq v27 v33 fun v37 =>
 zb (domD D19) [] (
 zb (domD D19) [] (
 zb (domD D19) [] (
 zb (domD D19) [] (
 zb (domD D30) rd32 (
 zb (domD D30) [] (
 CNDC v37
 (Q (.bool false) ((((H10.apply D19).apply D23).apply D30).apply D36) ((((nx11+fr18.length)+fr22.length)+fr29.length)+fr35.length))
 (LD true 2 (.ptr nx 0) ((((H10.apply D19).apply D23).apply D30).apply D36) fun v38 =>
 za Tryd.prog 10 [v38] ((((H10.apply D19).apply D23).apply D30).apply D36) ((((nx11+fr18.length)+fr22.length)+fr29.length)+fr35.length) (zeq Q nx a0 a4))))))))
def zhv (nx:Nat) (H10:Heap) (D19:zq) (D23:zq) (nx11:Nat) (fr18:List Nat) (fr22:List Nat) (Q:QT) (a0:AV) (a4:AV) (v27:AV) (_:List Nat) (fr29:List Nat) (D30:zq):Prop :=
 LDR true 3 (.ptr (nx+1) 0) (((H10.apply D19).apply D23).apply D30) fun v31 rd32 =>
 zo Tryd.prog (.clo 9 []) [v31] (((H10.apply D19).apply D23).apply D30) (((nx11+fr18.length)+fr22.length)+fr29.length) (ziq v27 D19 D30 rd32 Q H10 D23 nx11 fr18 fr22 fr29 nx a0 a4)
def zhu (v16:AV) (D19:zq) (Q:QT) (H10:Heap) (nx11:Nat) (fr18:List Nat) (nx:Nat) (a0:AV) (a4:AV) (v20:AV) (_:List Nat) (fr22:List Nat) (D23:zq):Prop :=
 BI .neq v16 v20 fun v24 =>
 CND v24
 (zb (domD D19) [] (
 zb (domD D19) [] (
 zb (domD D19) [] (
 zb (domD D19) [] (
 Q (.bool false) ((H10.apply D19).apply D23) ((nx11+fr18.length)+fr22.length))))))
 (LDR true 3 (.ptr (nx+1) 0) ((H10.apply D19).apply D23) fun v25 _ =>
 zo Tryd.prog (.clo 8 []) [v25] ((H10.apply D19).apply D23) ((nx11+fr18.length)+fr22.length) (zhv nx H10 D19 D23 nx11 fr18 fr22 Q a0 a4))
def zht (a0:AV) (a1:AV) (H10:Heap) (nx11:Nat) (Q:QT) (nx:Nat) (a4:AV) (v16:AV) (rd17:List Nat) (fr18:List Nat) (D19:zq):Prop :=
 zo Tryd.prog (AV.clo 7 []) [a0,a1] (H10.apply D19) (nx11+fr18.length) (zhu v16 D19 Q H10 nx11 fr18 nx a0 a4)
def zhs (v7:AV) (Q:QT) (v8:AV) (a0:AV) (a1:AV) (nx:Nat) (a4:AV) (v9:AV) (H10:Heap) (nx11:Nat):Prop :=
 EX v9 0 fun v12 =>
 EX v9 1 fun v13 =>
 BI .neq v7 v12 fun v14 =>
 CND v14
 (Q (.bool false) H10 nx11)
 (BI .neq v8 v13 fun v15 =>
 CND v15
 (Q (.bool false) H10 nx11)
 (zo Tryd.prog (.clo 6 []) [a0,a1] H10 nx11 (zht a0 a1 H10 nx11 Q nx a4)))
def zhr (a0:AV) (Q:QT) (a1:AV) (nx:Nat) (a4:AV) (v4:AV) (H5:Heap) (nx6:Nat):Prop :=
 EX v4 0 fun v7 =>
 EX v4 1 fun v8 =>
 za Tryd.prog 5 [a0] H5 nx6 (zhs v7 Q v8 a0 a1 nx a4)
def zip (a0 a1 a2 a3 a4 a5:AV) (H:Heap) (nx:Nat) (Q:QT):Prop :=
 a2.sure=true ∧
 PUTH H nx (.row a2.cells.length a2.cells) fun H1 =>
 a3.sure=true ∧
 PUTH H1 (nx+1) (.row a3.cells.length a3.cells) fun H2 =>
 a5.sure=true ∧
 PUTH H2 (nx+2) (.row a5.cells.length a5.cells) fun H3 =>
 za Tryd.prog 4 [a0] H3 (nx+3) (zhr a0 Q a1 nx a4)
theorem znv (a0 a1 a2 a3 a4 a5:AV) (H:Heap) (nx:Nat) (Q:QT):zip a0 a1 a2 a3 a4 a5 H nx Q→za Tryd.prog 3 [a0,a1,a2,a3,a4,a5] H nx Q :=
  zd (lv:=lvOf []) (c:=zn Tryd.f3) zw zx mixed Tryd.func3 (by kernel_rfl) (by kernel_rfl) (by kernel_rfl) (by kernel_rfl) (by kernel_rfl)
end Go.Proofs.YtdmibdjokofclaaDoor
set_option maxRecDepth 8000
namespace Go.Proofs.YtdmibdjokofclaaDoor
namespace WM
abbrev Bytes:=List UInt8
def zig (n:Int):Nat:=if n < 0 then (-(2*n) - 1).toNat else (2*n).toNat
def enc:Nat→Nat→Bytes
  | 0,u=>[UInt8.ofNat u]
  | f+1,u=>if 128≤u then UInt8.ofNat (u % 128+128) :: enc f (u / 128) else [UInt8.ofNat u]
def num (n:Int):Bytes:=enc 9 (zig n)
end WM
end Go.Proofs.YtdmibdjokofclaaDoor
set_option maxRecDepth 8000
namespace Go.Proofs.YtdmibdjokofclaaDoor
namespace VM
inductive R (α:Type) where
  | ok (a:α) (r:Str)
  | no (e:Int)
def Rd (α:Type):Type:=Str→R α
def Rd.pure {α:Type} (a:α):Rd α:=fun b=>.ok a b
def Rd.bind {α β:Type} (m:Rd α) (f:α→Rd β):Rd β:=fun b=>match m b with
  | .ok a r=>f a r
  | .no e=>.no e
def rMany {α:Type} (m:Rd α):Nat→Rd (List α)
  | 0=>.pure []
  | n+1=>m.bind fun a=>(rMany m n).bind fun l=>.pure (a :: l)
def agt0:Agt:=⟨0,0,⟨[],[]⟩,[],[],⟨0,0,0⟩⟩
abbrev St:=Str×Int
structure Goes {α:Type} (m:Rd α) (st:St) (a:α) (st':St):Prop where
  stuck:st.2 ≠ 0→st'.2=st.2
  good:st.2=0→∀ x r,m st.1=.ok x r→a=x∧st'=(r,0)
  bad:st.2=0→∀ e,m st.1=.no e→e ≠ 0∧st'.2=e
theorem Goes.pure {α:Type} (a:α) (st:St):Goes (Rd.pure a) st a st :=
  ⟨fun _=>rfl,fun h x r hr=>by cases hr; exact ⟨rfl,Prod.ext rfl h⟩,fun _ e h=>by cases h⟩
theorem Goes.bind {α β:Type} {m:Rd α} {k:α→Rd β} {st st1 st2:St} {a:α} {b:β} (h:Goes m st a st1) (h2:Goes (k a) st1 b st2):Goes (m.bind k) st b st2:=by
  refine ⟨fun he => ?_,fun he x r hr => ?_,fun he e hr => ?_⟩
  · have h1:=h.stuck he
    rw [← h1]
    exact h2.stuck (by rw [h1]; exact he)
  · unfold Rd.bind at hr
    split at hr
    · rename_i a' r' hm
      obtain ⟨rfl,rfl⟩:=h.good he _ _ hm
      exact h2.good rfl x r hr
    · cases hr
  · unfold Rd.bind at hr
    split at hr
    · rename_i a' r' hm
      obtain ⟨rfl,rfl⟩:=h.good he _ _ hm
      exact h2.bad rfl e hr
    · rename_i e' hm
      cases hr
      obtain ⟨h1,h3⟩:=h.bad he _ hm
      refine ⟨h1,?_⟩
      rw [← h3]
      exact h2.stuck (by rw [h3]; exact h1)
theorem Goes.more {α:Type} {m:Rd α} {st st1 st2:St} {a:α} {l:List α} {n:Nat} (h:Goes m st a st1) (h2:Goes (rMany m n) st1 l st2):Goes (rMany m (n+1)) st (a :: l) st2 :=
  h.bind (h2.bind (Goes.pure _ _))
end VM
end Go.Proofs.YtdmibdjokofclaaDoor
set_option maxRecDepth 8000
namespace Go.Proofs.YtdmibdjokofclaaDoor
namespace VM
structure Went (p:Prg) (f:Frm):Prop where
  pos:0 < f.at_
  op:((codeAt p f.fn).ins.getD (f.at_.toNat - 1) ⟨0,0,0⟩).op=13
  seen:0≤(hts p f).getD (f.at_.toNat - 1) 0
  hei:(hts p f)[f.at_.toNat]? = some ((f.stack.length:Int)+1)
section
variable {a:Agt} {k:Nat} {f:Frm}
end
theorem chain_get {p:Prg} {fs:List Frm} {fn:Int} (h:WChain p fs fn):∀ (f:Frm),f.fn=fn→∀ (k:Nat) (g:Frm),fs[k]? = some g→Waits p g ((((fs ++ [f])[k+1]?).map (·.fn)).getD 0):=by
  induction h with
  | nil fn=>intro f _ k g hg; simp at hg
  | snoc gs g' fn hc hw ih =>
    intro f hf k g hg
    by_cases hk:k < gs.length
    · rw [List.getElem?_append_left hk] at hg
      have:=ih g' rfl k g hg
      rw [List.append_assoc,show k+1=k+1 from rfl]
      have e:(gs ++ ([g'] ++ [f]))[k+1]? = (gs ++ [g'])[k+1]? := by
        rw [← List.append_assoc,List.getElem?_append_left (by simp; omega)]
      rw [e]; exact this
    · have hk':k=gs.length:=by have:=(List.getElem?_eq_some_iff.1 hg).1; simp at this; omega
      subst hk'
      rw [List.getElem?_append_right (Nat.le_refl _)] at hg
      simp at hg
      subst hg
      have e:((gs ++ [g']) ++ [f])[gs.length+1]? = some f:=by
        rw [List.getElem?_append_right (by simp)]; simp
      rw [e]
      simp only [Option.map_some,Option.getD_some,hf]
      exact hw
structure Gone (a:Agt) (fs:List Frm) (f:Frm):Prop where
  fr:a.frames=fs ++ [f]
  prog:program a.prog=0
  id:0≤a.id∧a.id≤1073741824
  trip:0≤a.trip∧a.trip≤1073741824
  fuel:0≤a.permit.fuel∧a.permit.fuel≤2000
  room:0≤a.permit.room
  hops:0≤a.permit.hops∧a.permit.hops≤12
  flen:fs.length < 12
  hlen:(a.heap.length:Int)+a.permit.room≤60
  ok:∀ g∈fs ++ [f],FrOk a.prog a.heap.length g
  chain:WChain a.prog fs f.fn
  went:Went a.prog f
  cells:∀ c∈a.heap,WrongOk c.left a.heap.length∧WrongOk c.right a.heap.length
theorem frame_gone {a:Agt} {k:Nat} {f:Frm} (hp:program a.prog=0) (hk:a.frames[k]? = some f) (h:frame a k true=0):FrOk a.prog a.heap.length f∧(k+1=a.frames.length→Went a.prog f)∧(k+1 ≠ a.frames.length→Waits a.prog f (((a.frames[k+1]?).map (·.fn)).getD 0)):=by
  unfold frame at h
  rw [hk] at h
  simp only at h
  by_cases hfn:0≤f.fn
  case neg=>rw [if_neg hfn] at h; simp at h
  rw [if_pos hfn] at h
  cases hc:a.prog.codes[f.fn.toNat]? with
  | none=>rw [hc] at h; simp at h
  | some c =>
  rw [hc] at h
  simp only at h
  by_cases hat:0≤f.at_
  case neg=>rw [if_neg hat] at h; simp at h
  rw [if_pos hat] at h
  cases hi:c.ins[f.at_.toNat]? with
  | none=>rw [hi] at h; simp at h
  | some i =>
  rw [hi] at h
  simp only at h
  by_cases hv:(f.vars.length:Int) ≠ c.vars
  · rw [if_pos hv] at h; omega
  rw [if_neg hv] at h
  have hcode:=(List.getElem?_eq_some_iff.1 hc).1
  have hca:codeAt a.prog f.fn=c:=by unfold codeAt; rw [List.getD_eq_getElem?_getD,hc]; rfl
  have hil:=(List.getElem?_eq_some_iff.1 hi).1
  obtain ⟨pr,_⟩:=zad hp
  obtain ⟨_,calm,hz⟩:=pr _ (List.mem_of_getElem? hc)
  have hlen:=(zcr calm hz).1
  have hh:(heights c.ins).1[f.at_.toNat]? = some ((heights c.ins).1.getD f.at_.toNat 0):=by
    rw [List.getD_eq_getElem?_getD,List.getElem?_eq_getElem (by omega)]; rfl
  have main:VM.firstErr (fun v=>wrong v a.heap.length) (f.vars ++ f.stack)=0∧f.at_ ≠ 0∧0≤(heights c.ins).1.getD (f.at_.toNat - 1) 0∧(heights c.ins).1.getD f.at_.toNat 0=f.stack.length+1∧(k+1=a.frames.length→(c.ins.getD (f.at_.toNat - 1) ⟨0,0,0⟩).op=13)∧(k+1 ≠ a.frames.length→(c.ins.getD (f.at_.toNat - 1) ⟨0,0,0⟩).op=17 ∧
      (c.ins.getD (f.at_.toNat - 1) ⟨0,0,0⟩).a=((a.frames[k+1]?).map (·.fn)).getD 0):=by
    by_cases hlast:k+1=a.frames.length
    · simp only [hlast,decide_true,Bool.not_true,Bool.false_or,Bool.true_and,Bool.false_and,Bool.or_true,if_true] at h
      by_cases hw:(decide (f.at_=0) || (decide ((c.ins.getD (f.at_.toNat - 1) ⟨0,0,0⟩).op ≠ 13) || decide ((heights c.ins).1.getD (f.at_.toNat - 1) 0 < 0)))=true
      · rw [if_pos hw] at h; omega
      · rw [if_neg hw] at h
        by_cases hst:(heights c.ins).1.getD f.at_.toNat 0 - 1 < 0∨(f.stack.length:Int) ≠ (heights c.ins).1.getD f.at_.toNat 0 - 1
        · rw [if_pos hst] at h; omega
        · rw [if_neg hst] at h
          simp only [Bool.or_eq_true,decide_eq_true_eq,not_or,Classical.not_not] at hw
          obtain ⟨w1,w2,w4⟩:=hw
          exact ⟨h,w1,by omega,by omega,fun _=>w2,fun hx=>absurd hlast hx⟩
    · simp only [hlast,decide_false,Bool.not_false,Bool.true_and,Bool.or_false,Bool.false_and,Bool.true_or,if_true] at h
      by_cases hw:(decide (f.at_=0) || (decide ((c.ins.getD (f.at_.toNat - 1) ⟨0,0,0⟩).op ≠ 17) || decide ((c.ins.getD (f.at_.toNat - 1) ⟨0,0,0⟩).a ≠ ((a.frames[k+1]?).map (·.fn)).getD 0) || decide ((heights c.ins).1.getD (f.at_.toNat - 1) 0 < 0)))=true
      · rw [if_pos hw] at h; omega
      · rw [if_neg hw] at h
        by_cases hst:(heights c.ins).1.getD f.at_.toNat 0 - 1 < 0∨(f.stack.length:Int) ≠ (heights c.ins).1.getD f.at_.toNat 0 - 1
        · rw [if_pos hst] at h; omega
        · rw [if_neg hst] at h
          simp only [Bool.or_eq_true,decide_eq_true_eq,not_or,Classical.not_not] at hw
          obtain ⟨w1,⟨w2,w3⟩,w4⟩:=hw
          exact ⟨h,w1,by omega,by omega,fun hx=>absurd hx hlast,fun _=>⟨w2,w3⟩⟩
  obtain ⟨m1,w1,w4,w5,m2,m3⟩:=main
  obtain ⟨e1,e2⟩:=firstErr_app m1
  refine ⟨⟨hfn,hat,hcode,by rw [hca]; exact hil,by rw [hca]; omega,fun v hv=>wrong_ok (e1 v hv),fun v hv=>wrong_ok (e2 v hv)⟩,fun hlast => ?_,fun hlast => ?_⟩
  · refine ⟨by omega,by rw [hca]; exact m2 hlast,by unfold hts; rw [hca]; exact w4,?_⟩
    unfold hts
    rw [hca,hh,w5]
  · obtain ⟨w2,w3⟩:=m3 hlast
    refine ⟨by omega,by rw [hca]; exact w2,by rw [hca]; exact w3,by unfold hts; rw [hca]; exact w4,?_⟩
    unfold hts
    rw [hca,hh,w5]
theorem agent_gone {a:Agt} (h:agent a true=0):∃ fs f,Gone a fs f:=by
  unfold agent at h
  by_cases h1:program a.prog ≠ 0
  · rw [if_pos h1] at h; exact absurd h h1
  rw [if_neg h1] at h
  have hp:=Classical.not_not.1 h1
  split at h
  · omega
  rename_i h2
  split at h
  · omega
  rename_i h3
  split at h
  · omega
  rename_i h4
  by_cases h5:framesErr a true ≠ 0
  · rw [if_pos h5] at h; exact absurd h h5
  rw [if_neg h5] at h
  have hfr:=zbz (Classical.not_not.1 h5)
  have hcell:=zbz h
  obtain ⟨n,hn⟩:∃ n,a.frames.length=n+1:=⟨a.frames.length - 1,by omega⟩
  have hlast:a.frames[n]? = some a.frames[n]:=List.getElem?_eq_getElem (by omega)
  have hall:∀ (k:Nat) (g:Frm),a.frames[k]? = some g→frame a k true=0:=fun k g hg=>hfr k (List.mem_range.2 (List.getElem?_eq_some_iff.1 hg).1)
  have hsplit:a.frames=a.frames.take n ++ [a.frames[n]]:=by
    have:a.frames.take (n+1)=a.frames.take n ++ [a.frames[n]]:=by rw [List.take_add_one,hlast]; rfl
    rw [← this,List.take_of_length_le (by omega)]
  refine ⟨a.frames.take n,a.frames[n],hsplit,hp,by omega,by omega,by omega,by omega,by omega,by rw [List.length_take]; omega,by omega,fun g hg => ?_,?_,(frame_gone hp hlast (hall n _ hlast)).2.1 (by omega),fun c hc => ?_⟩
  · rw [← hsplit] at hg
    obtain ⟨k,hk,rfl⟩:=List.getElem_of_mem hg
    exact (frame_gone hp (List.getElem?_eq_getElem hk) (hall k _ (List.getElem?_eq_getElem hk))).1
  · exact chain_of n _ hlast fun j g hj hg=>(frame_gone hp hg (hall j g hg)).2.2 (by omega)
  · have:=hcell c hc
    unfold cellErr at this
    split at this
    · rename_i hx; exact absurd this hx
    · rename_i hx
      exact ⟨wrong_ok (Classical.not_not.1 hx),wrong_ok this⟩
theorem answer_live {a:Agt} {fs:List Frm} {f:Frm} (l:Gone a fs f) {n:Int} (hn : -1073741824≤n∧n≤1073741824):Live (answer a n) fs { f with stack:=f.stack ++ [⟨0,n,[]⟩] }:=by
  have e1:a.frames.getLast? = some f:=by rw [l.fr]; simp
  have e2:a.frames.dropLast=fs:=by rw [l.fr]; simp
  have e:answer a n={ a with frames:=fs ++ [{ f with stack:=f.stack ++ [⟨0,n,[]⟩] }] }:=by
    unfold answer; rw [e1,e2]; rfl
  have okf:=l.ok f (by simp)
  rw [e]
  refine ⟨rfl,l.prog,l.id,l.trip,l.fuel,l.room,l.hops,l.flen,l.hlen,fun g hg => ?_,l.chain,?_,l.cells⟩
  · rcases List.mem_append.1 hg with hg | hg
    · exact l.ok g (by simp [hg])
    · simp at hg
      subst hg
      refine ⟨okf.fn0,okf.at0,okf.code,okf.ins,okf.vars,okf.vv,fun v hv => ?_⟩
      rcases List.mem_append.1 hv with h | h
      · exact okf.sv v h
      · simp at h; subst h; exact num_ok hn _
  · unfold Still
    have:=l.went.hei
    simp only [List.length_append,List.length_singleton]
    exact this
end VM
end Go.Proofs.YtdmibdjokofclaaDoor
set_option maxRecDepth 8000
namespace Go.Proofs.YtdmibdjokofclaaDoor
namespace VM
def Reads {α:Type} (m:Rd α) (B:Str) (a:α):Prop:=∀ r,m (B ++ r)=.ok a r
theorem Reads.pure {α:Type} (a:α):Reads (Rd.pure a) [] a:=fun _=>rfl
theorem Reads.bind {α β:Type} {m:Rd α} {k:α→Rd β} {B C:Str} {a:α} {b:β} (h:Reads m B a) (h2:Reads (k a) C b):Reads (m.bind k) (B ++ C) b:=fun r=>by
  unfold Rd.bind
  rw [List.append_assoc,h (C ++ r)]
  exact h2 r
structure PrgOk (p:Prg):Prop where
  words:p.words.length≤16
  word:∀ w∈p.words,w.length≤12
  codes:p.codes.length≤5
  code:∀ c∈p.codes,c.ins.length≤200∧(0≤c.params∧c.params≤100)∧(0≤c.vars∧c.vars≤100)∧∀ i∈c.ins,(-9223372036854775808≤i.op∧i.op≤9223372036854775807)∧(-9223372036854775808≤i.a∧i.a≤9223372036854775807)∧(-9223372036854775808≤i.b∧i.b≤9223372036854775807)
theorem prg_ok {p:Prg} (h:program p=0):PrgOk p:=by
  obtain ⟨pr,pc,pw⟩:=zad h
  have nums:=program_nums h
  have hw:∀ w∈p.words,w.length≤12:=fun w hw=>by
    unfold program at h
    by_cases h1:p.codes.length < 1∨5 < p.codes.length
    · rw [if_pos h1] at h; omega
    rw [if_neg h1] at h
    by_cases h2:16 < p.words.length
    · rw [if_pos h2] at h; omega
    rw [if_neg h2] at h
    by_cases h3:p.words.all word=false
    · rw [if_pos h3] at h; omega
    have:=List.all_eq_true.1 (by simpa using h3:p.words.all word=true) w hw
    unfold word at this
    rw [Bool.and_eq_true,decide_eq_true_eq] at this
    exact this.1
  refine ⟨pw,hw,pc,fun c hc => ?_⟩
  obtain ⟨cr,calm,_⟩:=pr c hc
  unfold codeRange at cr
  rw [decide_eq_false_iff_not] at cr
  refine ⟨by omega,by omega,by omega,fun i hi => ?_⟩
  obtain ⟨q1,q2,q3,q4⟩:=numbers_ok (nums c hc i hi)
  have ha : -1073741824≤i.a∧i.a≤1073741824:=by
    unfold numOk isIn at q3
    split at q3 <;> (try split at q3) <;> (try split at q3) <;> (try split at q3) <;> (try split at q3) <;> (try split at q3) <;> simp at q3 <;> omega
  have hb:0≤i.b∧i.b≤16:=by
    by_cases h17:i.op=17
    · exact calm i hi h17
    · have:=q4 h17; omega
  omega
end VM
end Go.Proofs.YtdmibdjokofclaaDoor
