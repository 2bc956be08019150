/- The document's machine: each instruction does what the plain machine does. Words, and instructions: what the document's functions make of them. The document's machine: a step. Going as if it were nothing: the document's small functions (chapter 9). Going as if it were nothing: what is wrong with places: the document's. Cells numbered as they are come to: the document's closures. Cells numbered as they are come to: the document's function, its first part. Cells numbered as they are come to: the document's function, its loops. Cells numbered as they are come to: the document's function, all of it. Cells numbered as they are come to: the document's answer. The document's machine: Pack. Going as if it were nothing: who is let in: the document's. -/
import Derived.Test.YtdmibdjokofclaaDoorG14
import Derived.Test.YtdmibdjokofclaaDoorG12
import Derived.Test.YtdmibdjokofclaaDoorG11
import Derived.Test.YtdmibdjokofclaaDoorG9
import Derived.Test.YtdmibdjokofclaaDoorG13
set_option linter.unusedSimpArgs false
set_option linter.unusedVariables false
set_option maxRecDepth 8000
namespace Go.Proofs.YtdmibdjokofclaaDoor
open Go Go.RowKit
theorem zni (st:List Val):VM.low 0 st=st:=by simp [VM.low]
theorem zpd {st:List Val} (h:1≤st.length):st.drop (st.length - 1)=[VM.top1 st]:=by
  have e:=zfm h
  have hl:(VM.low 1 st).length=st.length - 1:=VM.low_len 1 st
  have:st.drop (st.length - 1)=(VM.low 1 st ++ [VM.top1 st]).drop (VM.low 1 st).length:=by rw [← e,hl]
  rw [this,List.drop_left]
theorem zadl {st:List Val} (h:2≤st.length):st.drop (st.length - 2)=[VM.top2 st,VM.top1 st]:=by
  have e:=zui h
  have hl:(VM.low 2 st).length=st.length - 2:=VM.low_len 2 st
  have:st.drop (st.length - 2)=(VM.low 2 st ++ [VM.top2 st,VM.top1 st]).drop (VM.low 2 st).length:=by rw [← e,hl]
  rw [this,List.drop_left]
section
variable {H0 H:Heap} {nx n ga:Nat} {a:Agt} {s:Spt} {fs:List Frm} {f:Frm}
theorem zalj {b:Agt} {f':Frm} {ia ib:Int} {ins:List Val} {x:Val} (R:VSt H0 H nx n ga b s fs f' ins ⟨13,ia,ib⟩) (hin:ins=[x]) (hfacts:s.facts.length≤4611686018427387903) (h0:0≤b.permit.hops) (hm:b.permit.hops≤4096) :
    Then H0 H nx n ga b fs ins (if x.kind ≠ 1 then (VM.toF b fs f',VM.dead 11) else if b.permit.hops=0 then VM.push b fs f' f'.stack VM.vzero else (VM.toF { b with permit:={ b.permit with hops:=b.permit.hops - 1 } } fs f',⟨3,x.text,0⟩)):=by
  by_cases hk:x.kind=1
  · rw [if_neg (by simpa using hk)]
    by_cases hh:b.permit.hops=0
    · rw [if_pos hh]; exact zalh R hin hk hh hfacts
    · rw [if_neg hh]; exact zaos R hin hk (by omega) hm
  · rw [if_pos hk]; exact zali R hin hk
set_option maxHeartbeats 4000000 in
theorem zale (l:VM.Live a fs f) (hname:s.name.length≤maxLen) (hfacts:s.facts.length≤4611686018427387903) {ins:List Val} {f':Frm} {b:Agt} {i:Ins} (hi':i=VM.insAt a.prog f) (hb':b={ a with permit:={ a.permit with fuel:=a.permit.fuel - 1 } })
    (hf':f'={ f with at_:=f.at_+1,stack:=VM.low (VM.effect i).1.toNat f.stack }) (hin:ins=f.stack.drop (f.stack.length - (VM.effect i).1.toNat)) (R:VSt H0 H nx n ga b s fs f' ins i) :
    Then H0 H nx n ga b fs ins (VM.opDo b s fs { f with at_:=f.at_+1 } i):=by
  have flen:=l.flen
  have ok:=l.ok f (by simp)
  have nw:=l.now
  rw [← hi'] at nw
  clear hi'
  obtain ⟨iop,ia,ib⟩:=i
  have hins:=nw.at_
  obtain ⟨o1,o2,o3,o4⟩:=VM.numbers_ok nw.num
  have pops:=nw.pops
  have slen:=zach l
  obtain ⟨crange,_,_⟩:=(zad l.prog).1 _ (VM.code_mem ok.code)
  unfold VM.codeRange at crange
  rw [decide_eq_false_iff_not] at crange
  have b1:=l.fuel
  have b2:=l.room
  have b3:=l.hops
  have b4:=l.hlen
  have oc:zdc a.heap:=l.cells
  have m1:1≤f.stack.length→VM.WrongOk (VM.top1 f.stack) a.heap.length:=fun h=>ok.sv _ (VM.top1_mem h)
  have m2:2≤f.stack.length→VM.WrongOk (VM.top2 f.stack) a.heap.length:=fun h=>ok.sv _ (VM.top2_mem h)
  have hcell:∀ x:Val,VM.WrongOk x a.heap.length→x.kind=2→0≤x.n∧a.heap[x.n.toNat]? = some (a.heap.getD x.n.toNat VM.cl0):=fun x hx hk=>by
    obtain ⟨w1,w2⟩:=hx.cell hk
    refine ⟨w1,?_⟩
    rw [List.getD_eq_getElem?_getD,List.getElem?_eq_getElem (by omega)]; rfl
  simp only at o1 o2 o3 o4 pops
  have hop:iop=1∨iop=2∨iop=3∨iop=4∨iop=5∨iop=6∨iop=7∨iop=8∨iop=9∨iop=10∨iop=11∨iop=12∨iop=13∨iop=14∨iop=15∨iop=16∨iop=17∨iop=18∨iop=19:=by omega
  rcases hop with rfl | rfl | rfl | rfl | rfl | rfl | rfl | rfl | rfl | rfl | rfl | rfl | rfl | rfl | rfl | rfl | rfl | rfl | rfl
  · -- 1
    rw [show (VM.effect ⟨1,ia,ib⟩).1.toNat=0 by simp [VM.effect]] at hf' hin
    rw [zni] at hf'
    subst hf'
    rw [VM.opDo_1]
    exact zaqe R
  · -- 2
    rw [show (VM.effect ⟨2,ia,ib⟩).1.toNat=0 by simp [VM.effect]] at hf' hin
    rw [zni] at hf'
    subst hf'
    have hn:0≤ia∧ia < a.prog.words.length:=by unfold VM.numOk VM.isIn at o3; simpa using o3
    have hlt:ia.toNat < a.prog.words.length:=by omega
    have hget:a.prog.words[ia.toNat]? = some (a.prog.words.getD ia.toNat []):=by rw [List.getD_eq_getElem?_getD,List.getElem?_eq_getElem hlt]; rfl
    have hwl:=zso l.prog _ (List.mem_of_getElem? hget)
    subst hb'
    rw [VM.opDo_2]
    exact zaqd R hn.1 hget (by simp only [maxLen]; omega)
  · -- 3
    rw [show (VM.effect ⟨3,ia,ib⟩).1.toNat=0 by simp [VM.effect]] at hf' hin
    rw [zni] at hf'
    subst hf'
    have hn:0≤ia∧ia < (VM.codeAt a.prog f.fn).vars:=by unfold VM.numOk VM.isIn at o3; simpa using o3
    have okv:=ok.vars
    have hlt:ia.toNat < f.vars.length:=by omega
    have hget:f.vars[ia.toNat]? = some (f.vars.getD ia.toNat VM.vzero):=by rw [List.getD_eq_getElem?_getD,List.getElem?_eq_getElem hlt]; rfl
    rw [VM.opDo_3]
    exact zaqc R hn.1 hget
  · -- 4
    rw [show (VM.effect ⟨4,ia,ib⟩).1.toNat=1 by simp [VM.effect]] at hf' hin
    have hp:1≤f.stack.length:=by simp [VM.effect] at pops; omega
    rw [zpd hp] at hin
    subst hf'
    have hn:0≤ia∧ia < (VM.codeAt a.prog f.fn).vars:=by unfold VM.numOk VM.isIn at o3; simpa using o3
    have okv:=ok.vars
    rw [VM.opDo_4]
    exact zaqb R hn.1 (by simp only; omega) hin
  · -- 5
    rw [show (VM.effect ⟨5,ia,ib⟩).1.toNat=2 by simp [VM.effect]] at hf' hin
    have hp:2≤f.stack.length:=by simp [VM.effect] at pops; omega
    rw [zadl hp] at hin
    subst hf'
    rw [VM.opDo_5]
    exact zaqa R hin (VM.ok_wrong (m2 hp)) (VM.ok_wrong (m1 (by omega)))
  · -- 6
    rw [show (VM.effect ⟨6,ia,ib⟩).1.toNat=2 by simp [VM.effect]] at hf' hin
    have hp:2≤f.stack.length:=by simp [VM.effect] at pops; omega
    rw [zadl hp] at hin
    subst hf' hb'
    rw [VM.opDo_6]
    exact zapz R hin b2 (by simp only; omega) (by simp only; omega)
  · -- 7
    rw [show (VM.effect ⟨7,ia,ib⟩).1.toNat=1 by simp [VM.effect]] at hf' hin
    have hp:1≤f.stack.length:=by simp [VM.effect] at pops; omega
    rw [zpd hp] at hin
    subst hf' hb'
    rw [VM.opDo_7]
    by_cases hk:(VM.top1 f.stack).kind=2
    · rw [if_neg (by simpa using hk)]
      obtain ⟨c0,c1⟩:=hcell _ (m1 hp) hk
      exact zapy R hin hk c0 c1
    · rw [if_pos hk]; exact zaol R hin hk
  · -- 8
    rw [show (VM.effect ⟨8,ia,ib⟩).1.toNat=1 by simp [VM.effect]] at hf' hin
    have hp:1≤f.stack.length:=by simp [VM.effect] at pops; omega
    rw [zpd hp] at hin
    subst hf' hb'
    rw [VM.opDo_8]
    by_cases hk:(VM.top1 f.stack).kind=2
    · rw [if_neg (by simpa using hk)]
      obtain ⟨c0,c1⟩:=hcell _ (m1 hp) hk
      exact zapx R hin hk c0 c1
    · rw [if_pos hk]; exact zaok R hin hk
  · -- 9
    rw [show (VM.effect ⟨9,ia,ib⟩).1.toNat=2 by simp [VM.effect]] at hf' hin
    have hp:2≤f.stack.length:=by simp [VM.effect] at pops; omega
    rw [zadl hp] at hin
    subst hf' hb'
    rw [VM.opDo_9]
    by_cases hk:(VM.top2 f.stack).kind=2
    · rw [if_neg (by simpa using hk)]
      obtain ⟨c0,c1⟩:=hcell _ (m2 hp) hk
      exact zapw R hin hk c0 (by simp only; omega) c1
    · rw [if_pos hk]; exact zaoj R hin hk
  · -- 10
    rw [show (VM.effect ⟨10,ia,ib⟩).1.toNat=2 by simp [VM.effect]] at hf' hin
    have hp:2≤f.stack.length:=by simp [VM.effect] at pops; omega
    rw [zadl hp] at hin
    subst hf' hb'
    rw [VM.opDo_10]
    by_cases hk:(VM.top2 f.stack).kind=2
    · rw [if_neg (by simpa using hk)]
      obtain ⟨c0,c1⟩:=hcell _ (m2 hp) hk
      exact zaov R hin hk c0 (by simp only; omega) c1
    · rw [if_pos hk]; exact zall R hin hk
  · -- 11
    rw [show (VM.effect ⟨11,ia,ib⟩).1.toNat=1 by simp [VM.effect]] at hf' hin
    have hp:1≤f.stack.length:=by simp [VM.effect] at pops; omega
    rw [zpd hp] at hin
    subst hf' hb'
    rw [VM.opDo_11]
    by_cases hk:(VM.top1 f.stack).kind=1
    · rw [if_neg (by simpa using hk)]; exact zaou R hin hk hfacts
    · rw [if_pos hk]; exact zalk R hin hk
  · -- 12
    rw [show (VM.effect ⟨12,ia,ib⟩).1.toNat=0 by simp [VM.effect]] at hf' hin
    rw [zni] at hf'
    subst hf'
    rw [VM.opDo_12]
    exact zaot R hname
  · -- 13
    rw [show (VM.effect ⟨13,ia,ib⟩).1.toNat=1 by simp [VM.effect]] at hf' hin
    have hp:1≤f.stack.length:=by simp [VM.effect] at pops; omega
    rw [zpd hp] at hin
    subst hf' hb'
    rw [VM.opDo_13]
    exact zalj R hin hfacts (by simp only; omega) (by simp only; omega)
  · -- 14
    rw [show (VM.effect ⟨14,ia,ib⟩).1.toNat=1 by simp [VM.effect]] at hf' hin
    have hp:1≤f.stack.length:=by simp [VM.effect] at pops; omega
    rw [zpd hp] at hin
    subst hf' hb'
    rw [VM.opDo_14]
    exact zaor R hin oc (m1 hp)
  · -- 15
    rw [show (VM.effect ⟨15,ia,ib⟩).1.toNat=0 by simp [VM.effect]] at hf' hin
    rw [zni] at hf'
    subst hf'
    rw [VM.opDo_15]
    exact zaoq R
  · -- 16
    rw [show (VM.effect ⟨16,ia,ib⟩).1.toNat=1 by simp [VM.effect]] at hf' hin
    have hp:1≤f.stack.length:=by simp [VM.effect] at pops; omega
    rw [zpd hp] at hin
    subst hf'
    rw [VM.opDo_16]
    exact zaop R hin fun hk=>(m1 hp).non (fun h=>by rw [hk] at h; cases h)
  · -- 17
    have he:(VM.effect ⟨17,ia,ib⟩).1=ib:=by simp [VM.effect]
    rw [he] at hf' hin
    have hn:VM.numOk a.prog (VM.codeAt a.prog f.fn) ⟨17,ia,ib⟩=true:=o3
    unfold VM.numOk VM.isIn at hn
    simp at hn
    have hk:(ia.toNat < a.prog.codes.length):=by omega
    have hcc:a.prog.codes[ia.toNat]? = some (VM.codeAt a.prog ia):=by unfold VM.codeAt; rw [List.getD_eq_getElem?_getD,List.getElem?_eq_getElem hk]; rfl
    have hcr:=((zad l.prog).1 _ (VM.code_mem hk)).1
    unfold VM.codeRange at hcr
    rw [decide_eq_false_iff_not] at hcr
    have hb:ib=(VM.codeAt a.prog ia).params:=by
      have:=hn.2
      unfold VM.codeAt
      rw [List.getD_eq_getElem?_getD]
      rw [List.getElem?_eq_getElem hk] at this ⊢
      simpa using this
    have hpp:ib≤f.stack.length:=by rw [he] at pops; exact pops
    have hil:ins.length=ib.toNat:=by rw [hin,List.length_drop]; omega
    subst hf' hb'
    rw [VM.opDo_17]
    by_cases hd:12≤fs.length+1
    · rw [if_pos hd]
      have:=zalg R hd (by omega)
      have e:VM.low ib.toNat f.stack ++ ins=f.stack:=by rw [hin]; exact List.take_append_drop _ _
      simp only [e] at this
      exact this
    · rw [if_neg hd]
      have:=zaoo R (by omega) hn.1.1 hcc (by omega) (by omega) (by omega)
      have e2:(ins.length:Int)=ib:=by omega
      rw [e2] at this
      rw [← hin]
      exact this
  · -- 18
    rw [show (VM.effect ⟨18,ia,ib⟩).1.toNat=1 by simp [VM.effect]] at hf' hin
    have hp:1≤f.stack.length:=by simp [VM.effect] at pops; omega
    rw [zpd hp] at hin
    subst hf' hb'
    rw [VM.opDo_18]
    rcases List.eq_nil_or_concat fs with rfl | ⟨gs,g,hg⟩
    · exact zalf R hin oc (m1 hp) rfl
    · rw [List.concat_eq_append] at hg
      subst hg
      have:=ztu l g (by simp)
      have e1:(gs ++ [g]).getLast? = some g:=by simp
      have e2:(gs ++ [g]).dropLast=gs:=by simp
      rw [e1,e2]
      exact zaon R hin (by omega)
  · -- 19
    rw [show (VM.effect ⟨19,ia,ib⟩).1.toNat=1 by simp [VM.effect]] at hf' hin
    subst hf'
    rw [VM.opDo_19]
    exact zaom R
end
end Go.Proofs.YtdmibdjokofclaaDoor
set_option maxRecDepth 8000
namespace Go.Proofs.YtdmibdjokofclaaDoor
open Go Go.RowKit
theorem zadx (i:Ins):QC Tryd.prog 37 [.agg i.avs] (.tup [.int .i64 (VM.effect i).1,.int .i64 (VM.effect i).2]):=by
  refine QC.of' fun H nx=>zto _ H nx _ ?_
  obtain ⟨op,a,b⟩:=i
  unfold zog
  simp only [Ins.avs,zalo,zaks,true_and,List.length_cons,List.length_nil,ld_p,Heap.put_at,rowk,List.getElem?_cons_zero,optk,zaao,cnd,cndc,decide_eq_true_eq,decide_eq_false_iff_not]
  refine ⟨fun h => ?_,fun h => ?_⟩
  · simp [VM.effect,h]
  have hx:op ≠ 17:=by simpa using h
  have hH:((H.put nx (some (.row 3 [.int .i64 op,.int .i64 a,.int .i64 b]))).put (nx+1) (some (.mp []))) (nx+1)=some (.mp []):=Heap.put_at _ _ _
  have hK:Keep nx ((H.put nx (some (.row 3 [.int .i64 op,.int .i64 a,.int .i64 b]))).put (nx+1) (some (.mp []))) H:=by simp
  have hop:((H.put nx (some (.row 3 [.int .i64 op,.int .i64 a,.int .i64 b]))).put (nx+1) (some (.mp []))) nx=some (.row 3 [.int .i64 op,.int .i64 a,.int .i64 b]):=by simp
  simp only [Nat.zero_add,Nat.reduceAdd]
  generalize ((H.put nx (some (.row 3 [.int .i64 op,.int .i64 a,.int .i64 b]))).put (nx+1) (some (.mp [])))=H1 at *
  repeat (refine ⟨rfl,zaqk hH hop (by omega) hK (by omega) (by simp only [zku,zuy,List.nil_append,List.cons_append,Int.reduceEq,if_false,Option.map_some,Option.map_none]) ?_⟩; clear hH hK hop; clear H1; intro H1 hH hop hK)
  simp only [List.nil_append,List.cons_append] at hH
  have hcases:op < 1∨19 < op∨op=1∨op=2∨op=3∨op=4∨op=5∨op=6∨op=7∨op=8∨op=9∨op=10∨op=11∨op=12∨op=13∨op=14∨op=15∨op=16∨op=18∨op=19:=by omega
  have hs:∀ p q:Int,(∃ r,zbd (.int .i64 op) [(.int .i64 1,.agg [.int .i64 0,.int .i64 1]),(.int .i64 2,.agg [.int .i64 0,.int .i64 1]),(.int .i64 3,.agg [.int .i64 0,.int .i64 1]),(.int .i64 4,.agg [.int .i64 1,.int .i64 0]),(.int .i64 5,.agg [.int .i64 2,.int .i64 1]),(.int .i64 6,.agg [.int .i64 2,.int .i64 1]),(.int .i64 7,.agg [.int .i64 1,.int .i64 1]),(.int .i64 8,.agg [.int .i64 1,.int .i64 1]),(.int .i64 9,.agg [.int .i64 2,.int .i64 0]),(.int .i64 10,.agg [.int .i64 2,.int .i64 0]),(.int .i64 11,.agg [.int .i64 1,.int .i64 1]),(.int .i64 12,.agg [.int .i64 0,.int .i64 1]),(.int .i64 13,.agg [.int .i64 1,.int .i64 1]),(.int .i64 14,.agg [.int .i64 1,.int .i64 0]),(.int .i64 15,.agg [.int .i64 0,.int .i64 0]),(.int .i64 16,.agg [.int .i64 1,.int .i64 0]),(.int .i64 18,.agg [.int .i64 1,.int .i64 0]),(.int .i64 19,.agg [.int .i64 1,.int .i64 0])]=some r ∧
      (match r with | some (_,v)=>v | none=>.agg [.int .i64 0,.int .i64 0])=.agg [.int .i64 (VM.effect ⟨op,a,b⟩).1,.int .i64 (VM.effect ⟨op,a,b⟩).2]):=by
    intro _ _
    rcases hcases with h | h | h
    · have e:VM.effect ⟨op,a,b⟩=(0,0):=by unfold VM.effect; simp only; (repeat' split) <;> first | omega | rfl
      refine ⟨none,?_,by rw [e]⟩
      simp only [zku,zuy]
      repeat rw [if_neg (by omega)]
      rfl
    · have e:VM.effect ⟨op,a,b⟩=(0,0):=by unfold VM.effect; simp only; (repeat' split) <;> first | omega | rfl
      refine ⟨none,?_,by rw [e]⟩
      simp only [zku,zuy]
      repeat rw [if_neg (by omega)]
      rfl
    · rcases h with h | h | h | h | h | h | h | h | h | h | h | h | h | h | h | h | h | h
      all_goals subst h; exact ⟨_,by simp only [zku,Int.reduceEq,if_false,if_true,Option.map_some]; rfl,rfl⟩
  obtain ⟨r,h1,h2⟩:=hs 0 0
  rw [hop,rowk]
  simp only [List.getElem?_cons_zero,optk,zaif,true_and,lk_p,hH,mapk,h1,cond_true,cond_false]
  cases r with
  | none=>simp only at h2; simp [hK,h2]
  | some pr=>obtain ⟨i,v⟩:=pr; simp only at h2; simp [hK,h2]
theorem zaoh (s:Str) (i:Nat):(s.drop i).all VM.wordByte=if h:i < s.length then VM.wordByte s[i] && (s.drop (i+1)).all VM.wordByte else true:=by
  split
  · rename_i h
    rw [List.drop_eq_getElem_cons h,List.all_cons]
  · rename_i h
    rw [List.drop_of_length_le (by omega)]; rfl
theorem zald (s:Str) (hs:s.length≤maxLen):QC Tryd.prog 24 [.str s] (.bool (VM.word s)):=by
  refine fun H nx=>zwn _ H nx _ ?_
  simp only [maxLen] at hs
  simp [zqd]
  refine LP.mk (fun n xs H' nx'=>∃ i:Nat,i≤s.length∧n=s.length - i∧xs=[.str s,.int .i64 s.length,.int .i64 i]∧H=H'∧nx=nx'∧s.all VM.wordByte=(s.drop i).all VM.wordByte) s.length ⟨0,by omega,by omega,rfl,rfl,rfl,rfl⟩ ?_
  rintro n xs H' nx' ⟨i,hi,rfl,rfl,rfl,rfl,hall⟩
  rw [zaoh] at hall
  simp [zqe]
  refine ⟨fun h => ?_,fun h => ?_⟩
  · rw [dif_pos h] at hall
    have hb:VM.wordByte s[i]=false→VM.word s=false:=fun hb=>by simp [VM.word,hall,hb]
    simp [h]
    refine ⟨fun h1=>hb (by simp [VM.wordByte]; omega),fun h1=>⟨fun h2=>hb (by simp [VM.wordByte]; omega),fun h2=>⟨fun h3=>hb (by simp [VM.wordByte]; omega),fun h3 => ?_⟩⟩⟩
    rw [i64w (by omega)]
    refine ⟨s.length - (i+1),by omega,i+1,by omega,rfl,by simp,?_⟩
    have:VM.wordByte s[i]=true:=by simp [VM.wordByte]; omega
    rw [hall,this]; rfl
  · rw [dif_neg (by omega)] at hall
    simp only [VM.word,hall,Bool.and_true]
    rw [Bool.eq_iff_iff]; simp; omega
end Go.Proofs.YtdmibdjokofclaaDoor
set_option maxRecDepth 8000
namespace Go.Proofs.YtdmibdjokofclaaDoor
open Go Go.RowKit
section
variable {ki:IntKind}
@[simp ↓] theorem zauw {s:Nat} {xs:List (List AV)} {a:Int} {H:Heap} {k:AV→Prop}:SL s (.ro xs) (some (.int ki a)) none H k=(0≤a∧a≤xs.length∧(∀ x∈xs,x.length=s)∧k (.ro (xs.drop a.toNat))):=by
  simp [SL,zbc,lohi,PURE,qk]
@[simp ↓] theorem zaux {s:Nat} {xs:List (List AV)} {b:Int} {H:Heap} {k:AV→Prop}:SL s (.ro xs) none (some (.int ki b)) H k=(0≤b∧b≤xs.length∧(∀ x∈xs,x.length=s)∧k (.ro (xs.take b.toNat))):=by
  simp [SL,zbc,lohi,PURE,qk]
end
theorem zaox {H:Heap} {g:Nat} {xs ys:List AV} {k:Heap→Prop} (h:H g=some (.row 9 xs)) (h1:xs.length=9) (h2:ys.length=9):ST 9 (.ptr g 0) (.agg ys) H k=ST 9 (.ptr g 0) (.agg ys) (H.put g (some (.row 9 ys))) k:=by
  have e:∀ o,(H.put g (some (.row 9 ys))).put g o=H.put g o:=fun o=>by
    funext x
    by_cases hx:x=g
    · subst hx; rw [Heap.put_at,Heap.put_at]
    · rw [Heap.put_ne _ _ hx,Heap.put_ne _ _ hx,Heap.put_ne _ _ hx]
  have t1:xs.drop 9=[]:=List.drop_eq_nil_of_le (by omega)
  have t2:ys.drop 9=[]:=List.drop_eq_nil_of_le (by omega)
  simp [ST,zac,h,h1,h2,Heap.apply,zba,Heap.put_at,e,t1,t2]
section
variable {a:Agt} {s:Spt} {fs:List Frm} {f:Frm}
theorem Good.val {H:Heap} {nx:Nat} (a:Agt):Good H nx (.agg a.avs) a:=by
  refine ⟨_,rfl,rfl,fun x hx => ?_,?_,fun H2 _=>zcf (fs:=a.frames) (h:=a.heap) (m:=a.permit) (.same _ (zahi _)) (.same _ (zcn (zao _)))⟩
  · simp [Agt.avs] at hx
    rcases hx with rfl | rfl | rfl | rfl | rfl | rfl | rfl | rfl | rfl <;> rfl
  · simp [Agt.avs]
set_option maxRecDepth 20000 in
set_option maxHeartbeats 1000000 in
theorem zaht (l:VM.Live a fs f) (hname:s.name.length≤maxLen) (hfacts:s.facts.length≤4611686018427387903) :
    QC Tryd.prog 30 [.agg a.avs,.agg s.avs] (.tup [.agg (VM.step a s).1.avs,.agg (VM.step a s).2.avs]):=by
  refine QC.of' fun H nx => ?_
  refine zwk _ _ H nx _ ?_
  have av:(AV.agg a.avs).cells=a.avs:=by simp
  have al:a.avs.length=9:=rfl
  have sv:(AV.agg s.avs).cells=s.avs:=by simp
  have sl:s.avs.length=4:=rfl
  have hsu:(AV.agg a.avs).sure=true:=by simp [Agt.avs]
  have hss:(AV.agg s.avs).sure=true:=by simp [Spt.avs]
  unfold zpy
  rw [av,al,sv,sl]
  refine ⟨hsu,hss,?_⟩
  have at6:a.avs[6]'(by rw [al]; omega)=.int .i64 a.permit.fuel:=rfl
  generalize hX:Heap.put _ (nx+3) _=X
  have x0:X nx=some (.row 9 a.avs):=by rw [← hX,Heap.put_ne _ _ (by omega),Heap.put_ne _ _ (by omega),Heap.put_ne _ _ (by omega),Heap.put_at]
  have x1:X (nx+1)=some (.row 4 s.avs):=by rw [← hX,Heap.put_ne _ _ (by omega),Heap.put_ne _ _ (by omega),Heap.put_at]
  have o:Outs H X nx:=⟨⟨_,by rw [← hX,Heap.put_ne _ _ (by omega),Heap.put_at],rfl⟩,⟨_,by rw [← hX,Heap.put_at],rfl⟩,fun g hg=>by rw [← hX,Heap.put_ne _ _ (by omega),Heap.put_ne _ _ (by omega),Heap.put_ne _ _ (by omega),Heap.put_ne _ _ (by omega)]⟩
  by_cases hf:a.permit.fuel=0
  · simp [x0,al,at6,hf]
    refine zaia 12 x0 rfl (fun x hx => ?_) (by omega) fun H' hk => ?_
    · simp [Agt.avs] at hx
      rcases hx with rfl | rfl | rfl | rfl | rfl | rfl | rfl | rfl | rfl <;> rfl
    · have e:VM.step a s=(a,VM.dead 12):=by unfold VM.step; rw [if_pos hf]
      rw [e]
      exact retE (n:=nx+4) (r:=(a,VM.dead 12)) (Good.val a) (o.more fun g hg _ _=>hk g hg)
  · rw [zags l hf s]
    have flen:=l.flen
    have ok:=l.ok f (by simp)
    have nw:=l.now
    have hins:=nw.at_
    have pops:=nw.pops
    have slen:=zach l
    obtain ⟨crange,_,_⟩:=(zad l.prog).1 _ (VM.code_mem ok.code)
    unfold VM.codeRange at crange
    rw [decide_eq_false_iff_not] at crange
    have hcode:=zmj ok.code
    have b1:=l.fuel
    have hat0:=ok.at0
    have hfn0:=ok.fn0
    have okv:=ok.vars
    have hfn1:f.fn < (a.prog.codes.length:Int):=by have:=ok.code; omega
    have hat1:f.at_ < ((VM.codeAt a.prog f.fn).ins.length:Int):=by have:=ok.ins; omega
    have hw1:IntKind.i64.wrap (f.at_+1)=f.at_+1:=i64w (by omega)
    have hw2:IntKind.i64.wrap (a.permit.fuel - 1)=a.permit.fuel - 1:=i64w (by omega)
    have hca:(VM.codeAt a.prog f.fn).avs=[.int .i64 (VM.codeAt a.prog f.fn).params,.int .i64 (VM.codeAt a.prog f.fn).vars,.ro ((VM.codeAt a.prog f.fn).ins.map Ins.avs)]:=rfl
    have hw3:IntKind.i64.wrap (fs.length:Int)=fs.length:=i64w (by omega)
    have hfr:=l.fr
    have hal:a.frames.length=fs.length+1:=by rw [hfr]; simp
    have hlast:a.frames[fs.length]'(by rw [hal]; omega)=f:=by
      have:a.frames[fs.length]? = some f:=by rw [hfr]; simp
      exact (List.getElem?_eq_some_iff.1 this).2
    rw [show a.avs=[.int .i64 a.id,.int .i64 a.trip,.ro (a.prog.codes.map Cod.avs),.ro (a.prog.words.map fun w=>[.str w]),.ro (a.frames.map Frm.avs),.ro (a.heap.map Cl.avs),.int .i64 a.permit.fuel,.int .i64 a.permit.room,.int .i64 a.permit.hops] from rfl] at x0
    generalize hi:VM.insAt a.prog f=i at *
    obtain ⟨iop,ia,ib⟩:=i
    have ne_0:nx ≠ nx+1∧nx+1 ≠ nx∧nx ≠ nx+2∧nx+2 ≠ nx∧nx ≠ nx+3∧nx+3 ≠ nx∧nx ≠ nx+4∧nx+4 ≠ nx∧nx ≠ nx+5∧nx+5 ≠ nx∧nx ≠ nx+6∧nx+6 ≠ nx∧nx ≠ nx+7∧nx+7 ≠ nx∧nx ≠ nx+8∧nx+8 ≠ nx∧nx ≠ nx+9∧nx+9 ≠ nx∧nx ≠ nx+10∧nx+10 ≠ nx∧nx ≠ nx+11∧nx+11 ≠ nx∧nx+1 ≠ nx+2∧nx+2 ≠ nx+1∧nx+1 ≠ nx+3∧nx+3 ≠ nx+1∧nx+1 ≠ nx+4∧nx+4 ≠ nx+1∧nx+1 ≠ nx+5∧nx+5 ≠ nx+1∧nx+1 ≠ nx+6∧nx+6 ≠ nx+1∧nx+1 ≠ nx+7∧nx+7 ≠ nx+1∧nx+1 ≠ nx+8∧nx+8 ≠ nx+1∧nx+1 ≠ nx+9∧nx+9 ≠ nx+1∧nx+1 ≠ nx+10∧nx+10 ≠ nx+1∧nx+1 ≠ nx+11∧nx+11 ≠ nx+1∧nx+2 ≠ nx+3∧nx+3 ≠ nx+2∧nx+2 ≠ nx+4∧nx+4 ≠ nx+2∧nx+2 ≠ nx+5∧nx+5 ≠ nx+2∧nx+2 ≠ nx+6∧nx+6 ≠ nx+2∧nx+2 ≠ nx+7∧nx+7 ≠ nx+2∧nx+2 ≠ nx+8∧nx+8 ≠ nx+2∧nx+2 ≠ nx+9∧nx+9 ≠ nx+2∧nx+2 ≠ nx+10∧nx+10 ≠ nx+2∧nx+2 ≠ nx+11∧nx+11 ≠ nx+2∧nx+3 ≠ nx+4∧nx+4 ≠ nx+3∧nx+3 ≠ nx+5∧nx+5 ≠ nx+3∧nx+3 ≠ nx+6∧nx+6 ≠ nx+3∧nx+3 ≠ nx+7∧nx+7 ≠ nx+3∧nx+3 ≠ nx+8∧nx+8 ≠ nx+3∧nx+3 ≠ nx+9∧nx+9 ≠ nx+3∧nx+3 ≠ nx+10∧nx+10 ≠ nx+3∧nx+3 ≠ nx+11∧nx+11 ≠ nx+3∧nx+4 ≠ nx+5∧nx+5 ≠ nx+4∧nx+4 ≠ nx+6∧nx+6 ≠ nx+4∧nx+4 ≠ nx+7∧nx+7 ≠ nx+4∧nx+4 ≠ nx+8∧nx+8 ≠ nx+4∧nx+4 ≠ nx+9∧nx+9 ≠ nx+4∧nx+4 ≠ nx+10∧nx+10 ≠ nx+4∧nx+4 ≠ nx+11∧nx+11 ≠ nx+4∧nx+5 ≠ nx+6∧nx+6 ≠ nx+5∧nx+5 ≠ nx+7∧nx+7 ≠ nx+5∧nx+5 ≠ nx+8∧nx+8 ≠ nx+5∧nx+5 ≠ nx+9∧nx+9 ≠ nx+5∧nx+5 ≠ nx+10∧nx+10 ≠ nx+5∧nx+5 ≠ nx+11∧nx+11 ≠ nx+5∧nx+6 ≠ nx+7∧nx+7 ≠ nx+6∧nx+6 ≠ nx+8∧nx+8 ≠ nx+6∧nx+6 ≠ nx+9∧nx+9 ≠ nx+6∧nx+6 ≠ nx+10∧nx+10 ≠ nx+6∧nx+6 ≠ nx+11∧nx+11 ≠ nx+6∧nx+7 ≠ nx+8∧nx+8 ≠ nx+7∧nx+7 ≠ nx+9∧nx+9 ≠ nx+7∧nx+7 ≠ nx+10∧nx+10 ≠ nx+7∧nx+7 ≠ nx+11∧nx+11 ≠ nx+7∧nx+8 ≠ nx+9∧nx+9 ≠ nx+8∧nx+8 ≠ nx+10∧nx+10 ≠ nx+8∧nx+8 ≠ nx+11∧nx+11 ≠ nx+8∧nx+9 ≠ nx+10∧nx+10 ≠ nx+9∧nx+9 ≠ nx+11∧nx+11 ≠ nx+9∧nx+10 ≠ nx+11∧nx+11 ≠ nx+10∧nx ≠ nx+12∧nx+12 ≠ nx∧nx+1 ≠ nx+12∧nx+12 ≠ nx+1∧nx+2 ≠ nx+12∧nx+12 ≠ nx+2∧nx+3 ≠ nx+12∧nx+12 ≠ nx+3∧nx+4 ≠ nx+12∧nx+12 ≠ nx+4∧nx+5 ≠ nx+12∧nx+12 ≠ nx+5∧nx+6 ≠ nx+12∧nx+12 ≠ nx+6∧nx+7 ≠ nx+12∧nx+12 ≠ nx+7∧nx+8 ≠ nx+12∧nx+12 ≠ nx+8∧nx+9 ≠ nx+12∧nx+12 ≠ nx+9∧nx+10 ≠ nx+12∧nx+12 ≠ nx+10∧nx+11 ≠ nx+12∧nx+12 ≠ nx+11:=⟨by omega,by omega,by omega,by omega,by omega,by omega,by omega,by omega,by omega,by omega,by omega,by omega,by omega,by omega,by omega,by omega,by omega,by omega,by omega,by omega,by omega,by omega,by omega,by omega,by omega,by omega,by omega,by omega,by omega,by omega,by omega,by omega,by omega,by omega,by omega,by omega,by omega,by omega,by omega,by omega,by omega,by omega,by omega,by omega,by omega,by omega,by omega,by omega,by omega,by omega,by omega,by omega,by omega,by omega,by omega,by omega,by omega,by omega,by omega,by omega,by omega,by omega,by omega,by omega,by omega,by omega,by omega,by omega,by omega,by omega,by omega,by omega,by omega,by omega,by omega,by omega,by omega,by omega,by omega,by omega,by omega,by omega,by omega,by omega,by omega,by omega,by omega,by omega,by omega,by omega,by omega,by omega,by omega,by omega,by omega,by omega,by omega,by omega,by omega,by omega,by omega,by omega,by omega,by omega,by omega,by omega,by omega,by omega,by omega,by omega,by omega,by omega,by omega,by omega,by omega,by omega,by omega,by omega,by omega,by omega,by omega,by omega,by omega,by omega,by omega,by omega,by omega,by omega,by omega,by omega,by omega,by omega,by omega,by omega,by omega,by omega,by omega,by omega,by omega,by omega,by omega,by omega,by omega,by omega,by omega,by omega,by omega,by omega,by omega,by omega,by omega,by omega,by omega,by omega,by omega,by omega⟩
    simp [x0,hf,hw1,hw2,hw3,hal,hlast,hcode,hca,hins,Ins.avs,Frm.avs,ne_0]
    refine ⟨by omega,hfn0,hfn1,hat0,hat1,?_⟩
    refine QC.call (zadx ⟨iop,ia,ib⟩) ?_
    have hbd:=zhz ⟨iop,ia,ib⟩ fun h17=>((zad l.prog).1 _ (VM.code_mem ok.code)).2.1 _ (List.mem_of_getElem? hins) h17
    obtain ⟨p,hp⟩:∃ p:Nat,(VM.effect ⟨iop,ia,ib⟩).1=p:=⟨_,(Int.toNat_of_nonneg hbd.1).symm⟩
    rw [hp] at pops
    have hpt:(VM.effect ⟨iop,ia,ib⟩).1.toNat=p:=by rw [hp]; rfl
    have hw5:IntKind.i64.wrap ((f.stack.length:Int) - p)=((f.stack.length - p:Nat):Int):=by rw [i64w (by omega)]; omega
    have srcV:∀ (H:Heap) (l:List Val),zm 3 H (.ro (l.map Val.avs))=some (l.length,rowV l,[]):=fun H l=>by rw [zcw (zbw l)]; simp [rowV]
    have srcD:∀ (H:Heap) (l:List Val) (k:Nat),zm 3 H (.ro ((l.map Val.avs).drop k))=some (l.length - k,rowV (l.drop k),[]):=fun H l k=>by rw [← List.map_drop,srcV,List.length_drop]
    have srcT:∀ (H:Heap) (l:List Val) (k:Nat),zm 3 H (.ro ((l.map Val.avs).take k))=some (min k l.length,rowV (l.take k),[]):=fun H l k=>by rw [← List.map_take,srcV,List.length_take]
    have al3:=zbw f.stack
    simp [znz,hp,hw5,srcV,srcD,srcT,ne_0]
    have om:∀ l:List Val,∀ x∈rowV l,x.one=true:=fun l x hx=>zae (zbq l x hx)
    refine ⟨om _,by omega,om _,by omega,om _,by omega,?_⟩
    generalize hY:Heap.put _ (nx+4) _=Y
    have yk:∀ g,g < nx+4→g ≠ nx→Y g=X g:=fun g h1 h2=>by
      rw [← hY]; repeat rw [Heap.put_ne _ _ (by omega)]
    have y0:Y nx=some (.row 9 (zc a.id a.trip a.prog (.ro (a.frames.map Frm.avs)) (.ro (a.heap.map Cl.avs)) { a.permit with fuel:=a.permit.fuel - 1 })):=by
      rw [← hY,Heap.put_ne _ _ (by omega),Heap.put_ne _ _ (by omega),Heap.put_ne _ _ (by omega),Heap.put_ne _ _ (by omega),Heap.put_ne _ _ (by omega),Heap.put_ne _ _ (by omega),Heap.put_ne _ _ (by omega),Heap.put_ne _ _ (by omega),Heap.put_ne _ _ (by omega),Heap.put_ne _ _ (by omega),Heap.put_ne _ _ (by omega),Heap.put_at]; rfl
    have y4:Y (nx+4)=some (.row 4 [.int .i64 f.fn,.int .i64 (f.at_+1),.slc (nx+11) 0 f.vars.length,.slc (nx+9) 0 (f.stack.length - p)]):=by rw [← hY,Heap.put_at]
    have y5:Y (nx+5)=some (.row 3 [.int .i64 iop,.int .i64 ia,.int .i64 ib]):=by
      rw [← hY,Heap.put_ne _ _ (by omega),Heap.put_ne _ _ (by omega),Heap.put_ne _ _ (by omega),Heap.put_ne _ _ (by omega),Heap.put_ne _ _ (by omega),Heap.put_ne _ _ (by omega),Heap.put_ne _ _ (by omega),Heap.put_ne _ _ (by omega),Heap.put_ne _ _ (by omega),Heap.put_at]
    have y7:Y (nx+7)=some (.row 3 (rowV (f.stack.drop (f.stack.length - p)))):=by
      rw [← hY,Heap.put_ne _ _ (by omega),Heap.put_ne _ _ (by omega),Heap.put_ne _ _ (by omega),Heap.put_ne _ _ (by omega),Heap.put_ne _ _ (by omega),Heap.put_ne _ _ (by omega),Heap.put_at]
    have y9:Y (nx+9)=some (.row 3 (rowV (VM.low p f.stack))):=by
      rw [← hY,Heap.put_ne _ _ (by omega),Heap.put_ne _ _ (by omega),Heap.put_ne _ _ (by omega),Heap.put_ne _ _ (by omega),Heap.put_at]; rfl
    have y11:Y (nx+11)=some (.row 3 (rowV f.vars)):=by
      rw [← hY,Heap.put_ne _ _ (by omega),Heap.put_at]
    have cp:zeg Y (nx+12) 4 (fs.length+1) ((a.frames.map Frm.avs).flatten) (.ro (a.frames.map Frm.avs)):=by rw [← hal]; exact zxk a.frames
    refine zvv (va:=.slc (nx+11) 0 f.vars.length) (sa:=.slc (nx+9) 0 (f.stack.length - p)) (ha:=.ro (a.heap.map Cl.avs)) (m:={ a.permit with fuel:=a.permit.fuel - 1 }) cp (by omega) ⟨rfl,rfl,rfl⟩ ⟨rfl,rfl⟩ ⟨rfl,rfl⟩ fun H' n' g' h1 h2 kp hr => ?_
    rw [hfr,zaag] at hr
    generalize hin:f.stack.drop (f.stack.length - p)=ins at *
    have hil:ins.length=f.stack.length - (f.stack.length - p):=by rw [← hin,List.length_drop]
    have q0:=(kp nx (by omega)).trans y0
    generalize hH:H'.put nx (some (.row 9 (zc a.id a.trip a.prog (.slc g' 0 (fs.length+1)) (.ro (a.heap.map Cl.avs)) { a.permit with fuel:=a.permit.fuel - 1 })))=HH
    have hk:∀ g,g ≠ nx→HH g=H' g:=fun g hg=>by rw [← hH,Heap.put_ne _ _ hg]
    have R:VSt H HH nx n' g' { a with permit:={ a.permit with fuel:=a.permit.fuel - 1 } } s fs { f with at_:=f.at_+1,stack:=VM.low (VM.effect ⟨iop,ia,ib⟩).1.toNat f.stack } ins ⟨iop,ia,ib⟩:=by
      rw [hpt]
      have ll:(VM.low p f.stack).length=f.stack.length - p:=VM.low_len p f.stack
      refine ⟨o.more fun g hg e1 e2=>by rw [hk g e1,kp g (by omega),yk g hg e1],by rw [← hH,Heap.put_at],?_,?_,?_,?_,?_,?_,?_,⟨h1,h2⟩,by omega,by simp only; omega⟩
      · rw [hk _ (by omega),kp _ (by omega),yk _ (by omega) (by omega)]; exact x1
      · rw [hk _ (by omega),kp _ (by omega)]; simp only [ll]; exact y4
      · rw [hk _ (by omega),kp _ (by omega)]; exact y5
      · rw [hk _ (by omega)]; simp only [ll]; exact hr
      · rw [hk _ (by omega),kp _ (by omega)]; exact y11
      · rw [hk _ (by omega),kp _ (by omega)]; exact y9
      · rw [hk _ (by omega),kp _ (by omega)]; exact y7
    have:=zale l hname hfacts hi.symm rfl rfl (by rw [hpt,hin]) R
    unfold Then zi at this
    rw [hil,← hH,← zaox q0 rfl rfl] at this
    exact this
end
end Go.Proofs.YtdmibdjokofclaaDoor
set_option maxRecDepth 8000
namespace Go.Proofs.YtdmibdjokofclaaDoor
open Go Go.RowKit
theorem zaef (l:List Spt) (t:Str) (hl:l.length≤4611686018427387903):QC Tryd.prog 7 [.ro (Ply l),.str t] (.int .i64 (VM.find l t)):=by
  refine QC.of' fun H nx=>zwi _ _ H nx _ ?_
  have hpl:(Ply l).length=l.length:=by simp [Ply]
  simp [zpw,hpl]
  refine LP.mk (fun j xs H' n'=>∃ i:Nat,i+j=l.length∧xs=[.str t,.ro (Ply l),.int .i64 l.length,.int .i64 i]∧nx≤n'∧Keep nx H' H∧VM.find l t=VM.findGo t (l.drop i) i) l.length ⟨0,by omega,rfl,Nat.le_refl _,fun _ _=>rfl,rfl⟩ ?_
  rintro j xs H' n' ⟨i,hi,rfl,hn,hk,hno⟩
  cases j with
  | zero =>
    obtain rfl:i=l.length:=by omega
    rw [List.drop_length] at hno
    have hq:VM.find l t = -1:=hno
    simp [zfx,hq,hk]
  | succ j =>
    have hlt:i < l.length:=by omega
    rw [List.drop_eq_getElem_cons hlt] at hno
    have hg':(Ply l)[i]'(by rw [hpl]; exact hlt)=l[i].avs:=by simp [Ply]
    generalize l[i]=s at *
    have hw:IntKind.i64.wrap ((i:Int)+1)=((i+1:Nat):Int):=by rw [i64w (by omega)]; rfl
    have kp:∀ o,Keep nx (H'.put n' o) H:=fun o y hy=>by rw [Heap.put_ne _ _ (by omega)]; exact hk y hy
    unfold VM.findGo at hno
    by_cases e:s.name=t
    · rw [if_pos e] at hno
      simp [zfx,hlt,hpl,hg',Spt.avs,e,hno,kp]
    · rw [if_neg e] at hno
      simp [zfx,hlt,hpl,hg',Spt.avs,e,hw]
      exact ⟨j,by omega,i+1,by omega,rfl,by omega,kp _,hno⟩
theorem zzw (m:Pmt):QC Tryd.prog 9 [.agg [.int .i64 m.fuel,.int .i64 m.room,.int .i64 m.hops]] (.int .i64 (VM.permitErr m)):=by
  refine QC.of' fun H nx=>ztd _ H nx _ ?_
  have e:VM.permitErr m=if m.fuel < 0 then 3 else if m.room < 0 then 3 else if m.hops < 0 then 3 else if 2000 < m.fuel then 3 else if 60 < m.room then 3 else if 12 < m.hops then 3 else 0:=by
    unfold VM.permitErr
    repeat' split
    all_goals first | rfl | (exfalso; omega)
  rw [e]
  simp [zml]
  repeat' split
  all_goals simp_all
  all_goals omega
set_option maxRecDepth 20000 in
set_option maxHeartbeats 4000000 in
theorem zajf {l:List Spt} {i L:Nat} {s:Spt} {H0 H:Heap} {nx n:Nat} {Q:QT} {K6:J3} (hi:i < 4) (hnx:nx≤n) (hf:s.facts.length≤4) (hk:Keep nx H H0)
    (hbad:s.facts.any VM.badFact=true→∀ H' n',Keep nx H' H0→Q (.tup [.int .i64 11,.int .i64 i]) H' n')
    (hok:s.facts.any VM.badFact=false→∀ H' n',nx≤n'→Keep nx H' H0→K6 [.ro (Ply l),.ro (Ply l),.int .i64 L,.int .i64 ((i+1:Nat):Int)] H' n') :
    LP (zde Q K6) [.ro (Ply l),.int .i64 i,.ro (Ply l),.int .i64 L,.int .i64 i,.ro (s.facts.map fun x=>.str x.key :: x.val.avs),.int .i64 s.facts.length,.int .i64 0] H n:=by
  refine LP.mk (fun k xs H' n'=>∃ j:Nat,k=s.facts.length - j∧j≤s.facts.length∧xs=[.ro (Ply l),.int .i64 i,.ro (Ply l),.int .i64 L,.int .i64 i,.ro (s.facts.map fun x=>.str x.key :: x.val.avs),.int .i64 s.facts.length,.int .i64 j]∧nx≤n'∧Keep nx H' H0∧s.facts.any VM.badFact=(s.facts.drop j).any VM.badFact) s.facts.length ⟨0,by omega,by omega,rfl,hnx,hk,rfl⟩ ?_
  rintro k xs H' n' ⟨j,rfl,hj,rfl,hn,hk',ha⟩
  have hai:IntKind.i64.wrap ((i:Int)+1)=((i+1:Nat):Int):=by rw [i64w (by omega)]; rfl
  by_cases hlt:j < s.facts.length
  · have hadd:IntKind.i64.wrap ((j:Int)+1)=((j+1:Nat):Int):=by rw [i64w (by omega)]; rfl
    have hst:=zafo (p:=VM.badFact) (List.getElem?_eq_getElem hlt)
    generalize hcc:s.facts[j]=c at *
    have kp:∀ o,Keep nx (H'.put n' o) H0:=fun o y hy=>by rw [Heap.put_ne _ _ (by omega)]; exact hk' y hy
    have bad:VM.badFact c=true→s.facts.any VM.badFact=true:=fun h=>by rw [ha,hst,h]; rfl
    by_cases h1:(60:Int) < c.key.length
    · simp [zde,hlt,hcc,Val.avs,h1]
      have h1n:60 < c.key.length:=by omega
      exact hbad (bad (by unfold VM.badFact; simp [h1n])) _ _ (kp _)
    simp [zde,hlt,hcc,Val.avs,h1]
    refine QC.call (zow c.val 0) ?_
    by_cases hw:VM.wrong c.val 0=0
    · simp [zid,hw,hadd]
      refine ⟨s.facts.length - (j+1),by omega,j+1,by omega,by omega,rfl,by omega,kp _,?_⟩
      rw [ha,hst]
      have:VM.badFact c=false:=by unfold VM.badFact; simp [hw]; omega
      rw [this]; rfl
    · simp [zid,hw]
      exact hbad (bad (by unfold VM.badFact; simp [hw])) _ _ (kp _)
  · obtain rfl:j=s.facts.length:=by omega
    rw [List.drop_length] at ha
    simp [zde,hai]
    exact hok ha _ _ hn hk'
set_option maxRecDepth 20000 in
set_option maxHeartbeats 4000000 in
theorem zaje {l:List Spt} {i L:Nat} {s:Spt} {H0 H:Heap} {nx p n:Nat} {Q:QT} {K6:J3} {b0:Bool} (hi:i < 4) (hil:i≤l.length) (hnx:nx≤p) (hpn:p < n) (hk:Keep nx H H0) (hp:H p=some (.row 4 [.str s.name,.ro (s.facts.map fun x=>.str x.key :: x.val.avs),.int .i64 s.fuel,.int .i64 s.cells]))
    (hb0:b0=true↔s.name.length < 1∨12 < s.name.length)
    (hbad:∀ e,VM.spotErr (l.take i) s=e→e ≠ 0→∀ H' n',Keep nx H' H0→Q (.tup [.int .i64 e,.int .i64 i]) H' n')
    (hok:VM.spotErr (l.take i) s=0→∀ H' n',nx≤n'→Keep nx H' H0→K6 [.ro (Ply l),.ro (Ply l),.int .i64 L,.int .i64 ((i+1:Nat):Int)] H' n') :
    LP (zaj Q K6) [.ro (Ply l),.int .i64 i,.ptr p 0,.bool b0,.ro (Ply l),.int .i64 L,.int .i64 i,.ro (Ply (l.take i)),.int .i64 i,.int .i64 0] H n:=by
  have hml:(l.take i).length=i:=by rw [List.length_take]; omega
  refine LP.mk (fun k xs H' n'=>∃ (j:Nat),k=i - j∧j≤i∧xs=[.ro (Ply l),.int .i64 i,.ptr p 0,.bool (b0 || ((l.take i).take j).any fun x=>decide (x.name=s.name)),.ro (Ply l),.int .i64 L,.int .i64 i,.ro (Ply (l.take i)),.int .i64 i,.int .i64 j]∧p < n'∧Keep nx H' H0∧H' p=H p) i ⟨0,by omega,by omega,by simp,hpn,hk,rfl⟩ ?_
  rintro k xs H' n' ⟨j,rfl,hj,rfl,hn,hk',hpp⟩
  rw [hp] at hpp
  generalize l.take i=m at *
  have hpm:(Ply m).length=i:=by simp [Ply,hml]
  by_cases hlt:j < i
  · have hadd:IntKind.i64.wrap ((j:Int)+1)=((j+1:Nat):Int):=by rw [i64w (by omega)]; rfl
    have hjm:j < m.length:=by omega
    have hg':(Ply m)[j]'(by rw [hpm]; exact hlt)=m[j].avs:=by simp [Ply]
    have ht:m.take (j+1)=m.take j ++ [m[j]]:=List.take_succ_eq_append_getElem hjm
    generalize m[j]=t at *
    have kp:∀ o,Keep nx (H'.put n' o) H0:=fun o y hy=>by rw [Heap.put_ne _ _ (by omega)]; exact hk' y hy
    have pn:¬ p=n'∧¬ n'=p:=by omega
    suffices key:∀ K19:J3,(∀ (b:Bool) (H2:Heap),b=(b0 || (m.take (j+1)).any fun x=>decide (x.name=s.name))→Keep nx H2 H0→H2 p=H' p→K19 [.ro (Ply l),.int .i64 i,.ptr p 0,.bool b,.ro (Ply l),.int .i64 L,.int .i64 i,.ro (Ply m),.int .i64 i,.int .i64 ((j+1:Nat):Int)] H2 (n'+1)) →
        zaj Q K6 K19 [.ro (Ply l),.int .i64 i,.ptr p 0,.bool (b0 || (m.take j).any fun x=>decide (x.name=s.name)),.ro (Ply l),.int .i64 L,.int .i64 i,.ro (Ply m),.int .i64 i,.int .i64 j] H' n' from
      key _ fun b H2 hb h2 h3=>⟨i - (j+1),by omega,j+1,rfl,by omega,by rw [hb],by omega,h2,by rw [h3,hpp,hp]⟩
    intro K19 hK
    have kpp:∀ o,(H'.put n' o) p=H' p:=fun o=>Heap.put_ne _ _ (by omega)
    cases hb:(b0 || (m.take j).any fun x=>decide (x.name=s.name)) with
    | true =>
      have e2:true=(b0 || (m.take (j+1)).any fun x=>decide (x.name=s.name)):=by rw [ht,List.any_append,← Bool.or_assoc,hb]; rfl
      simp [zaj,hlt,hpm,hg',Spt.avs,hadd]
      exact hK true _ e2 (kp _) (kpp _)
    | false =>
      have e2:decide (t.name=s.name)=(b0 || (m.take (j+1)).any fun x=>decide (x.name=s.name)):=by rw [ht,List.any_append,← Bool.or_assoc,hb]; simp
      simp [zaj,hlt,hpm,hg',Spt.avs,hadd,hpp,pn]
      exact hK _ _ e2 (kp _) (kpp _)
  · obtain rfl:j=i:=by omega
    rw [List.take_of_length_le (by omega)]
    have hbn:(b0 || m.any fun x=>decide (x.name=s.name))=true↔VM.badName m s:=by
      unfold VM.badName
      rw [Bool.or_eq_true,hb0,or_assoc]
    cases hb:(b0 || m.any fun x=>decide (x.name=s.name)) with
    | true =>
      simp [zaj]
      exact hbad 7 (by unfold VM.spotErr; rw [if_pos (hbn.1 hb)]) (by decide) _ _ hk'
    | false =>
      have nb:¬ VM.badName m s:=fun h=>by rw [hbn.2 h] at hb; cases hb
      have x2:VM.spotErr m s=if s.fuel < 0∨2000 < s.fuel∨s.cells < 0∨60 < s.cells then 3 else if 4 < s.facts.length then 5 else if s.facts.any VM.badFact=true then 11 else 0:=by unfold VM.spotErr; rw [if_neg nb]
      by_cases c1:s.fuel < 0
      · simp [zaj,hpp,c1]
        exact hbad 3 (by rw [x2,if_pos (by omega)]) (by decide) _ _ hk'
      by_cases c2:2000 < s.fuel
      · simp [zaj,hpp,c1,c2]
        exact hbad 3 (by rw [x2,if_pos (by omega)]) (by decide) _ _ hk'
      by_cases c3:s.cells < 0
      · simp [zaj,hpp,c1,c2,c3]
        exact hbad 3 (by rw [x2,if_pos (by omega)]) (by decide) _ _ hk'
      by_cases c4:60 < s.cells
      · simp [zaj,hpp,c1,c2,c3,c4]
        exact hbad 3 (by rw [x2,if_pos (by omega)]) (by decide) _ _ hk'
      rw [if_neg (by omega)] at x2
      by_cases c5:(4:Int) < s.facts.length
      · simp [zaj,hpp,c1,c2,c3,c4,c5]
        exact hbad 5 (by rw [x2,if_pos (by omega)]) (by decide) _ _ hk'
      rw [if_neg (by omega)] at x2
      simp [zaj,hpp,c1,c2,c3,c4,c5]
      refine zajf (s:=s) (nx:=nx) (by omega) (by omega) (by omega) hk' (fun h=>hbad 11 (by rw [x2,if_pos h]) (by decide)) fun h=>hok (by rw [x2,if_neg (by rw [h]; simp)])
end Go.Proofs.YtdmibdjokofclaaDoor
set_option maxRecDepth 8000
namespace Go.Proofs.YtdmibdjokofclaaDoor
open Go Go.RowKit
set_option maxRecDepth 20000 in
set_option maxHeartbeats 4000000 in
theorem zacl (l:List Spt) (hfl:∀ s∈l,s.facts.length≤4611686018427387903):QC Tryd.prog 5 [.ro (Ply l)] (.tup [.int .i64 (VM.spotsWrong l).1,.int .i64 (VM.spotsWrong l).2]):=by
  refine QC.of' fun H nx => ?_
  suffices main:∀ Q:AV→Heap→Nat→Prop,(∀ r H' n',r=VM.spotsWrong l→Keep nx H' H→Q (.tup [.int .i64 r.1,.int .i64 r.2]) H' n')→za Tryd.prog 5 [.ro (Ply l)] H nx Q from
    main _ fun r H' n' hr h=>⟨by rw [hr]; exact FL.tup (.cons (.same _ (.int _ _)) (.cons (.same _ (.int _ _)) .nil)),h⟩
  intro Q hQ
  refine ztm _ H nx _ ?_
  have hpl:(Ply l).length=l.length:=by simp [Ply]
  by_cases h1:l.length < 1
  · have e:VM.spotsWrong l=(5,-1):=by unfold VM.spotsWrong; rw [if_pos (by omega)]
    have g1:(l.length:Int)=0:=by omega
    simp only [zfg,zqm,hpl,zaao,g1,decide_true,zaoc]
    exact hQ (5,-1) _ _ (by rw [e]) fun _ _=>rfl
  by_cases h2:4 < l.length
  · have e:VM.spotsWrong l=(5,-1):=by unfold VM.spotsWrong; rw [if_pos (by omega)]
    have g1:¬ (l.length:Int)=0:=by omega
    have g2:(4:Int) < l.length:=by omega
    simp only [zfg,zqm,hpl,zaao,zaan,g1,g2,decide_true,decide_false,zadm,zafe]
    exact hQ (5,-1) _ _ (by rw [e]) fun _ _=>rfl
  have e0:VM.spotsWrong l=VM.spotsGo [] l:=by unfold VM.spotsWrong; rw [if_neg (by omega)]
  have g1:¬ (l.length:Int)=0:=by omega
  have g2:¬ (4:Int) < l.length:=by omega
  simp only [zfg,zqm,hpl,zaao,zaan,g1,g2,decide_false,zadm,zaak]
  refine LP.mk (fun k xs H' n'=>∃ i:Nat,k=l.length - i∧i≤l.length∧xs=[.ro (Ply l),.ro (Ply l),.int .i64 l.length,.int .i64 i]∧nx≤n'∧Keep nx H' H∧VM.spotsWrong l=VM.spotsGo (l.take i) (l.drop i)) l.length ⟨0,by omega,by omega,rfl,Nat.le_refl _,fun _ _=>rfl,by rw [e0]; rfl⟩ ?_
  rintro k xs H' n' ⟨i,rfl,hi,rfl,hn,hk,hw⟩
  by_cases hlt:i < l.length
  case neg =>
    obtain rfl:i=l.length:=by omega
    rw [List.drop_length] at hw
    simp [zdd]
    exact hQ (0,-1) _ _ (by rw [hw]; rfl) hk
  suffices key:∀ K6:J3,(∀ H' n',nx≤n'→Keep nx H' H→VM.spotsWrong l=VM.spotsGo (l.take (i+1)) (l.drop (i+1))→K6 [.ro (Ply l),.ro (Ply l),.int .i64 l.length,.int .i64 ((i+1:Nat):Int)] H' n')→zdd Q K6 [.ro (Ply l),.ro (Ply l),.int .i64 l.length,.int .i64 i] H' n' from
    key _ fun H2 n2 q1 q2 q3=>⟨l.length - (i+1),by omega,i+1,by omega,by omega,rfl,q1,q2,q3⟩
  intro K6 hK6
  rw [List.drop_eq_getElem_cons hlt] at hw
  have ht:l.take (i+1)=l.take i ++ [l[i]]:=List.take_succ_eq_append_getElem hlt
  have hfi:=hfl l[i] (List.getElem_mem hlt)
  have hg':(Ply l)[i]'(by rw [hpl]; exact hlt)=l[i].avs:=by simp [Ply]
  generalize l[i]=s at *
  have he:VM.spotsWrong l=if VM.spotErr (l.take i) s ≠ 0 then (VM.spotErr (l.take i) s,(i:Int)) else VM.spotsGo (l.take (i+1)) (l.drop (i+1)):=by
    rw [hw,ht]
    show (if VM.spotErr (l.take i) s ≠ 0 then (VM.spotErr (l.take i) s,((l.take i).length:Int)) else _)=_
    rw [List.length_take,Nat.min_eq_left (by omega)]
  have fin:∀ {e:Int},VM.spotErr (l.take i) s=e→e ≠ 0→∀ H' n',Keep nx H' H→Q (.tup [.int .i64 e,.int .i64 i]) H' n':=fun {e} h1 h2 H' n' h3=>hQ (e,(i:Int)) _ _ (by rw [he,h1,if_pos h2]) h3
  have kp:∀ o,Keep nx (H'.put n' o) H:=fun o y hy=>by rw [Heap.put_ne _ _ (by omega)]; exact hk y hy
  have et:(Ply l).take i=Ply (l.take i):=by simp [Ply,List.map_take]
  have pl2:(Ply (l.take i)).length=i:=by simp [Ply]; omega
  have y0:(H'.put n' (some (.row 4 [.str s.name,.ro (s.facts.map fun x=>.str x.key :: x.val.avs),.int .i64 s.fuel,.int .i64 s.cells]))) n'=some (.row 4 [.str s.name,.ro (s.facts.map fun x=>.str x.key :: x.val.avs),.int .i64 s.fuel,.int .i64 s.cells]):=Heap.put_at _ _ _
  have go:∀ b0:Bool,(b0=true↔s.name.length < 1∨12 < s.name.length)→LP (zaj Q K6) [.ro (Ply l),.int .i64 i,.ptr n' 0,.bool b0,.ro (Ply l),.int .i64 l.length,.int .i64 i,.ro (Ply (l.take i)),.int .i64 i,.int .i64 0] (H'.put n' (some (.row 4 [.str s.name,.ro (s.facts.map fun x=>.str x.key :: x.val.avs),.int .i64 s.fuel,.int .i64 s.cells]))) (n'+1):=fun b0 hb0 =>
    zaje (s:=s) (nx:=nx) (p:=n') (by omega) (by omega) hn (by omega) (kp _) y0 hb0 (fun e h1 h2=>fin h1 h2) fun h H2 n2 q1 q2=>hK6 H2 n2 q1 q2 (by rw [he,h]; simp)
  by_cases b1:s.name=[]
  · have hb:=go true (by rw [b1]; simp)
    rw [b1] at hb
    simp [zdd,hlt,hpl,hg',Spt.avs,b1]
    refine ⟨by omega,zabk l,?_⟩
    rw [et,Nat.min_eq_left (by omega)]
    exact hb
  · have hb:=go (decide ((12:Int) < s.name.length)) (by
      rw [decide_eq_true_iff]
      have:¬ s.name.length < 1:=fun h=>b1 (List.eq_nil_of_length_eq_zero (by omega))
      omega)
    simp [zdd,hlt,hpl,hg',Spt.avs,b1]
    refine ⟨by omega,zabk l,?_⟩
    rw [et,Nat.min_eq_left (by omega)]
    exact hb
end Go.Proofs.YtdmibdjokofclaaDoor
set_option maxRecDepth 8000
namespace Go.Proofs.YtdmibdjokofclaaDoor
open Go Go.RowKit
def zbe (o:List Nat) (N:Nat):List AV:=(List.range N).map fun n=>.int .i64 (if n∈o then (o.idxOf n:Int) else -1)
@[simp] theorem zaqi (o:List Nat) (N:Nat):(zbe o N).length=N:=by simp [zbe]
theorem zez {o:List Nat} {N n:Nat} (h:n < N):(zbe o N)[n]? = some (.int .i64 (if n∈o then (o.idxOf n:Int) else -1)):=by simp [zbe,h]
theorem zaej {o:List Nat} {N m:Nat} (hm:m < N) (hn:m∉o):(zbe o N).take m ++ AV.int .i64 o.length :: (zbe o N).drop (m+1)=zbe (o ++ [m]) N:=by
  have e:(zbe o N).take m ++ AV.int .i64 o.length :: (zbe o N).drop (m+1)=(zbe o N).set m (.int .i64 o.length):=by
    rw [List.set_eq_take_append_cons_drop,if_pos (by simpa using hm)]
  rw [e]
  apply List.ext_getElem?
  intro n
  by_cases hN:n < N
  · rw [zez hN]
    by_cases hnm:n=m
    · subst hnm
      rw [List.getElem?_set_self (by simpa using hm)]
      simp [hn,List.idxOf_append]
    · rw [List.getElem?_set_ne (fun h=>hnm h.symm),zez hN]
      by_cases ho:n∈o
      · simp [ho,List.idxOf_append]
      · simp [ho,hnm]
  · rw [List.getElem?_eq_none (by simp; omega),List.getElem?_eq_none (by simp; omega)]
structure zadn (H:Heap) (gp go gpl gr N:Nat) (o:List Nat):Prop where
  p:H gp=some (.row 1 [.slc gpl 0 N])
  pl:H gpl=some (.row 1 (zbe o N))
  oo:H go=some (.row 1 [if o=[] then .nils else .slc gr 0 o.length])
  rr:o ≠ []→H gr=some (.row 1 (zbb o))
  d1:gp ≠ go
  d2:gp ≠ gpl
  d3:go ≠ gpl
  d4:o ≠ []→gr ≠ gp∧gr ≠ go∧gr ≠ gpl
theorem zajj (v:Val) (o:List Nat) (N:Nat) (hv:VM.WrongOk v N) (hin:VM.In o v) {H:Heap} {nx gp gpl:Nat} (h1:H gp=some (.row 1 [.slc gpl 0 N])) (h2:H gpl=some (.row 1 (zbe o N))) (l1:gp < nx) (l2:gpl < nx) :
    za Tryd.prog 71 [.agg v.avs,.ptr gp 0] H nx fun r H' _=>r=.agg (VM.put o v).avs∧Keep nx H' H:=by
  refine zqu _ _ H nx _ ?_
  have n0:gp ≠ nx∧gpl ≠ nx∧nx ≠ nx+1∧gp ≠ nx+1∧gpl ≠ nx+1:=by omega
  by_cases hk:v.kind=2
  · obtain ⟨c1,c2⟩:=hv.cell hk
    have hm:=hin hk
    have hlt:v.n.toNat < N:=by omega
    have e1:(VM.put o v).kind=2:=by unfold VM.put; rw [if_pos hk]; exact hk
    have e2:(VM.put o v).n=(o.idxOf v.n.toNat:Nat):=by unfold VM.put; rw [if_pos hk]
    have e3:(VM.put o v).text=v.text:=by unfold VM.put; rw [if_pos hk]
    simp [zgj,Val.avs,hk,n0,h1,h2,e1,e2,e3,zez hlt,hm]
    omega
  · have e:VM.put o v=v:=by unfold VM.put; rw [if_neg hk]
    simp [zgj,Val.avs,hk,n0,e]
theorem zapg (v:Val) (o:List Nat) (N:Nat) (hv:VM.WrongOk v N) (ho:(o.length+1)*8≤140737488355328) {H:Heap} {nx gp go gpl gr:Nat} (st:zadn H gp go gpl gr N o) (l1:gp < nx) (l2:go < nx) (l3:gpl < nx) (lr:o ≠ []→gr < nx) :
    za Tryd.prog 70 [.agg v.avs,.ptr gp 0,.ptr go 0] H nx fun r H' nx'=>r=.tup []∧nx≤nx'∧∃ gr',zadn H' gp go gpl gr' N (VM.meet o v)∧(VM.meet o v ≠ []→gr' < nx'∧((o ≠ []∧gr'=gr)∨nx≤gr')) ∧
      ∀ g,g < nx→g ≠ gpl→g ≠ go→(o ≠ []→g ≠ gr)→H' g=H g:=by
  refine zqv _ _ _ H nx _ ?_
  obtain ⟨s1,s2,s3,s4,d1,d2,d3,d4⟩:=st
  have n0:gp ≠ nx∧gpl ≠ nx∧go ≠ nx∧gp ≠ nx+1∧gpl ≠ nx+1∧go ≠ nx+1∧nx ≠ nx+1:=by omega
  have same:VM.meet o v=o→∃ gr',zadn (H.put nx (some (.row 3 v.avs))) gp go gpl gr' N (VM.meet o v)∧(VM.meet o v ≠ []→gr' < nx+1∧((o ≠ []∧gr'=gr)∨nx≤gr'))∧∀ g,g < nx→g ≠ gpl→g ≠ go→(o ≠ []→g ≠ gr)→(H.put nx (some (.row 3 v.avs))) g=H g:=by
    intro e
    rw [e]
    refine ⟨gr,⟨by rw [Heap.put_ne _ _ (by omega)]; exact s1,by rw [Heap.put_ne _ _ (by omega)]; exact s2,by rw [Heap.put_ne _ _ (by omega)]; exact s3,fun h=>by rw [Heap.put_ne _ _ (by have:=lr h; omega)]; exact s4 h,d1,d2,d3,d4⟩,fun h=>⟨by have:=lr h; omega,.inl ⟨h,rfl⟩⟩,fun g hg _ _ _=>Heap.put_ne _ _ (by omega)⟩
  by_cases hk:v.kind=2
  · obtain ⟨c1,c2⟩:=hv.cell hk
    obtain ⟨k,n,s⟩:=v
    simp only at hk c1 c2
    subst hk
    obtain ⟨m,rfl⟩:∃ m:Nat,n=m:=⟨n.toNat,by omega⟩
    have hlt:m < N:=by omega
    by_cases hm:m∈o
    · have e:VM.meet o ⟨2,m,s⟩=o:=znh (by simp [hm])
      have nn:¬ ((o.idxOf m:Nat):Int) < 0:=by omega
      simp [zcl,Val.avs,n0,s1,s2,zez hlt,hm,nn]
      have:=same e
      simp [Val.avs] at this
      exact ⟨hlt,this⟩
    · have e:VM.meet o ⟨2,m,s⟩=o ++ [m]:=zju (by simp [hm])
      have ps:=zaej hlt hm
      rw [e]
      by_cases h0:o=[]
      · subst h0
        simp at s3
        have ne_0:gp ≠ go∧go ≠ gp∧gp ≠ gpl∧gpl ≠ gp∧gp ≠ nx∧nx ≠ gp∧go ≠ gpl∧gpl ≠ go∧go ≠ nx∧nx ≠ go∧gpl ≠ nx∧nx ≠ gpl∧gp ≠ nx+1∧nx+1 ≠ gp∧gp ≠ nx+2∧nx+2 ≠ gp∧gp ≠ nx+3∧nx+3 ≠ gp∧go ≠ nx+1∧nx+1 ≠ go∧go ≠ nx+2∧nx+2 ≠ go∧go ≠ nx+3∧nx+3 ≠ go∧gpl ≠ nx+1∧nx+1 ≠ gpl∧gpl ≠ nx+2∧nx+2 ≠ gpl∧gpl ≠ nx+3∧nx+3 ≠ gpl∧nx ≠ nx+1∧nx+1 ≠ nx∧nx ≠ nx+2∧nx+2 ≠ nx∧nx ≠ nx+3∧nx+3 ≠ nx:=⟨by omega,by omega,by omega,by omega,by omega,by omega,by omega,by omega,by omega,by omega,by omega,by omega,by omega,by omega,by omega,by omega,by omega,by omega,by omega,by omega,by omega,by omega,by omega,by omega,by omega,by omega,by omega,by omega,by omega,by omega,by omega,by omega,by omega,by omega,by omega,by omega⟩
        simp [zcl,Val.avs,n0,s1,s2,s3,zez hlt,hm,ne_0]
        refine ⟨hlt,by omega,by omega,nx+2,⟨?_,?_,?_,fun _ => ?_,d1,d2,d3,fun _=>by omega⟩,by omega,fun g hg a b => ?_⟩
        · simp [ne_0,s1]
        · simp [ne_0]; simpa using ps
        · simp [ne_0]
        · simp [ne_0,zbb]
        · repeat rw [if_neg (by omega)]
      · have r4:=d4 h0
        have lr':=lr h0
        rw [if_neg h0] at s3
        have s4':=s4 h0
        have ne_1:gr ≠ gp∧gp ≠ gr∧gr ≠ go∧go ≠ gr∧gr ≠ gpl∧gpl ≠ gr∧gr ≠ nx∧nx ≠ gr∧gp ≠ go∧go ≠ gp∧gp ≠ gpl∧gpl ≠ gp∧gp ≠ nx∧nx ≠ gp∧go ≠ gpl∧gpl ≠ go∧go ≠ nx∧nx ≠ go∧gpl ≠ nx∧nx ≠ gpl∧gr ≠ nx+1∧nx+1 ≠ gr∧gr ≠ nx+2∧nx+2 ≠ gr∧gr ≠ nx+3∧nx+3 ≠ gr∧gp ≠ nx+1∧nx+1 ≠ gp∧gp ≠ nx+2∧nx+2 ≠ gp∧gp ≠ nx+3∧nx+3 ≠ gp∧go ≠ nx+1∧nx+1 ≠ go∧go ≠ nx+2∧nx+2 ≠ go∧go ≠ nx+3∧nx+3 ≠ go∧gpl ≠ nx+1∧nx+1 ≠ gpl∧gpl ≠ nx+2∧nx+2 ≠ gpl∧gpl ≠ nx+3∧nx+3 ≠ gpl∧nx ≠ nx+1∧nx+1 ≠ nx∧nx ≠ nx+2∧nx+2 ≠ nx∧nx ≠ nx+3∧nx+3 ≠ nx:=⟨by omega,by omega,by omega,by omega,by omega,by omega,by omega,by omega,by omega,by omega,by omega,by omega,by omega,by omega,by omega,by omega,by omega,by omega,by omega,by omega,by omega,by omega,by omega,by omega,by omega,by omega,by omega,by omega,by omega,by omega,by omega,by omega,by omega,by omega,by omega,by omega,by omega,by omega,by omega,by omega,by omega,by omega,by omega,by omega,by omega,by omega,by omega,by omega,by omega,by omega⟩
        simp [zcl,Val.avs,n0,s1,s2,s3,s4',zez hlt,hm,ne_1]
        have htk:List.take o.length (zbb o)=zbb o:=List.take_of_length_le (by simp)
        simp only [htk]
        refine ⟨hlt,by omega,ho,by omega,nx+2,⟨?_,?_,?_,fun _ => ?_,d1,d2,d3,fun _=>by omega⟩,by omega,fun g hg a b c => ?_⟩
        · simp [ne_1,s1]
        · simp [ne_1]; simpa using ps
        · simp [ne_1]
        · simp [ne_1,zbb]
        · have:=c h0
          repeat rw [if_neg (by omega)]
  · have e:VM.meet o v=o:=znh (by simp [hk])
    simp [zcl,Val.avs,hk,n0]
    have:=same e
    simp [Val.avs] at this
    exact this
end Go.Proofs.YtdmibdjokofclaaDoor
set_option maxRecDepth 8000
namespace Go.Proofs.YtdmibdjokofclaaDoor
open Go Go.RowKit
structure RCan (h:List Cl) (H0:Heap) (nx:Nat) (o:List Nat) (H:Heap) (n gr:Nat):Prop where
  st:zadn H (nx+1) (nx+2) nx gr h.length o
  lr:o ≠ []→nx+3≤gr∧gr < n
  keep:Keep nx H H0
  good:VM.Good h.length o
  le:nx+3≤n
theorem RCan.more {h:List Cl} {H0 H H':Heap} {nx n n' gr:Nat} {o:List Nat} (c:RCan h H0 nx o H n gr) (hn:n≤n') (hk:∀ g,g < n→H' g=H g):RCan h H0 nx o H' n' gr:=by
  have l:=c.le
  refine ⟨⟨by rw [hk _ (by omega)]; exact c.st.p,by rw [hk _ (by omega)]; exact c.st.pl,by rw [hk _ (by omega)]; exact c.st.oo,fun ho=>by rw [hk _ (c.lr ho).2]; exact c.st.rr ho,c.st.d1,c.st.d2,c.st.d3,c.st.d4⟩,fun ho=>by have:=c.lr ho; omega,fun g hg=>by rw [hk _ (by omega)]; exact c.keep g hg,c.good,by omega⟩
theorem RCan.meet {h:List Cl} {H0 H:Heap} {nx n gr:Nat} {o:List Nat} (c:RCan h H0 nx o H n gr) (hs:h.length*64≤140737488355328) {v:Val} (hv:VM.WrongOk v h.length) {Q:AV→Heap→Nat→Prop} (hq:∀ H' n' gr',n≤n'→RCan h H0 nx (VM.meet o v) H' n' gr'→Q (.tup []) H' n') :
    za Tryd.prog 70 [.agg v.avs,.ptr (nx+1) 0,.ptr (nx+2) 0] H n Q:=by
  have l:=c.le
  have g:=c.good.len
  refine (zapg v o h.length hv (by omega) c.st (by omega) (by omega) (by omega) (fun ho=>(c.lr ho).2)).mono ?_
  rintro r H' n' ⟨rfl,hn,gr',st,q1,q2⟩
  refine hq H' n' gr' hn ⟨st,fun ho => ?_,fun x hx => ?_,c.good.meet hv.okV,by omega⟩
  · obtain ⟨a,b⟩:=q1 ho
    rcases b with ⟨b1,rfl⟩ | b
    · have:=c.lr b1; omega
    · omega
  · rw [q2 x (by omega) (by omega) (by omega) (fun ho=>by have:=c.lr ho; omega)]; exact c.keep x hx
def avI (l:List Int):List AV:=l.map (AV.int .i64)
theorem zajo (N:Nat):avI (List.replicate N (-1))=zbe [] N:=by
  unfold avI zbe
  rw [List.map_replicate]
  apply List.ext_getElem?
  intro i
  by_cases h:i < N
  · simp [h]
  · rw [List.getElem?_eq_none (by simp; omega),List.getElem?_eq_none (by simp; omega)]
theorem zamt (n i:Nat) (h:i < n):List.take i (avI (List.replicate i (-1) ++ List.replicate (n - i) 0)) ++ AV.int .i64 (-1) :: List.drop (i+1) (avI (List.replicate i (-1) ++ List.replicate (n - i) 0))=avI (List.replicate (i+1) (-1) ++ List.replicate (n - (i+1)) 0):=by
  have e:n - i=(n - (i+1))+1:=by omega
  rw [e,List.replicate_succ,List.replicate_succ']
  simp [avI,List.take_append,List.drop_append]
theorem zabi {h:List Cl} {l:List Val} (hr:VM.right h l=true) (hs:h.length*64≤140737488355328) (hl:l.length*32≤140737488355328) {H:Heap} {nx:Nat} {Q:AV→Heap→Nat→Prop}
    (hq:∀ H' , RCan h H nx [] H' (nx+3) 0→LP (zdh Q) [.ro (h.map Cl.avs),.ro (l.map Val.avs),.ptr (nx+1) 0,.ptr (nx+2) 0,.clo 70 [.ptr (nx+1) 0,.ptr (nx+2) 0],.int .i64 0,.ro (l.map Val.avs),.int .i64 l.length,.int .i64 0] H' (nx+3)) :
    zin (.ro (h.map Cl.avs)) (.ro (l.map Val.avs)) H nx Q:=by
  simp [zin]
  refine ⟨by omega,by omega,?_⟩
  refine LP.mk (fun m xs H' n'=>∃ i,m=h.length - i∧i≤h.length∧n'=nx+2∧xs=[.ro (h.map Cl.avs),.ro (l.map Val.avs),.ptr (nx+1) 0,.int .i64 h.length,.int .i64 i]∧H' (nx+1)=some (.row 1 [.slc nx 0 h.length])∧H' nx=some (.row 1 (avI (List.replicate i (-1) ++ List.replicate (h.length - i) 0)))∧Keep nx H' H) h.length
    ⟨0,by omega,by omega,rfl,rfl,?_,?_,?_⟩ ?_
  · rw [Heap.put_at]
  · rw [Heap.put_ne _ _ (by omega),Heap.put_at]
    simp [avI]
  · intro g hg; rw [Heap.put_ne _ _ (by omega),Heap.put_ne _ _ (by omega)]
  rintro m xs H' n' ⟨i,rfl,hi,rfl,rfl,h1,h2,hk⟩
  by_cases hil:i < h.length
  · simp [zio,hil,h1,h2]
    refine ⟨by simp [avI]; omega,h.length - (i+1),by omega,i+1,rfl,by omega,i64w (by omega),zamt _ _ hil,hk⟩
  · obtain rfl:i=h.length:=by omega
    simp [zio]
    refine hq _ ⟨⟨?_,?_,?_,fun ho=>absurd rfl ho,by omega,by omega,by omega,fun ho=>absurd rfl ho⟩,fun ho=>absurd rfl ho,?_,VM.Good.nil,Nat.le_refl _⟩
    · rw [Heap.put_ne _ _ (by omega)]; exact h1
    · rw [Heap.put_ne _ _ (by omega),h2,← zajo]; simp
    · rw [Heap.put_at]; rfl
    · intro g hg; rw [Heap.put_ne _ _ (by omega)]; exact hk g hg
end Go.Proofs.YtdmibdjokofclaaDoor
set_option maxRecDepth 8000
namespace Go.Proofs.YtdmibdjokofclaaDoor
open Go Go.RowKit
theorem zagj {o o':List Nat} (h:o <+: o') {d n:Nat} (hd:o[d]? = some n):o'[d]? = some n:=by
  obtain ⟨t,rfl⟩:=h
  rw [List.getElem?_append_left (List.getElem?_eq_some_iff.1 hd).1]; exact hd
set_option maxHeartbeats 2000000 in
set_option maxRecDepth 20000 in
theorem zabj (h:List Cl) (l:List Val) (hr:VM.right h l=true) (hs:h.length*64≤140737488355328) (hl:l.length*32≤140737488355328) {H0:Heap} {nx i:Nat} (hi:i < l.length) (K16:J3)
    (hK:∀ H n gr o,RCan h H0 nx o H n gr→VM.orderGo h (l.drop (i+1)) o=VM.order h l →
      K16 [.ro (h.map Cl.avs),.ro (l.map Val.avs),.ptr (nx+1) 0,.ptr (nx+2) 0,.clo 70 [.ptr (nx+1) 0,.ptr (nx+2) 0],.int .i64 o.length,.ro (l.map Val.avs),.int .i64 l.length,.int .i64 (i+1:Nat)] H n)
    (H:Heap) (n gr:Nat) (o:List Nat) (d:Nat) (hdo:d≤o.length) (st:RCan h H0 nx o H n gr) (hF:VM.orderGo h (l.drop (i+1)) (VM.drain h (h.length - d) o d)=VM.order h l) :
    LP (zdk K16) [.ro (h.map Cl.avs),.ro (l.map Val.avs),.ptr (nx+1) 0,.ptr (nx+2) 0,.clo 70 [.ptr (nx+1) 0,.ptr (nx+2) 0],.int .i64 d,.ro (l.map Val.avs),.int .i64 l.length,.int .i64 i] H n:=by
  refine LP.mk (fun m xs H n=>∃ d gr o,m=h.length - d∧d≤o.length∧xs=[.ro (h.map Cl.avs),.ro (l.map Val.avs),.ptr (nx+1) 0,.ptr (nx+2) 0,.clo 70 [.ptr (nx+1) 0,.ptr (nx+2) 0],.int .i64 d,.ro (l.map Val.avs),.int .i64 l.length,.int .i64 i]∧RCan h H0 nx o H n gr ∧
    VM.orderGo h (l.drop (i+1)) (VM.drain h (h.length - d) o d)=VM.order h l) (h.length - d) ⟨d,gr,o,rfl,hdo,rfl,st,hF⟩ ?_
  clear st hF hdo
  rintro m xs H n ⟨d,gr,o,rfl,hdo,rfl,st,hF⟩
  by_cases hd:d < o.length
  case neg =>
    obtain rfl:d=o.length:=by omega
    simp [zdk,st.st.oo,zvy]
    rw [i64w (by omega)]
    rw [VM.drain_end (Nat.le_refl _)] at hF
    exact hK H n gr o st hF
  obtain ⟨c0,hc0⟩:∃ n0,o[d]? = some n0:=⟨_,List.getElem?_eq_getElem hd⟩
  have hc0l:c0 < h.length:=st.good.lt c0 (List.mem_of_getElem? hc0)
  have hc:h[c0]? = some h[c0]:=List.getElem?_eq_getElem hc0l
  have ho:o ≠ []:=by intro e; subst e; simp at hd
  obtain ⟨w1,w2⟩:=VM.right_okC hr _ (List.mem_of_getElem? hc)
  have hol:=st.good.len
  have oo:=st.st.oo
  rw [if_neg ho] at oo
  have hrow:(zbb o)[d]? = some (.int .i64 c0):=zpc hc0
  obtain ⟨hdr,hrow'⟩:=List.getElem?_eq_some_iff.1 hrow
  suffices key:∀ K28:J3,(∀ H n gr o,RCan h H0 nx o H n gr→d+1≤o.length→VM.orderGo h (l.drop (i+1)) (VM.drain h (h.length - (d+1)) o (d+1))=VM.order h l →
      K28 [.ro (h.map Cl.avs),.ro (l.map Val.avs),.ptr (nx+1) 0,.ptr (nx+2) 0,.clo 70 [.ptr (nx+1) 0,.ptr (nx+2) 0],.int .i64 (d+1:Nat),.ro (l.map Val.avs),.int .i64 l.length,.int .i64 i] H n) →
      zdk K16 K28 [.ro (h.map Cl.avs),.ro (l.map Val.avs),.ptr (nx+1) 0,.ptr (nx+2) 0,.clo 70 [.ptr (nx+1) 0,.ptr (nx+2) 0],.int .i64 d,.ro (l.map Val.avs),.int .i64 l.length,.int .i64 i] H n from
    key _ fun H n gr o st' hdo' hF'=>⟨_,by omega,d+1,gr,o,rfl,hdo',rfl,st',hF'⟩
  intro K28 hK28
  rw [show h.length - d=(h.length - (d+1))+1 by omega,VM.drain_step hc0 hc] at hF
  have t1:h[c0].avs.take 3=h[c0].left.avs:=rfl
  have t2:(h[c0].avs.drop 3).take 3=h[c0].right.avs:=rfl
  simp [zdk,oo,hd,st.st.rr ho,hrow',zvy,hc0l,t1,CALL]
  refine st.meet hs w1 fun H2 n2 gr2 hn2 st2 => ?_
  have p1:=VM.meet_pre o h[c0].left
  have hc1:=zagj p1 hc0
  have ho1:VM.meet o h[c0].left ≠ []:=by intro e; rw [e] at hc1; simp at hc1
  have oo2:=st2.st.oo
  rw [if_neg ho1] at oo2
  obtain ⟨hdr2,hrow2⟩:=List.getElem?_eq_some_iff.1 (zpc hc1)
  have hd1:=(List.getElem?_eq_some_iff.1 hc1).1
  simp [zou,oo2,st2.st.rr ho1,hrow2,hd1,hc0l,t2,CALL]
  refine st2.meet hs w2 fun H3 n3 gr3 hn3 st3 => ?_
  simp [zov]
  rw [i64w (by omega)]
  have p2:=VM.meet_pre (VM.meet o h[c0].left) h[c0].right
  exact hK28 H3 n3 gr3 _ st3 (by have:=p2.length_le; omega) hF
end Go.Proofs.YtdmibdjokofclaaDoor
set_option maxRecDepth 8000
namespace Go.Proofs.YtdmibdjokofclaaDoor
open Go Go.RowKit
theorem zxf (v:Val) (o:List Nat) (N:Nat) (hv:VM.WrongOk v N) (hin:VM.In o v) {H:Heap} {nx gp gpl:Nat} (h1:H gp=some (.row 1 [.slc gpl 0 N])) (h2:H gpl=some (.row 1 (zbe o N))) (l1:gp < nx) (l2:gpl < nx) :
    za Tryd.prog 71 [.agg v.avs,.ptr gp 0] H nx fun r H' _=>Frz H' nx r (.agg (VM.put o v).avs)∧Keep nx H' H :=
  (zajj v o N hv hin h1 h2 l1 l2).mono fun r H' _ hh=>⟨by rw [hh.1]; exact .same _ (zfo _),hh.2⟩
theorem zo.put {v:Val} {o:List Nat} {N:Nat} (hv:VM.WrongOk v N) (hin:VM.In o v) {H:Heap} {gp gpl n:Nat} (h1:H gp=some (.row 1 [.slc gpl 0 N])) (h2:H gpl=some (.row 1 (zbe o N))) {k:Kt} (hk:k (.agg (VM.put o v).avs) [gp,gpl] [] []) :
    zo Tryd.prog (.clo 71 [.ptr gp 0]) [.agg v.avs] H n k:=by
  refine zo.of_qcr [gp,gpl] (by simp [h1,h2]) (fun H' n' ha => ?_) (zfo _) hk
  obtain ⟨a1,a2⟩:=ha gp (by simp)
  obtain ⟨a3,a4⟩:=ha gpl (by simp)
  exact za.pure (zxf v o N hv hin (by rw [a1]; exact h1) (by rw [a3]; exact h2) a2 a4)
set_option maxHeartbeats 2000000 in
set_option maxRecDepth 20000 in
theorem zaeh (h:List Cl) (F:List Nat) (hF:VM.Good h.length F) (hok:zdc h) (hsh:VM.Shut h F F.length) (hs:h.length*64≤140737488355328) {H0:Heap} {nx:Nat} (a2 a4:AV) (Q:AV→Heap→Nat→Prop) {H1:Heap} {n1 gr:Nat} (st:RCan h H0 nx F H1 n1 gr)
    (h4:a4=if F=[] then AV.nils else .slc gr 0 F.length)
    (hQ:∀ a3 H' n',n1≤n'→Keep n1 H' H1→Grow H' n1 n' 6 F.length (rowC (F.map (zbv F h))) a3→Q (.tup [a2,a3]) H' n') :
    LP (zdj Q) [.ro (h.map Cl.avs),.clo 71 [.ptr (nx+1) 0],a2,.nils,a4,.int .i64 F.length,.int .i64 0] H1 n1:=by
  have hFl:=hF.len
  refine LP.mk (fun m xs H' n'=>∃ i a3,m=F.length - i∧i≤F.length∧n1≤n'∧Keep n1 H' H1∧Grow H' n1 n' 6 i (rowC ((F.take i).map (zbv F h))) a3∧xs=[.ro (h.map Cl.avs),.clo 71 [.ptr (nx+1) 0],a2,a3,a4,.int .i64 F.length,.int .i64 i]) F.length
    ⟨0,.nils,by omega,by omega,Nat.le_refl _,by simp,.inl ⟨rfl,rfl⟩,rfl⟩ ?_
  rintro m xs H n ⟨i,a3,rfl,hi,hn,hk,hg,rfl⟩
  by_cases hil:i < F.length
  case neg =>
    obtain rfl:i=F.length:=by omega
    simp [zdj]
    rw [List.take_length] at hg
    exact hQ a3 H n hn hk hg
  suffices key:∀ K75:J3,(∀ a3 H n,n1≤n→Keep n1 H H1→Grow H n1 n 6 (i+1) (rowC ((F.take (i+1)).map (zbv F h))) a3→K75 [.ro (h.map Cl.avs),.clo 71 [.ptr (nx+1) 0],a2,a3,a4,.int .i64 F.length,.int .i64 (i+1:Nat)] H n) →
      zdj Q K75 [.ro (h.map Cl.avs),.clo 71 [.ptr (nx+1) 0],a2,a3,a4,.int .i64 F.length,.int .i64 i] H n from
    key _ fun a3 H n h1 h2 h3=>⟨_,by omega,i+1,a3,rfl,by omega,h1,h2,h3,rfl⟩
  intro K75 hK75
  have hc0:F[i]? = some F[i]:=List.getElem?_eq_getElem hil
  have hc0l:=hF.lt F[i] (List.mem_of_getElem? hc0)
  have hc:h[F[i]]? = some h[F[i]]:=List.getElem?_eq_getElem hc0l
  obtain ⟨i1,i2⟩:=hsh i F[i] _ hil hc0 hc
  obtain ⟨w1,w2⟩:=hok _ (List.mem_of_getElem? hc)
  have hne:F ≠ []:=by intro e; subst e; simp at hil
  rw [if_neg hne] at h4
  subst h4
  have l:=st.le
  obtain ⟨r1,r2⟩:=st.lr hne
  have kk:∀ g,g < n1→H g=H1 g:=hk
  have hr:H gr=some (.row 1 (zbb F)):=by rw [kk _ r2]; exact st.st.rr hne
  have hp:H (nx+1)=some (.row 1 [.slc nx 0 h.length]):=by rw [kk _ (by omega)]; exact st.st.p
  have hpl:H nx=some (.row 1 (zbe F h.length)):=by rw [kk _ (by omega)]; exact st.st.pl
  obtain ⟨hdr,hrow'⟩:=List.getElem?_eq_some_iff.1 (zpc hc0)
  have t1:h[F[i]].avs.take 3=h[F[i]].left.avs:=rfl
  have t2:(h[F[i]].avs.drop 3).take 3=h[F[i]].right.avs:=rfl
  have hcell:zbv F h F[i]=⟨VM.put F h[F[i]].left,VM.put F h[F[i]].right⟩:=by unfold zbv VM.putC; rw [hc]; rfl
  simp [zdj,hil,hr,hrow',hc0l,t1]
  refine zo.put w1 i1 hp hpl ?_
  simp [zoq,hc0l,t2]
  refine zo.put w2 i2 hp hpl ?_
  have hsn:rowC ((F.take (i+1)).map (zbv F h))=rowC ((F.take i).map (zbv F h)) ++ ((VM.put F h[F[i]].left).avs ++ (VM.put F h[F[i]].right).avs):=by
    rw [zsn _ hc0,zun,hcell]; rfl
  generalize VM.put F h[F[i]].left=pl at *
  generalize VM.put F h[F[i]].right=pr at *
  simp [zor,Val.avs]
  refine Grow.append (new:=pl.avs ++ pr.avs) (hg.more (n':=n) (Nat.le_refl _) fun g _ h2=>Heap.put_ne _ _ (by omega)) (by simp; omega) (by rw [Heap.put_at]; rfl) rfl (by simp [Val.avs]) (by omega) (by omega) (by omega) fun rd D hD hk2 hg2 => ?_
  rw [← hsn] at hg2
  rw [i64w (by omega)]
  have:=hK75 _ _ _ (by omega) (fun g hg=>(hk2 g hg).trans ((Heap.put_ne _ _ (by omega)).trans (hk g hg))) hg2
  simpa [Val.avs] using this
end Go.Proofs.YtdmibdjokofclaaDoor
set_option maxRecDepth 8000
namespace Go.Proofs.YtdmibdjokofclaaDoor
open Go Go.RowKit
set_option maxHeartbeats 2000000 in
set_option maxRecDepth 20000 in
theorem zaga (h:List Cl) (l:List Val) (F:List Nat) (hl:l.length*32≤140737488355328) (hs:h.length*64≤140737488355328) (hF:VM.Good h.length F) (hok:zdc h) (hsh:VM.Shut h F F.length) (hv:∀ v∈l,VM.WrongOk v h.length) (hin:∀ v∈l,VM.In F v) {H0:Heap} {nx:Nat} (Q:AV→Heap→Nat→Prop) {H1:Heap} {n1 gr:Nat} (st:RCan h H0 nx F H1 n1 gr)
    (hQ:∀ a2 a3 H' n' n2,Keep n1 H' H1→n1≤n2→n2≤n'→Grow H' n1 n2 3 l.length (rowV (l.map (VM.put F))) a2→Grow H' n2 n' 6 F.length (rowC (F.map (zbv F h))) a3→Q (.tup [a2,a3]) H' n') :
    LP (zdi Q) [.ro (h.map Cl.avs),.ptr (nx+2) 0,.clo 71 [.ptr (nx+1) 0],.nils,.ro (l.map Val.avs),.int .i64 l.length,.int .i64 0] H1 n1:=by
  have hFl:=hF.len
  refine LP.mk (fun m xs H' n'=>∃ i a3,m=l.length - i∧i≤l.length∧n1≤n'∧Keep n1 H' H1∧Grow H' n1 n' 3 i (rowV ((l.take i).map (VM.put F))) a3∧xs=[.ro (h.map Cl.avs),.ptr (nx+2) 0,.clo 71 [.ptr (nx+1) 0],a3,.ro (l.map Val.avs),.int .i64 l.length,.int .i64 i]) l.length
    ⟨0,.nils,by omega,by omega,Nat.le_refl _,by simp,.zero,rfl⟩ ?_
  rintro m xs H n ⟨i,a3,rfl,hi,hn,hk,hg,rfl⟩
  have hk':∀ g,g < n1→H g=H1 g:=hk
  have stn:RCan h H0 nx F H n gr:=by
    have l0:=st.le
    exact ⟨⟨by rw [hk' _ (by omega)]; exact st.st.p,by rw [hk' _ (by omega)]; exact st.st.pl,by rw [hk' _ (by omega)]; exact st.st.oo,fun ho=>by rw [hk' _ (st.lr ho).2]; exact st.st.rr ho,st.st.d1,st.st.d2,st.st.d3,st.st.d4⟩,fun ho=>by have:=st.lr ho; omega,fun g hg=>by rw [hk' _ (by omega)]; exact st.keep g hg,st.good,by omega⟩
  by_cases hil:i < l.length
  case neg =>
    obtain rfl:i=l.length:=by omega
    rw [List.take_length] at hg
    simp [zdi,stn.st.oo,zvy]
    refine zaeh h F hF hok hsh hs a3 _ Q stn rfl fun a4 H' n' hn2 hk2 hg2 => ?_
    refine hQ a3 a4 H' n' n (fun g hg=>(hk2 g (by omega)).trans (hk g hg)) hn hn2 (hg.more (Nat.le_refl _) fun g _ h2=>hk2 g h2) hg2
  suffices key:∀ K56:J3,(∀ a3 H n,n1≤n→Keep n1 H H1→Grow H n1 n 3 (i+1) (rowV ((l.take (i+1)).map (VM.put F))) a3→K56 [.ro (h.map Cl.avs),.ptr (nx+2) 0,.clo 71 [.ptr (nx+1) 0],a3,.ro (l.map Val.avs),.int .i64 l.length,.int .i64 (i+1:Nat)] H n) →
      zdi Q K56 [.ro (h.map Cl.avs),.ptr (nx+2) 0,.clo 71 [.ptr (nx+1) 0],a3,.ro (l.map Val.avs),.int .i64 l.length,.int .i64 i] H n from
    key _ fun a3 H n h1 h2 h3=>⟨_,by omega,i+1,a3,rfl,by omega,h1,h2,h3,rfl⟩
  intro K56 hK56
  have hvl:l[i]? = some l[i]:=List.getElem?_eq_getElem hil
  have w:=hv _ (List.mem_of_getElem? hvl)
  have hi1:=hin _ (List.mem_of_getElem? hvl)
  have tv:l[i].avs.take 3=l[i].avs:=rfl
  have l0:=stn.le
  simp [zdi,hil,tv,CALL]
  refine ⟨fun x hx=>zae (zat _ x hx),?_⟩
  refine za.pure_call (zxf l[i] F h.length w hi1 (gp:=nx+1) (gpl:=nx) (by rw [Heap.put_ne _ _ (by omega)]; exact stn.st.p) (by rw [Heap.put_ne _ _ (by omega)]; exact stn.st.pl) (by omega) (by omega)) ?_
  have hsn:rowV ((l.take (i+1)).map (VM.put F))=rowV ((l.take i).map (VM.put F)) ++ (VM.put F l[i]).avs:=by rw [zdn hvl,List.map_append,List.map_singleton,zel]
  generalize VM.put F l[i]=rv at *
  have tr:rv.avs.take 3=rv.avs:=rfl
  simp [zos,tr]
  refine Grow.app (new:=rv.avs) (hg.more (n':=n) (Nat.le_refl _) fun g _ h2 => ?_) (by simp; omega) (Heap.put_at _ _ _) rfl (List.all_eq_true.2 fun x hx=>zae (zat _ x hx)) (by omega) (by omega) (by omega) fun H' hk2 hg2 => ?_
  · rw [Heap.put_ne _ _ (by omega),Heap.put_ne _ _ (by omega)]
  rw [← hsn] at hg2
  rw [i64w (by omega)]
  exact hK56 _ _ _ (by omega) (fun g hg=>(hk2 g hg).trans (by rw [Heap.put_ne _ _ (by omega),Heap.put_ne _ _ (by omega)]; exact hk g hg)) hg2
set_option maxHeartbeats 2000000 in
set_option maxRecDepth 20000 in
theorem zagb (h:List Cl) (l:List Val) (hr:VM.right h l=true) (hs:h.length*64≤140737488355328) (hl:l.length*32≤140737488355328):QC Tryd.prog 48 [.ro (h.map Cl.avs),.ro (l.map Val.avs)] (.tup [.ro ((VM.canonV h l).map Val.avs),.ro ((VM.canonC h l).map Cl.avs)]):=by
  refine QC.of' fun H nx=>zts _ _ H nx _ ?_
  refine zabi hr hs hl fun H1 st0 => ?_
  have hok:zdc h:=VM.right_okC hr
  have hv:=VM.right_okV hr
  refine LP.mk (fun m xs H' n'=>∃ i gr o,m=l.length - i∧i≤l.length∧xs=[.ro (h.map Cl.avs),.ro (l.map Val.avs),.ptr (nx+1) 0,.ptr (nx+2) 0,.clo 70 [.ptr (nx+1) 0,.ptr (nx+2) 0],.int .i64 o.length,.ro (l.map Val.avs),.int .i64 l.length,.int .i64 i] ∧
    RCan h H nx o H' n' gr∧VM.orderGo h (l.drop i) o=VM.order h l) l.length ⟨0,0,[],by omega,by omega,rfl,st0,rfl⟩ ?_
  rintro m xs H2 n2 ⟨i,gr,o,rfl,hi,rfl,st,hF⟩
  by_cases hil:i < l.length
  case neg =>
    obtain rfl:i=l.length:=by omega
    have hFo:o=VM.order h l:=by rw [← hF,List.drop_length]; rfl
    obtain ⟨hsh,hin⟩:=VM.orderGo_shut (VM.okH hok) l [] (fun v hx=>(hv v hx).okV) VM.Good.nil (fun j n c hj=>by simp at hj)
    have hsh':VM.Shut h (VM.order h l) (VM.order h l).length:=hsh
    have hin':∀ v∈l,VM.In (VM.order h l) v:=hin
    have hg:=st.good
    subst hFo
    simp [zdh]
    refine zaga h l _ hl hs hg hok hsh' hv hin' _ st fun a2 a3 H' n' n3 hk hn3 hn' hg1 hg2 => ?_
    have l0:=st.le
    refine ⟨?_,fun g hg=>(hk g (by omega)).trans (st.keep g hg)⟩
    rw [zacw hg.lt]
    refine Frz.tup2 (hg1.frz (by omega) (by simp [VM.canonV]) (zbw _) rfl fun c hc=>zbo (zbq _ c hc)) (hg2.frz (by omega) (by simp) (zbj _) rfl fun c hc=>zbo (zby _ c hc))
  have hvl:l[i]? = some l[i]:=List.getElem?_eq_getElem hil
  have w:=hv _ (List.mem_of_getElem? hvl)
  have tv:l[i].avs.take 3=l[i].avs:=rfl
  have hdrop:l.drop i=l[i] :: l.drop (i+1):=List.drop_eq_getElem_cons hil
  rw [hdrop] at hF
  have hF':VM.orderGo h (l.drop (i+1)) (VM.drain h (h.length - o.length) (VM.meet o l[i]) o.length)=VM.order h l:=hF
  have l0:=st.le
  suffices key:∀ K16:J3,(∀ H' n' gr o,RCan h H nx o H' n' gr→VM.orderGo h (l.drop (i+1)) o=VM.order h l →
      K16 [.ro (h.map Cl.avs),.ro (l.map Val.avs),.ptr (nx+1) 0,.ptr (nx+2) 0,.clo 70 [.ptr (nx+1) 0,.ptr (nx+2) 0],.int .i64 o.length,.ro (l.map Val.avs),.int .i64 l.length,.int .i64 (i+1:Nat)] H' n') →
      zdh (fun v H' _=>Frz H' nx v (.tup [.ro ((VM.canonV h l).map Val.avs),.ro ((VM.canonC h l).map Cl.avs)])∧Keep nx H' H) K16 [.ro (h.map Cl.avs),.ro (l.map Val.avs),.ptr (nx+1) 0,.ptr (nx+2) 0,.clo 70 [.ptr (nx+1) 0,.ptr (nx+2) 0],.int .i64 o.length,.ro (l.map Val.avs),.int .i64 l.length,.int .i64 i] H2 n2 from
    key _ fun H' n' gr o h1 h2=>⟨_,by omega,i+1,gr,o,rfl,by omega,rfl,h1,h2⟩
  intro K16 hK16
  simp [zdh,hil,tv,CALL]
  refine ⟨fun x hx=>zae (zat _ x hx),?_⟩
  refine (st.more (H':=H2.put n2 (some (AObj.row 3 l[i].avs))) (n':=n2+1) (by omega) (fun g hg=>Heap.put_ne _ _ (by omega))).meet hs w fun H3 n3 gr3 hn3 st3 => ?_
  simp [zot]
  exact zabj h l hr hs hl hil K16 (fun H' n' gr o h1 h2=>hK16 H' n' gr o h1 h2) H3 n3 gr3 _ o.length (VM.meet_pre o l[i]).length_le st3 hF'
end Go.Proofs.YtdmibdjokofclaaDoor
set_option maxRecDepth 8000
namespace Go.Proofs.YtdmibdjokofclaaDoor
open Go Go.RowKit
section
variable {ki kj:IntKind}
theorem zafw {s:Nat} {xs:List (List AV)} {b:Int} {H:Heap} {kt:Kt}:zbc s (.ro xs) none (some (.int ki b)) H kt=(0≤b∧b≤xs.length∧(∀ x∈xs,x.length=s)∧kt (.ro (xs.take b.toNat)) [] [] []):=by
  simp [zbc,lohi,PURE]
theorem zadg {s:Nat} {xs:List (List AV)} {a b:Int} {H:Heap} {kt:Kt}:zbc s (.ro xs) (some (.int ki a)) (some (.int kj b)) H kt=(0≤a∧a≤b∧b≤xs.length∧(∀ x∈xs,x.length=s)∧kt (.ro ((xs.take b.toNat).drop a.toNat)) [] [] []):=by
  simp [zbc,lohi,PURE]
theorem zalq {s:Nat} {xs:List (List AV)} {a:Int} {H:Heap} {k:AV→Prop}:SL s (.ro xs) (some (.int ki a)) none H k=(0≤a∧a≤xs.length∧(∀ x∈xs,x.length=s)∧k (.ro (xs.drop a.toNat))):=by
  simp [SL,zbc,lohi,PURE,qk]
end
set_option maxRecDepth 20000 in
set_option maxHeartbeats 1000000 in
theorem zabh {fs:List Frm} {H5:Heap} {n:Nat} {Q:AV→Heap→Nat→Prop} (hb:(zh fs).length≤4096) (hfl:fs.length≤4096)
    (hend:∀ H' n' l,n+2≤n'→(∀ g,g < n+2→H' g=H5 g)→Slot H' 3 (zh fs).length (rowV (zh fs)) l→(∀ g∈own l,n+2≤g∧g < n') →
      FA 5 (.ptr n 0) fun v29=>LD false 1 v29 H' fun v30=>za Tryd.prog 48 [v30,l] H' n' (zjr [.ptr n 0,.ptr (n+1) 0,l,.ro (fs.map Frm.avs),.int .i64 fs.length,.int .i64 fs.length] Q)) :
    LP (zdw Q) [.ptr n 0,.ptr (n+1) 0,.nils,.ro (fs.map Frm.avs),.int .i64 fs.length,.int .i64 0] H5 (n+2):=by
  refine LP.mk (fun k xs H' n'=>∃ (i:Nat) (l:AV),k=fs.length - i∧i≤fs.length∧xs=[.ptr n 0,.ptr (n+1) 0,l,.ro (fs.map Frm.avs),.int .i64 fs.length,.int .i64 i]∧n+2≤n'∧(∀ g,g < n+2→H' g=H5 g) ∧
    Slot H' 3 (zh (fs.take i)).length (rowV (zh (fs.take i))) l∧∀ g∈own l,n+2≤g∧g < n') fs.length ⟨0,.nils,rfl,by omega,rfl,Nat.le_refl _,fun _ _=>rfl,.inl ⟨rfl,.inl rfl⟩,by simp [own]⟩ ?_
  rintro k xs H' n' ⟨i,l,rfl,hi,rfl,hn,keep,sl,bl⟩
  suffices key:∀ K:J3,(∀ (i':Nat) (l:AV) H' n',fs.length - i' < fs.length - i→i'≤fs.length→n+2≤n'→(∀ g,g < n+2→H' g=H5 g)→Slot H' 3 (zh (fs.take i')).length (rowV (zh (fs.take i'))) l→(∀ g∈own l,n+2≤g∧g < n')→K [.ptr n 0,.ptr (n+1) 0,l,.ro (fs.map Frm.avs),.int .i64 fs.length,.int .i64 i'] H' n') →
      zdw Q K [.ptr n 0,.ptr (n+1) 0,l,.ro (fs.map Frm.avs),.int .i64 fs.length,.int .i64 i] H' n' from
    key _ fun i' l H' n' h1 h2 h3 h4 h5 h6=>⟨_,h1,i',l,rfl,h2,rfl,h3,h4,h5,h6⟩
  intro K hK
  by_cases hil:i < fs.length
  · have hf:fs[i]? = some fs[i]:=List.getElem?_eq_getElem hil
    have hadd:IntKind.i64.wrap ((i:Int)+1)=((i+1:Nat):Int):=by rw [i64w (by omega)]; rfl
    have htk:fs.take (i+1)=fs.take i ++ [fs[i]]:=zdn hf
    have hle:=zxe (fs:=fs) (i+1)
    have hr1:zh (fs.take (i+1))=zh (fs.take i) ++ fs[i].vars ++ fs[i].stack:=by rw [htk,zuo]
    rw [hr1] at hle
    simp only [List.length_append] at hle
    have b0:∀ l:List Val,(rowV l).all AV.one=true:=fun l=>List.all_eq_true.2 fun c hc=>zae (zbq _ c hc)
    have hsrc:∀ (H:Heap) (l:List Val),zm 3 H (.ro (l.map Val.avs))=some (l.length,rowV l,[]):=fun H l=>by rw [zcw (zbw l)]; simp [rowV]
    simp [zdw,hil]
    simp [Frm.avs]
    generalize hX:Heap.put H' n' _=HX
    have x1:HX n'=some (.row 4 [.int .i64 fs[i].fn,.int .i64 fs[i].at_,.ro (fs[i].vars.map Val.avs),.ro (fs[i].stack.map Val.avs)]):=by rw [← hX,Heap.put_at]
    have xk:∀ g,g ≠ n'→HX g=H' g:=fun g hg=>by rw [← hX,Heap.put_ne _ _ hg]
    refine Slot.gather (sl.keep fun g hg=>xk g (by have:=bl g hg; omega)) (by simp) (hsrc _ _) (by simp) (b0 _) (by omega) fun v1 rd1 fr1 D1 l1 d1 s1 o1 k1 => ?_
    have y1:(HX.apply D1) n'=some (.row 4 [.int .i64 fs[i].fn,.int .i64 fs[i].at_,.ro (fs[i].vars.map Val.avs),.ro (fs[i].stack.map Val.avs)]):=by rw [k1 n' (fun h=>by have:=bl _ h; omega) (by omega)]; exact x1
    have yk:∀ g,g < n+2→(HX.apply D1) g=H5 g:=fun g hg=>by rw [k1 g (fun h=>by have:=bl _ h; omega) (by omega),xk g (by omega),keep g hg]
    have dd:n'∉domD D1:=fun h=>by
      rcases d1 n' h with h | h
      · have:=bl _ h; omega
      · omega
    generalize HX.apply D1=HY at *
    simp only [y1,rowk]
    simp
    refine Slot.gather s1 (by simp; omega) (hsrc _ _) (by simp) (b0 _) (by omega) fun v2 rd3 fr2 D2 l2 d2 s2 o2 k2 => ?_
    have zk:∀ g,g < n+2→(HY.apply D2) g=H5 g:=fun g hg=>by rw [k2 g (fun h=>by have:=o1 _ h; omega) (by omega),yk g hg]
    generalize HY.apply D2=HZ at *
    refine zbi (fun g _=>by simp) (zbi (fun g _=>by simp) (zbi (fun g hg=>by simp; rintro rfl; exact dd hg) (zbi (fun g _=>by simp) ?_)))
    rw [hadd]
    refine hK (i+1) v2 HZ _ (by omega) (by omega) (by omega) zk ?_ fun g hg => ?_
    · rw [hr1,zhp,zhp]
      simpa [Nat.add_assoc] using s2
    · have:=o2 g hg; omega
  · obtain rfl:i=fs.length:=by omega
    rw [List.take_length] at sl
    have:=hend H' n' l hn keep sl bl
    simpa [zdw] using this
set_option maxRecDepth 20000 in
set_option maxHeartbeats 1000000 in
theorem zaeg {fs:List Frm} {id trip:Int} {pr:Prg} {m:Pmt} {p:Val→Val} {hp h:List Cl} {H1:Heap} {n mid:Nat} {Q:AV→Heap→Nat→Prop} (hfl:fs.length≤4096) (hb:∀ f∈fs,f.vars.length≤4096∧f.stack.length≤4096) (hmid:n+2≤mid)
    (r1:H1 n=some (.row 9 (zc id trip pr (.ro (fs.map Frm.avs)) (.ro (h.map Cl.avs)) m))) (r2:∃ z,H1 (n+1)=some (.row 9 z)∧z.length=9)
    (hend:∀ H' n' ss fa,zgy H' mid n' (fs.map (pkF p)) ss fa→(∀ g,g < n→H' g=H1 g)→Q (.agg (zc id trip pr fa (.ro (hp.map Cl.avs)) m)) H' n') :
    LP (zdx Q) [.ptr n 0,.ptr (n+1) 0,.ro ((zh fs).map fun v=>(p v).avs),.ro (hp.map Cl.avs),.nils,.ro (fs.map Frm.avs),.int .i64 fs.length,.int .i64 0] H1 mid:=by
  refine LP.mk (fun k xs H' n'=>∃ (i:Nat) (ss:List (AV×AV)) (fa:AV),k=fs.length - i∧i≤fs.length∧mid≤n'∧xs=[.ptr n 0,.ptr (n+1) 0,.ro ((zh (fs.drop i)).map fun v=>(p v).avs),.ro (hp.map Cl.avs),fa,.ro (fs.map Frm.avs),.int .i64 fs.length,.int .i64 i] ∧
    zgy H' mid n' ((fs.take i).map (pkF p)) ss fa∧∀ g,g < mid→H' g=H1 g) fs.length ⟨0,[],.nils,rfl,by omega,Nat.le_refl _,rfl,⟨⟨rfl,fun k f s hf=>by simp at hf⟩,.inl ⟨by simp,.inl rfl⟩,by simp [own,owns],by simp [own,owns]⟩,fun _ _=>rfl⟩ ?_
  rintro k xs H' n' ⟨i,ss,fa,rfl,hi,hn',rfl,st,keep⟩
  suffices key:∀ K:J3,(∀ (i':Nat) ss fa H' n',fs.length - i' < fs.length - i→i'≤fs.length→mid≤n'→zgy H' mid n' ((fs.take i').map (pkF p)) ss fa→(∀ g,g < mid→H' g=H1 g)→K [.ptr n 0,.ptr (n+1) 0,.ro ((zh (fs.drop i')).map fun v=>(p v).avs),.ro (hp.map Cl.avs),fa,.ro (fs.map Frm.avs),.int .i64 fs.length,.int .i64 i'] H' n') →
      zdx Q K [.ptr n 0,.ptr (n+1) 0,.ro ((zh (fs.drop i)).map fun v=>(p v).avs),.ro (hp.map Cl.avs),fa,.ro (fs.map Frm.avs),.int .i64 fs.length,.int .i64 i] H' n' from
    key _ fun i' ss fa H' n' h1 h2 h3 h4 h5=>⟨_,h1,i',ss,fa,rfl,h2,h3,rfl,h4,h5⟩
  intro K hK
  have e1:=(keep n (by omega)).trans r1
  obtain ⟨z,z1,z2⟩:=r2
  have e2:=(keep (n+1) (by omega)).trans z1
  by_cases hil:i < fs.length
  · have hf:fs[i]? = some fs[i]:=List.getElem?_eq_getElem hil
    have hdrop:fs.drop i=fs[i] :: fs.drop (i+1):=List.drop_eq_getElem_cons hil
    have htk:fs.take (i+1)=fs.take i ++ [fs[i]]:=zdn hf
    have hadd:IntKind.i64.wrap ((i:Int)+1)=((i+1:Nat):Int):=by rw [i64w (by omega)]; rfl
    have hroots:zh (fs.drop i)=fs[i].vars ++ (fs[i].stack ++ zh (fs.drop (i+1))):=by unfold zh; rw [hdrop,List.flatMap_cons,List.append_assoc]
    have len3:∀ l:List Val,∀ x∈l.map (fun v=>(p v).avs),x.length=3:=fun l x hx=>by obtain ⟨v,_,rfl⟩:=List.mem_map.1 hx; rfl
    have one3:∀ l:List Val,∀ x∈l.map (fun v=>(p v).avs),∀ c∈x,c.one=true:=fun l x hx c hc=>by obtain ⟨v,_,rfl⟩:=List.mem_map.1 hx; exact zae (zat _ c hc)
    have fl:∀ l:List Val,(l.map fun v=>(p v).avs).flatten=rowV (l.map p):=fun l=>by simp [rowV,List.map_map,Function.comp_def]
    obtain ⟨b1,b2⟩:=hb _ (List.getElem_mem hil)
    have hw:IntKind.i64.wrap ((fs[i].vars.length:Int)+fs[i].stack.length)=((fs[i].vars.length+fs[i].stack.length:Nat):Int):=by rw [i64w (by omega)]; rfl
    have hsrc:∀ (H:Heap) (l:List Val),zm 3 H (.ro (l.map fun v=>(p v).avs))=some (l.length,rowV (l.map p),[]):=fun H l=>by rw [zcw (len3 l),fl]; simp
    have hones:∀ l:List Val,∀ x∈rowV l,x.one=true:=fun l c hc=>zae (zbq l c hc)
    obtain ⟨X,hX⟩:∃ X,X=(zh (fs.drop i)).map fun v=>(p v).avs:=⟨_,rfl⟩
    have x3:∀ x∈X,x.length=3:=by rw [hX]; exact len3 _
    have lX:fs[i].vars.length+fs[i].stack.length≤X.length:=by rw [hX,hroots]; simp
    have t1:X.take fs[i].vars.length=fs[i].vars.map fun v=>(p v).avs:=by rw [hX,hroots,List.map_append,List.take_append_of_le_length (by simp),List.take_of_length_le (by simp)]
    have t2:(X.take (fs[i].vars.length+fs[i].stack.length)).drop fs[i].vars.length=fs[i].stack.map fun v=>(p v).avs:=by
      rw [hX,hroots,List.map_append,List.map_append,← List.append_assoc,List.take_append_of_le_length (by simp),List.take_of_length_le (by simp),List.drop_append_of_le_length (by simp),List.drop_of_length_le (by simp),List.nil_append]
    have t3:X.drop (fs[i].vars.length+fs[i].stack.length)=(zh (fs.drop (i+1))).map fun v=>(p v).avs:=by
      rw [hX,hroots,List.map_append,List.map_append,← List.append_assoc,List.drop_append_of_le_length (by simp),List.drop_of_length_le (by simp),List.nil_append]
    have q1:((fs[i].vars.length:Int))≤X.length:=by omega
    have q2:((fs[i].vars.length:Int)+fs[i].stack.length)≤X.length:=by omega
    have q3:((fs[i].vars.length:Int)+fs[i].stack.length).toNat=fs[i].vars.length+fs[i].stack.length:=by omega
    rw [← hX]
    simp [zdx,hil]
    have m1:n' ≠ n'+2:=by omega
    have m2:n' ≠ n'+2+1:=by omega
    have m3:n' ≠ n'+4:=by omega
    have m4:n' ≠ n'+1:=by omega
    have m5:n' ≠ n'+4+1:=by omega
    simp [Frm.avs,zafw,zadg,zalq,hw,t1,t2,t3,hsrc,x3,q1,q2,q3,m1,m2,m3,m4,m5]
    refine ⟨x3,hones _,by omega,by omega,x3,hones _,by omega,by omega,x3,?_⟩
    generalize hY:Heap.put _ (n'+4+1) _=HY
    have y1:HY (n'+4+1)=some (.row 4 [.int .i64 fs[i].fn,.int .i64 fs[i].at_,.slc (n'+2) 0 fs[i].vars.length,.slc (n'+4) 0 fs[i].stack.length]):=by rw [← hY,Heap.put_at]
    have y2:HY (n'+4)=some (.row 3 (rowV (fs[i].stack.map p))):=by rw [← hY,Heap.put_ne _ _ (by omega),Heap.put_ne _ _ (by omega),Heap.put_at]
    have y3:HY (n'+2)=some (.row 3 (rowV (fs[i].vars.map p))):=by rw [← hY,Heap.put_ne _ _ (by omega),Heap.put_ne _ _ (by omega),Heap.put_ne _ _ (by omega),Heap.put_ne _ _ (by omega),Heap.put_at]
    have yk:∀ g,g < n'→HY g=H' g:=fun g hg=>by rw [← hY,Heap.put_ne _ _ (by omega),Heap.put_ne _ _ (by omega),Heap.put_ne _ _ (by omega),Heap.put_ne _ _ (by omega),Heap.put_ne _ _ (by omega),Heap.put_ne _ _ (by omega),Heap.put_ne _ _ (by omega)]
    have tl:((fs.take i).map (pkF p)).length=i:=by simp; omega
    refine st.snoc (f:=pkF p fs[i]) (va:=.slc (n'+2) 0 fs[i].vars.length) (sa:=.slc (n'+4) 0 fs[i].stack.length) (N:=n'+2) (by omega) (by omega) (by omega) (by rw [tl]; omega) yk (.inr ⟨n'+2,_,by simp [pkF],y3,List.take_of_length_le (by simp [pkF]),by simp [pkF]⟩) (.inr ⟨n'+4,_,by simp [pkF],y2,List.take_of_length_le (by simp [pkF]),by simp [pkF]⟩) (by simp [own]) (fun g hg=>by simp [own] at hg; omega) y1 fun H3 a' h1 h2 => ?_
    rw [hadd]
    refine hK (i+1) (ss ++ [(.slc (n'+2) 0 fs[i].vars.length,.slc (n'+4) 0 fs[i].stack.length)]) a' H3 _ (by omega) (by omega) (by omega) ?_ fun g hg => ?_
    · rw [htk,List.map_append]; exact h2
    · rw [h1 g hg,yk g (by omega)]; exact keep g hg
  · obtain rfl:i=fs.length:=by omega
    rw [List.take_length] at st
    simp [zdx,e1,e2,zc,z2,st.row.one.1,st.row.one.2.1,st.row.one.2.2]
    have bd:=st.bd
    refine hend _ n' ss fa ⟨st.frs.keep fun g hg => ?_,st.row.keep fun g hg => ?_,st.nd,st.bd⟩ fun g hg => ?_
    · have:=bd g (List.mem_append_right _ hg)
      rw [Heap.put_ne _ _ (by omega),Heap.put_ne _ _ (by omega)]
    · have:=bd g (List.mem_append_left _ hg)
      rw [Heap.put_ne _ _ (by omega),Heap.put_ne _ _ (by omega)]
    · rw [Heap.put_ne _ _ (by omega),Heap.put_ne _ _ (by omega)]; exact keep g (by omega)
set_option maxRecDepth 20000 in
set_option maxHeartbeats 1000000 in
theorem zahu {a:Agt} (hfl:a.frames.length≤4096) (hb:(zh a.frames).length≤4096) (hh:a.heap.length≤4096) (hr:VM.right a.heap (zh a.frames)=true) :
    QC Tryd.prog 33 [.agg a.avs] (.agg (VM.pack a).avs):=by
  refine QC.of' fun H n => ?_
  refine zwl _ H n _ ?_
  have av:(AV.agg a.avs).cells=a.avs:=by simp
  have hsu:(AV.agg a.avs).sure=true:=by simp [Agt.avs]
  have e9:a.avs.length=9:=rfl
  have e4:a.avs[4]? = some (.ro (a.frames.map Frm.avs)):=rfl
  have e5:a.avs[5]? = some (.ro (a.heap.map Cl.avs)):=rfl
  unfold zqc
  rw [av,e9]
  refine ⟨hsu,?_⟩
  simp [e4]
  generalize hX:Heap.put _ (n+1) _=HX
  have x0:HX n=some (.row 9 a.avs):=by rw [← hX,Heap.put_ne _ _ (by omega),Heap.put_at]
  have x1:∃ z,HX (n+1)=some (.row 9 z)∧z.length=9:=⟨_,by rw [← hX,Heap.put_at],rfl⟩
  have xk:∀ g,g < n→HX g=H g:=fun g hg=>by rw [← hX,Heap.put_ne _ _ (by omega),Heap.put_ne _ _ (by omega)]
  have each:∀ f∈a.frames,f.vars.length≤4096∧f.stack.length≤4096:=fun f hf=>by
    obtain ⟨s,t,e⟩:=List.append_of_mem hf
    have:zh a.frames=zh s ++ (f.vars ++ f.stack ++ zh t):=by rw [e]; simp [zh]
    rw [this] at hb
    simp only [List.length_append] at hb
    omega
  refine zabh hb hfl fun H' n' l hn keep sl bl => ?_
  have y0:=(keep n (by omega)).trans x0
  simp [y0,e5]
  let G:Nat→Prop:=fun g=>g∈own l
  let H0:Heap:=fun g=>if g∈own l then none else H' g
  have h0:∀ g o,H0 g=some o→¬ G g∧H' g=some o:=fun g o hg=>by
    by_cases h:g∈own l
    · simp only [H0,if_pos h] at hg; cases hg
    · simp only [H0,if_neg h] at hg; exact ⟨h,hg⟩
  have up:∀ g,g < n+2→H0 g=HX g:=fun g h2=>by
    simp only [H0]
    rw [if_neg (fun h=>by have:=bl g h; omega)]
    exact keep g h2
  refine QC.thaw (zagb a.heap (zh a.frames) hr (by omega) (by omega)) (G:=G) (H0:=H0) (zhk.cons (.same _) (zhk.cons (Slot.frzP (sz:=3) (by simpa [rowV] using sl) (fun g hg=>hg) (zbw _)) .nil)) h0 ?_
  have z0:=(up n (by omega)).trans x0
  obtain ⟨z,z1,z2⟩:=x1
  simp [zjr,z0,e4]
  have hcv:(VM.canonV a.heap (zh a.frames)).map Val.avs=(zh a.frames).map fun v=>(VM.put (VM.order a.heap (zh a.frames)) v).avs:=by
    unfold VM.canonV; rw [List.map_map]; rfl
  rw [hcv]
  refine zaeg (id:=a.id) (trip:=a.trip) (pr:=a.prog) (m:=a.permit) (p:=VM.put (VM.order a.heap (zh a.frames))) (hp:=VM.canonC a.heap (zh a.frames)) (h:=a.heap) hfl each hn z0 ⟨z,(up (n+1) (by omega)).trans z1,z2⟩ fun H3 n3 ss fa fc k3=>⟨?_,fun g hg => ?_⟩
  · have hp:VM.pack a=⟨a.id,a.trip,a.prog,a.frames.map (pkF (VM.put (VM.order a.heap (zh a.frames)))),VM.canonC a.heap (zh a.frames),a.permit⟩:=rfl
    rw [hp]
    refine zcf ?_ (.same _ (zcn (zao _)))
    rcases fc.row with ⟨q0,rfl | rfl⟩ | ⟨gf,cs,rfl,c1,c2,c3⟩
    · rw [List.eq_nil_of_length_eq_zero q0]; exact .nils
    · rw [List.eq_nil_of_length_eq_zero q0]; exact .zs
    · exact zaq.frz fc.frs c1 c2 c3 (by have:=fc.bd gf (by simp [own]); omega) (fun x hx=>by have:=fc.bd x (List.mem_append_right _ hx); omega) rfl
  · rw [k3 g hg,up g (by omega)]; exact xk g hg
end Go.Proofs.YtdmibdjokofclaaDoor
set_option maxRecDepth 8000
namespace Go.Proofs.YtdmibdjokofclaaDoor
open Go Go.RowKit
set_option maxRecDepth 20000 in
set_option maxHeartbeats 2000000 in
theorem zagv {a:Agt} {fs:List Frm} {f:Frm} (g:VM.Gone a fs f) (s:Spt) (hs:0≤s.fuel∧s.fuel≤2000):QC Tryd.prog 16 [.agg a.avs,.agg s.avs] (letV a s):=by
  refine QC.of' fun H nx => ?_
  suffices main:∀ Q:AV→Heap→Nat→Prop,(∀ v H' n',Frz H' nx v (letV a s)→Keep nx H' H→Q v H' n')→za Tryd.prog 16 [.agg a.avs,.agg s.avs] H nx Q from main _ fun v H' n' h1 h2=>⟨h1,h2⟩
  intro Q hQ
  refine zxw _ _ H nx _ ?_
  have hsu:(AV.agg a.avs).sure=true:=by simp [Agt.avs]
  have hss:(AV.agg s.avs).sure=true:=by simp [Spt.avs]
  obtain ⟨_,at9,al⟩:=zap a
  simp only [zsa,puth]
  refine ⟨hsu,hss,?_⟩
  generalize hX:Heap.put _ (nx+2) _=X
  have x0:X nx=some (.row 9 a.avs):=by rw [← hX,Heap.put_ne _ _ (by omega),Heap.put_ne _ _ (by omega),Heap.put_at]; rfl
  have x1:X (nx+1)=some (.row 4 [.str s.name,.ro (s.facts.map fun x=>.str x.key :: x.val.avs),.int .i64 s.fuel,.int .i64 s.cells]):=by rw [← hX,Heap.put_ne _ _ (by omega),Heap.put_at]; rfl
  have x2:X (nx+2)=some (.row 9 zag9):=by rw [← hX,Heap.put_at]; rfl
  have xk:Keep nx X H:=fun y hy=>by rw [← hX]; repeat' first | rw [Heap.put_ne _ _ (by omega)] | rfl
  clear hX
  have fl:a.frames.length≤12:=by rw [g.fr]; simp; have:=g.flen; omega
  simp [x0,al,at9]
  have hhl:=g.hlen
  have hrm:=g.room
  refine QC.call (zahu (by omega) (zaaf g) (by omega) (VM.roots_ok g)) ?_
  have gp:=VM.pack_gone g
  have hp:(VM.pack a).permit=a.permit:=rfl
  have hlet:VM.letIn a s=if s.cells < (VM.pack a).heap.length then none else some (VM.answer (VM.fueled (VM.pack a) (min (VM.pack a).permit.fuel s.fuel)) 1):=rfl
  unfold letV at hQ
  rw [hlet] at hQ
  generalize VM.pack a=b at *
  have gb:=gp.fuel
  have z9:zag9.length=9:=rfl
  have m2:¬ nx+2=nx+3∧¬ nx+1=nx+3∧¬ nx=nx+3:=by omega
  by_cases hc:s.cells < b.heap.length
  · rw [if_pos hc] at hQ
    simp [zgz,x0,x1,x2,Agt.avs,hc,z9]
    refine hQ _ _ _ ?_ fun y hy => ?_
    · exact FL.tup (.cons zagy (.cons (.same _ (.bool _)) .nil))
    · repeat' first | rw [Heap.put_ne _ _ (by omega)] | exact xk y hy
  · rw [if_neg hc] at hQ
    have gg:=VM.gone_fueled gp (n:=min b.permit.fuel s.fuel) (by omega)
    have st:=VM.gone_stk gg _ (by rw [gg.fr]; simp; exact .inr rfl)
    have aq:=zup (k:=1) gg.fr (by simp; have:=gp.flen; simp at this; omega) (by omega)
    by_cases hf:s.fuel < b.permit.fuel
    · have em:min b.permit.fuel s.fuel=s.fuel:=by omega
      rw [em] at aq hQ
      simp [zgz,x0,x1,x2,Agt.avs,hc,z9,hf]
      refine QC.call aq ?_
      generalize hc2:VM.answer (VM.fueled b s.fuel) 1=c at *
      obtain ⟨_,ct,cl⟩:=zap c
      have oc:=zck c
      have csu:(AV.agg c.avs).sure=true:=by simp [Agt.avs]
      simp [zha,x2,z9,ct,cl,csu]
      refine ⟨oc,hQ _ _ _ ?_ fun y hy => ?_⟩
      · exact FL.tup (.cons (.same _ (zgc _)) (.cons (.same _ (.bool _)) .nil))
      · repeat' first | rw [Heap.put_ne _ _ (by omega)] | exact xk y hy
    · have em:min b.permit.fuel s.fuel=b.permit.fuel:=by omega
      rw [em] at aq hQ
      simp [zgz,x0,x1,x2,Agt.avs,hc,z9,hf]
      refine QC.call aq ?_
      generalize hc2:VM.answer (VM.fueled b b.permit.fuel) 1=c at *
      obtain ⟨_,ct,cl⟩:=zap c
      have oc:=zck c
      have csu:(AV.agg c.avs).sure=true:=by simp [Agt.avs]
      simp [zha,x2,z9,ct,cl,csu]
      refine ⟨oc,hQ _ _ _ ?_ fun y hy => ?_⟩
      · exact FL.tup (.cons (.same _ (zgc _)) (.cons (.same _ (.bool _)) .nil))
      · repeat' first | rw [Heap.put_ne _ _ (by omega)] | exact xk y hy
end Go.Proofs.YtdmibdjokofclaaDoor
