/- made by a program (rowgen.py): ModelMerges: for every input the law returns true, and each argument reads behind the call as it read before. -/
import Derived.Test.YteebobbhhgmeiaaKMmd

set_option maxRecDepth 100000
namespace Go.Proofs.Yteebobbhhgmeiaa
open Go.RowKit Go.Shelf
attribute [local go_sem] Oper.semAt_some
def gV (g:TGroup):Value:=.agg #[.string g.name,.int .i64 g.policy]
def cV (c:TCell):Value:=.agg #[.int .i64 c.stamp.n,.int .i64 c.stamp.site,.int .i64 c.vec.a,.int .i64 c.vec.b,.bool c.gone,.string c.value,.int .i64 c.dead.a,.int .i64 c.dead.b]
structure KB (n₀ X:Nat) (W W':World):Prop where
 os:W'.os=W.os
 tape:W'.tape=W.tape
 output:W'.output=W.output
 size:W.heap.size≤W'.heap.size
 block:∀k,k <n₀→k≠X→W'.heap[k]?=W.heap[k]?
theorem KB.refl (n₀ X:Nat) (W:World):KB n₀ X W W:=⟨rfl,rfl,rfl,Nat.le_refl _,fun _ _ _=>rfl⟩
theorem KB.trans {n₀ X:Nat} {A B C:World} (h:KB n₀ X A B) (k:KB n₀ X B C):KB n₀ X A C:=
 ⟨k.os.trans h.os,k.tape.trans h.tape,k.output.trans h.output,Nat.le_trans h.size k.size,fun i h1 h2=>(k.block i h1 h2).trans (h.block i h1 h2)⟩
theorem KB.of_below {n₀ X:Nat} {A B:World} (h:Below n₀ A B):KB n₀ X A B:=⟨h.os,h.tape,h.output,h.size,fun k hk _=>h.block k hk⟩
theorem KB.cell {n₀ X:Nat} {A B:World} {p:Addr} (h:KB n₀ X A B) (hp:p.block <n₀) (hx:p.block≠X):B.cell? p=A.cell? p:=World.cell?_of_block (h.block _ hp hx)
theorem KB.putObj {n₀ X:Nat} {w:World} (hn:n₀≤w.heap.size) (W:World) (l:Nat) (o o':Obj) (hl:w.heap.size≤l) (h:W.heap[l]?=some o) (h1:o.isCells=false) (h2:o.isWalk=false):KB n₀ X W (W.putObj l o'):=
 KB.of_below (belowK_b hn W l o o' hl h h1 h2)
def GsAt (n₀ X:Nat) (W:World) (b off:Nat) (l:List TGroup):Prop:=(b <n₀∧b≠X)∧∀j g,l[j]?=some g→W.cell? ⟨b,off+j*2,none⟩=some (.string g.name)∧W.cell? ⟨b,off+j*2+1,none⟩=some (.int .i64 g.policy)
def CsAt (n₀ X:Nat) (W:World) (b off:Nat) (l:List TCell):Prop:=(b <n₀∧b≠X)∧∀j c,l[j]?=some c→W.cell? ⟨b,off+j*8,none⟩=some (.int .i64 c.stamp.n)∧W.cell? ⟨b,off+j*8+1,none⟩=some (.int .i64 c.stamp.site)∧W.cell? ⟨b,off+j*8+2,none⟩=some (.int .i64 c.vec.a)∧W.cell? ⟨b,off+j*8+3,none⟩=some (.int .i64 c.vec.b)∧W.cell? ⟨b,off+j*8+4,none⟩=some (.bool c.gone)∧W.cell? ⟨b,off+j*8+5,none⟩=some (.string c.value)∧W.cell? ⟨b,off+j*8+6,none⟩=some (.int .i64 c.dead.a)∧W.cell? ⟨b,off+j*8+7,none⟩=some (.int .i64 c.dead.b)
theorem GsAt.kept {n₀ X:Nat} {W W':World} {b off:Nat} {l:List TGroup} (h:GsAt n₀ X W b off l) (hb:KB n₀ X W W'):GsAt n₀ X W' b off l:=
 ⟨h.1,fun j g hg=>⟨(hb.cell (p:=⟨b,_,none⟩) h.1.1 h.1.2).trans (h.2 j g hg).1,(hb.cell (p:=⟨b,_,none⟩) h.1.1 h.1.2).trans (h.2 j g hg).2⟩⟩
theorem CsAt.kept {n₀ X:Nat} {W W':World} {b off:Nat} {l:List TCell} (h:CsAt n₀ X W b off l) (hb:KB n₀ X W W'):CsAt n₀ X W' b off l:=by
 refine⟨h.1,fun j c hc=>?_⟩
 obtain⟨h0,h1,h2,h3,h4,h5,h6,h7⟩:=h.2 j c hc
 have k:∀o,W'.cell? ⟨b,o,none⟩=W.cell? ⟨b,o,none⟩:=fun o=>hb.cell (p:=⟨b,o,none⟩) h.1.1 h.1.2
 exact⟨(k _).trans h0,(k _).trans h1,(k _).trans h2,(k _).trans h3,(k _).trans h4,(k _).trans h5,(k _).trans h6,(k _).trans h7⟩
theorem Bop {W W':World} (h:Below W.heap.size W W'):W.grownBy W' none:=⟨h.os,h.tape,h.output,h.size,fun k hk _=>h.block k hk⟩
def By1 (x:TGroup×TCell):Array Value:=#[gV x.1,cV x.2]
theorem B2h {α β:Type} (l:List α) (r:List β) (k:Nat) (x:α) (y:β) (hx:l[k]?=some x) (hy:r[k]?=some y):(l.zip r).take (k+1)=(l.zip r).take k++[(x,y)]:=by
 rw[List.take_add_one,(List.getElem?_zip_eq_some (z:=(x,y))).2 ⟨hx,hy⟩]
 rfl
set_option maxHeartbeats 4000000 in
theorem Bva (n:Nat) (hn:1≤n) (l B2 B3 n₀ b off cap b' off' cap' X:Nat) (gs:List TGroup) (cs:List TCell) (hlen:cs.length=gs.length) (hl4:gs.length≤4)
    (J Jx:List (TGroup×TCell)→World→Prop) (n1:Nat) (hn1:n₀≤n1)
    (hJa:AbidesFrom n1 J)
    (hY:∀pre x W,J pre W→pre.length <gs.length→YieldAt Fence.wide (n - 1) Try.prog l (By1 x) W fun e W'=>
      (e=.returned (.bool true)∧J (pre++[x]) W'∧KB n₀ X W W')∨(e=.returned (.bool false)∧Jx (pre++[x]) W'))
    (W:World) (hW1:n1=W.heap.size) (h2:W.cell? ⟨B2,0,none⟩=some (.slice (some ⟨b,off,none⟩) gs.length cap)) (h3:W.cell? ⟨B3,1,none⟩=some (.slice (some ⟨b',off',none⟩) cs.length cap')) (hB2:B2 <n₀∧B2≠X) (hB3:B3 <n₀∧B3≠X)
    (hg:GsAt n₀ X W b off gs) (hc:CsAt n₀ X W b' off' cs) (h0:J [] W):
    CallsIn Fence.wide n Try.prog 165 #[.func (.yield l) #[] #[],.pointer (some ⟨B2,0,none⟩),.pointer (some ⟨B3,0,none⟩)] W fun e W'=>(∃v,e=.returned v)∧
      ((∃ys,ys=gs.zip cs∧J ys W')∨(∃pre,(∃k,k≤gs.length∧pre=(gs.zip cs).take k)∧Jx pre W')):=by
  refine callsIn_of_wp Try.func165 rfl trivial ?_ rfl
  simp only[Try.ntmps165,List.size_toArray,List.length_cons,List.length_nil,Nat.reduceAdd,Nat.reduceSub,Array.replicate_succ,Array.replicate_zero,List.push_toArray,List.append_toArray,List.nil_append,List.cons_append]
  gi_wp2
  gi_loopw [8] (fun i wr=>∃k:Nat,k≤gs.length∧i=.int .i64 k∧J ((gs.zip cs).take k) wr∧KB n₀ X W wr∧W.heap.size≤wr.heap.size) (fun i _=>gs.length - (intOf i).toNat)
  case atStart=>exact⟨0,Nat.zero_le _,rfl,h0,KB.refl _ _ _,Nat.le_refl _⟩
  case round=>
    obtain⟨k,hk,rfl,hJs,hnx,hsz⟩:=hrel
    by_cases hlt:k <gs.length
    · have hlt':k <cs.length:=by omega
      obtain⟨hg1,hg2⟩:=(hg.kept hnx).2 k gs[k] (List.getElem?_eq_getElem hlt)
      have h2':=(hnx.cell (p:=⟨B2,0,none⟩) hB2.1 hB2.2).trans h2
      gi_wp2
      have hb3:Below wr.heap.size wr (wr.alloc (.cells #[.string gs[k].name,.int .i64 gs[k].policy] 79)):=(Below.refl _ wr).alloc (Nat.le_refl _) _
      have hv:wr.heap.size=wr.heap.size:=rfl
      have hn:=World.alloc_heap_new wr (.cells #[.string gs[k].name,.int .i64 gs[k].policy] 79)
      generalize wr.alloc (.cells #[.string gs[k].name,.int .i64 gs[k].policy] 79)=W3 at hb3 hn⊢
      have hb4:KB n₀ X wr W3:=KB.of_below (hb3.mono (Nat.le_trans hn1 (by rw[hW1];exact hsz)))
      have hb5:KB n₀ X W3 W3.drew:=KB.of_below ((Below.refl _ W3).drew)
      obtain⟨hc0,hc1,hc2,hc3,hc4,hc5,hc6,hc7⟩:=((hc.kept hnx).kept hb4).2 k cs[k] (List.getElem?_eq_getElem hlt')
      have h3':=((hnx.trans hb4).cell (p:=⟨B3,1,none⟩) hB3.1 hB3.2).trans h3
      have hz:((gs.zip cs).take k).length <gs.length:=by rw[List.length_take,List.length_zip];omega
      have hJ3:J ((gs.zip cs).take k) W3.drew:=hJa _ wr _ none hJs (Bop hb3.drew) (fun r e=>by cases e)
      obtain⟨fn,tmps,assign,body,hy,hR⟩:=hY _ (gs[k],cs[k]) _ hJ3 hz
      have hR2:RoundIn Fence.wide (n - 1) Try.prog l fn tmps assign body W3.drew fun e W'=>∃q:Bool,e=.returned (.bool q)∧(q=true→J ((gs.zip cs).take (k+1)) W'∧KB n₀ X wr W')∧(q=false→Jx ((gs.zip cs).take (k+1)) W'):=by
        refine hR.mono ?_
        rw[←B2h gs cs k gs[k] cs[k] (List.getElem?_eq_getElem hlt) (List.getElem?_eq_getElem hlt')]
        rintro e W' (⟨rfl,h1,h2⟩|⟨rfl,h1⟩)
        ·exact⟨true,rfl,⟨fun _=>⟨h1,(hb4.trans hb5).trans h2⟩,fun h=>by cases h⟩⟩
        ·exact⟨false,rfl,⟨fun h=>(by cases h),fun _=>h1⟩⟩
      clear hR
      have hm:Try.prog.follows .mixedOrders=true:=by kernel_rfl
      dsimp only[By1,gV,cV] at hy
      obtain⟨hn0,hn1'⟩:=cb2 hn
      gi_region_with_o (refine hR2.mono ?_;rintro e W4 ⟨q,rfl,hq1,hq2⟩)
      all_goals (cases q)
      all_goals gi_wp2
      all_goals first
        |(refine bodyPost_ret (results_none rfl _ _ _) rfl ?_;exact⟨⟨_,rfl⟩,.inr ⟨_,⟨k+1,by omega,rfl⟩,hq2 (by trivial)⟩⟩)
        | (obtain⟨q1,q2⟩:=hq1 (by trivial)
           exact⟨⟨k+1,by omega,rfl,q1,hnx.trans q2,Nat.le_trans hsz q2.size⟩,by simp[intOf];omega⟩)
    · obtain rfl:k=gs.length:=by omega
      gi_wp2
      go_end0
      exact⟨⟨_,rfl⟩,.inl ⟨_,rfl,by rw[List.take_of_length_le (by rw[List.length_zip];omega)] at hJs;exact hJs⟩⟩
set_option maxHeartbeats 1000000 in
theorem Bkz (n:Nat) (a:Option Addr) (len cap:Nat) (v1:Value) (key:ByteArray) (w:World):
  CallsIn Fence.wide n Try.prog 132 #[.slice a len cap,.agg #[.string key,v1]] w fun e w'=>e=.returned (.func (.func 165) #[] #[.pointer (some ⟨w.heap.size,0,none⟩),.pointer (some ⟨w.heap.size+1,0,none⟩)])∧w'=(w.alloc (.cells #[.slice a len cap] 66)).alloc (.cells #[.string key,v1] 71):=by
 refine callsIn_of_wp Try.func132 rfl trivial ?_ rfl
 simp only[Try.ntmps132,List.size_toArray,List.length_cons,List.length_nil,Nat.reduceAdd,Nat.reduceSub,Array.replicate_succ,Array.replicate_zero,List.push_toArray,List.append_toArray,List.nil_append,List.cons_append]
 gi_wp2
 go_ret
 exact⟨rfl,rfl⟩
theorem As5 (n:Nat) (hn:1≤n) (B2 B3 n₀ X b off cap b' off' cap':Nat) (gs:List TGroup) (cs:List TCell) (hlen:cs.length=gs.length) (hl4:gs.length≤4) (w:World) (hn₀:n₀≤w.heap.size)
  (h2:w.cell? ⟨B2,0,none⟩=some (.slice (some ⟨b,off,none⟩) gs.length cap)) (h3:w.cell? ⟨B3,1,none⟩=some (.slice (some ⟨b',off',none⟩) cs.length cap')) (hB2:B2 <n₀∧B2≠X) (hB3:B3 <n₀∧B3≠X)
  (hg:GsAt n₀ X w b off gs) (hc:CsAt n₀ X w b' off' cs):
  SeqStopsK Fence.wide n Try.prog 165 #[.pointer (some ⟨B2,0,none⟩),.pointer (some ⟨B3,0,none⟩)] By1 (KB n₀ X) (fun ys=>ys=gs.zip cs) (fun pre=>∃k,k≤gs.length∧pre=(gs.zip cs).take k) gs.length w:=fun l J Jx W hW hJ _ hY h0=>by
 have hk:KB n₀ X w W:=KB.of_below (hW.mono hn₀)
 exact Bva n hn l B2 B3 n₀ b off cap b' off' cap' X gs cs hlen hl4 J Jx W.heap.size (Nat.le_trans hn₀ hW.size) hJ hY W rfl ((hk.cell (p:=⟨B2,0,none⟩) hB2.1 hB2.2).trans h2) ((hk.cell (p:=⟨B3,1,none⟩) hB3.1 hB3.2).trans h3) hB2 hB3 (hg.kept hk) (hc.kept hk) h0
def TG (p:Int) (G:Int→TCell→Bool) (gs:List TGroup) (key:ByteArray) (cs:List TCell):Int:=
 if(p !=0)=true then p else if key.toList.isEmpty=true then 2 else if 32 <(key.size:Int) then 3 else if((cs.length:Int) !=(gs.length:Int))=true then 100 else bif(gs.zip cs).all (fun x=>G x.1.policy x.2) then 0 else 80
theorem Aal {β:Type} (B:Nat) (cs:Array Value) (t:TypeId):Own (fun(_:β) W=>W.heap[B]?=some (.cells cs t (0,0))):=fun s W W' row hs hg hr=>by
 refine(hg.block B (Iu hs) fun e=>?_).trans hs
 obtain⟨o,h1,h2⟩:=hr B e.symm
 rw[hs] at h1
 cases h1
 cases h2
theorem Jo (B:Nat) {W W':World} (h:Below W.heap.size W W'):KeepsFrom B W W':=⟨h.size,fun k _ _ hk _=>(h.block k (Iu hk)).trans hk⟩
theorem Vx {β:Type} (B n:Nat):OwnFrom B (fun(_:β) W=>n≤W.heap.size):=fun _ _ _ _ hs hg _=>Nat.le_trans hs hg.size
set_option maxHeartbeats 4000000 in
theorem Bmm (w:World) (a0 a1:Option Addr) (gs:List TGroup) (cs:List TCell) (key:ByteArray) (cap0 cap1:Nat) (p:Int) (G:Int→TCell→Bool)
    (hP:∀W,Below w.heap.size w W→Calls Try.prog 131 #[.slice a0 gs.length cap0] W fun e W'=>e=.returned (.int .i64 p)∧Below W.heap.size W W')
    (hp0:p=0→1≤gs.length∧gs.length≤4)
    (hC:∀(q:Int) (c:TCell) W,Calls Try.prog 38 #[.int .i64 q,cV c] W fun e W'=>e=.returned (.bool (G q c))∧Below W.heap.size W W')
    (hG:0 <gs.length→∃b off,a0=some ⟨b,off,none⟩∧GsAt w.heap.size w.heap.size w b off gs)
    (hS:0 <cs.length→∃b off,a1=some ⟨b,off,none⟩∧CsAt w.heap.size w.heap.size w b off cs):
    Calls Try.prog 65 #[.slice a0 gs.length cap0,.agg #[.string key,.slice a1 cs.length cap1]] w fun e W'=>e=.returned (.int .i64 (TG p G gs key cs))∧Below w.heap.size w W':=by
  refine(callsIn_wide (n:=5)).1 ?_
  refine callsIn_of_wp_marks Try.func65 rfl trivial ?_ rfl
  simp only[Try.ntmps65,List.size_toArray,List.length_cons,List.length_nil,Nat.reduceAdd,Nat.reduceSub,Array.replicate_succ,Array.replicate_zero,List.push_toArray,List.append_toArray,List.nil_append,List.cons_append]
  have hw2:Below w.heap.size w ((w.alloc (.cells #[.string key,.slice a1 cs.length cap1] 71)).alloc (.cells #[.int .i64 0] 26)):=((Below.refl _ w).alloc (Nat.le_refl _) _).alloc (by simp) _
  have hr1:=Pv (.cells #[.int .i64 0] 26) (HJ (w:=w) (.cells #[.string key,.slice a1 cs.length cap1] 71) rfl)
  have hr2:=HJ (w:=w.alloc (.cells #[.string key,.slice a1 cs.length cap1] 71)) (.cells #[.int .i64 0] 26) (n:=w.heap.size+1) (by simp)
  gi_wp2_with (first
    |(refine⟨trivial,?_⟩;gi_at_call 131;refine(callsIn_wide.2 (hP _ hw2)).mono ?_;rintro e W1 ⟨rfl,hb1⟩;have hx1:=FG hr1 hb1;have hx2:=FG hr2 hb1;obtain⟨c0,c1⟩:=cb2 hx1;have d0:=cb1 hx2;have f0:=fb1 hx2;have hB1:Below w.heap.size w W1:=hw2.trans (hb1.mono (by simp;omega));clear hr1 hr2 hb1)
    |(refine⟨trivial,?_⟩;gi_at_call 132;refine(Bkz _ _ _ _ _ _ _).mono ?_;rintro e W2 ⟨rfl,rfl⟩))
  · have h1:(p !=0)=true:=by assumption
    have e:TG p G gs key cs=p:=by unfold TG;rw[if_pos h1]
    have hc:=cb1 (Q0 (i:=0) hx2 (.int .i64 p))
    exact⟨.int .i64 p,by simp[results,Try.f65,go_sem,hc],by rw[e],hB1.setCell (p:=⟨w.heap.size+1,0,none⟩) (by simp) _⟩
  · have h1:(p !=0)=false:=by assumption
    have h2:key.toList.isEmpty=true:=by assumption
    have e:TG p G gs key cs=2:=by unfold TG;rw[if_neg (by rw[h1];simp),if_pos h2]
    have hc:=cb1 (Q0 (i:=0) hx2 (.int .i64 2))
    exact⟨.int .i64 2,by simp[results,Try.f65,go_sem,hc],by rw[e],hB1.setCell (p:=⟨w.heap.size+1,0,none⟩) (by simp) _⟩
  · have h1:(p !=0)=false:=by assumption
    have h2:key.toList.isEmpty=false:=by assumption
    have h3:32 <(key.size:Int):=by assumption
    have e:TG p G gs key cs=3:=by unfold TG;rw[if_neg (by rw[h1];simp),if_neg (by rw[h2];simp),if_pos h3]
    have hc:=cb1 (Q0 (i:=0) hx2 (.int .i64 3))
    exact⟨.int .i64 3,by simp[results,Try.f65,go_sem,hc],by rw[e],hB1.setCell (p:=⟨w.heap.size+1,0,none⟩) (by simp) _⟩
  · have h1:(p !=0)=false:=by assumption
    have h2:key.toList.isEmpty=false:=by assumption
    have h3:(key.size:Int)≤32:=by assumption
    have h4:((cs.length:Int) !=(gs.length:Int))=true:=by assumption
    have e:TG p G gs key cs=100:=by unfold TG;rw[if_neg (by rw[h1];simp),if_neg (by rw[h2];simp),if_neg (by omega),if_pos h4]
    have hc:=cb1 (Q0 (i:=0) hx2 (.int .i64 100))
    exact⟨.int .i64 100,by simp[results,Try.f65,go_sem,hc],by rw[e],hB1.setCell (p:=⟨w.heap.size+1,0,none⟩) (by simp) _⟩
  have h1:(p !=0)=false:=by assumption
  have h2:key.toList.isEmpty=false:=by assumption
  have h3:(key.size:Int)≤32:=by assumption
  have h4:((cs.length:Int) !=(gs.length:Int))=false:=by assumption
  have e:TG p G gs key cs=bif(gs.zip cs).all (fun x=>G x.1.policy x.2) then 0 else 80:=by unfold TG;rw[if_neg (by rw[h1];simp),if_neg (by rw[h2];simp),if_neg (by omega),if_neg (by rw[h4];simp)]
  have hp:p=0:=by simpa using h1
  clear h1
  subst hp
  have hlen : cs.length = gs.length := by have:(cs.length:Int)=gs.length:=by simpa using h4
                                          omega
  obtain⟨hl1,hl4⟩:=hp0 rfl
  obtain⟨b,off,rfl,hg⟩:=hG (by omega)
  obtain⟨b',off',rfl,hc⟩:=hS (by omega)
  have hW2:Below W1.heap.size W1 ((W1.alloc (.cells #[.slice (some ⟨b,off,none⟩) gs.length cap0] 66)).alloc (.cells #[.string key,.slice (some ⟨b',off',none⟩) cs.length cap1] 71)):=((Below.refl _ W1).alloc (Nat.le_refl _) _).alloc (by simp) _
  have hy2:=Pv (.cells #[.string key,.slice (some ⟨b',off',none⟩) cs.length cap1] 71) (HJ (w:=W1) (.cells #[.slice (some ⟨b,off,none⟩) gs.length cap0] 66) rfl)
  have hy3:=HJ (w:=W1.alloc (.cells #[.slice (some ⟨b,off,none⟩) gs.length cap0] 66)) (.cells #[.string key,.slice (some ⟨b',off',none⟩) cs.length cap1] 71) (n:=W1.heap.size+1) (by simp)
  have hz2:=FG hx2 hW2
  have hs1:=Iu hx2
  have hs2:=Iu hy3
  have hB2:=hB1.trans (hW2.mono hB1.size)
  generalize (W1.alloc (.cells #[.slice (some ⟨b,off,none⟩) gs.length cap0] 66)).alloc (.cells #[.string key,.slice (some ⟨b',off',none⟩) cs.length cap1] 71)=W2 at hW2 hy2 hy3 hz2 hs2 hB2⊢
  have hg2:GsAt W2.heap.size W2.heap.size W2 b off gs:=⟨⟨by have:=hg.1.1;omega,by have:=hg.1.1;omega⟩,fun j g hj=>⟨(hB2.cell (p:=⟨b,_,none⟩) hg.1.1).trans (hg.2 j g hj).1,(hB2.cell (p:=⟨b,_,none⟩) hg.1.1).trans (hg.2 j g hj).2⟩⟩
  have hc2:CsAt W2.heap.size W2.heap.size W2 b' off' cs:=by
    refine⟨⟨by have:=hc.1.1;omega,by have:=hc.1.1;omega⟩,fun j c hj=>?_⟩
    have k:∀o,W2.cell? ⟨b',o,none⟩=w.cell? ⟨b',o,none⟩:=fun o=>hB2.cell (p:=⟨b',o,none⟩) hc.1.1
    simp only[k]
    exact hc.2 j c hj
  refine wpIn_rangeFunc_ownH (F:=Fence.wide) rfl (by omega) (gf:=165) (lb:=#[.pointer (some ⟨W1.heap.size,0,none⟩),.pointer (some ⟨W1.heap.size+1,0,none⟩)]) rfl trivial (enters_of Try.func165 (by kernel_rfl) rfl)
    (As5 _ (by omega) W1.heap.size (W1.heap.size+1) W2.heap.size W2.heap.size b off cap0 b' off' cap1 gs cs hlen hl4 W2 (Nat.le_refl _) (cb1 hy2) (cb2 hy3).2 ⟨by omega,by omega⟩ ⟨by omega,by omega⟩ hg2 hc2)
    KB.trans (KB.putObj (Nat.le_refl _)) (Below.refl _ _) (fun _=>rfl)
    (fun pre W=>((∀x∈pre,G x.1.policy x.2=true)∧W.heap[w.heap.size+1]?=some (.cells #[.int .i64 0] 26 (0,0)))∧Below w.heap.size w W∧W2.heap.size≤W.heap.size)
    (fun c pre W=>((c=.ret∧∃x∈pre,G x.1.policy x.2=false)∧W.heap[w.heap.size+1]?=some (.cells #[.int .i64 80] 26 (0,0)))∧Below w.heap.size w W∧W2.heap.size≤W.heap.size)
    (OwnFrom.and (OwnFrom.and (ownFrom_pure _ _) (Own.from (Aal _ _ _) _)) (OwnFrom.and (ownFrom_below (Nat.le_refl _) hB2.size) (Vx _ _)))
    (fun c=>OwnFrom.and (OwnFrom.and (ownFrom_pure _ _) (Own.from (Aal _ _ _) _)) (OwnFrom.and (ownFrom_below (Nat.le_refl _) hB2.size) (Vx _ _)))
    ⟨⟨by simp,hz2⟩,hB2,Nat.le_refl _⟩
    (fun x a' W=>(∃B6 B7,a'={tmps:=#[Value.slice (some ⟨b,off,none⟩) gs.length cap0,Value.agg #[Value.string key,Value.slice (some ⟨b',off',none⟩) cs.length cap1],undef,
          Value.pointer (some {block:=w.heap.size,off:=0}),
          Value.pointer (some {block:=w.heap.size+1,off:=0}),Value.int IntKind.i64 0,Value.pointer (some ⟨B6,0,none⟩),Value.pointer (some ⟨B7,0,none⟩),
          Value.slice (some ⟨b,off,none⟩) gs.length cap0,Value.int IntKind.i64 0,Value.int IntKind.i64 0,Value.bool false,undef,
          Value.bool false,Value.pointer (some {block:=w.heap.size,off:=0}),Value.string key,Value.bool false,
          Value.bool (decide (32 <(key.size:Int))),Value.pointer (some {block:=w.heap.size,off:=0}),
          Value.string key,Value.int IntKind.i64 key.size,Value.bool (decide (32 <(key.size:Int))),Value.bool false,
          Value.pointer (some {block:=w.heap.size,off:=1}),Value.slice (some ⟨b',off',none⟩) cs.length cap1,
          Value.int IntKind.i64 cs.length,Value.slice (some ⟨b,off,none⟩) gs.length cap0,Value.int IntKind.i64 gs.length,
          Value.bool false,Value.slice (some ⟨b,off,none⟩) gs.length cap0,Value.agg #[Value.string key,Value.slice (some ⟨b',off',none⟩) cs.length cap1],
          Value.func (Fn.func 165) #[] #[Value.pointer (some {block:=W1.heap.size,off:=0}),Value.pointer (some {block:=W1.heap.size+1,off:=0})],
          gV x.1,cV x.2,undef,undef,undef,undef,undef],defers:=[]}∧
        (W.heap[B6]?=some (.cells #[.string x.1.name,.int .i64 x.1.policy] 79 (0,0))∧W.heap[B7]?=some (.cells #[.int .i64 x.2.stamp.n,.int .i64 x.2.stamp.site,.int .i64 x.2.vec.a,.int .i64 x.2.vec.b,.bool x.2.gone,.string x.2.value,.int .i64 x.2.dead.a,.int .i64 x.2.dead.b] 55 (0,0)))))
    (fun x a'=>Own.from (fun s X Y row hs hgr hr=>by
      obtain⟨B6,B7,e1,e2,e3⟩:=hs
      exact⟨B6,B7,e1,Aal B6 _ _ s X Y row e2 hgr hr,Aal B7 _ _ s X Y row e3 hgr hr⟩) _) ?assign ?body ?done ?stop
  case assign=>
    rintro l pre x W K ⟨⟨i1,i2⟩,i3,i4⟩ hK
    clear hlen h4
    dsimp only[By1,gV,cV] at hK⊢
    gi_wp2
    have hb:Below W.heap.size W ((W.alloc (.cells #[.string x.1.name,.int .i64 x.1.policy] 79)).alloc (.cells #[.int .i64 x.2.stamp.n,.int .i64 x.2.stamp.site,.int .i64 x.2.vec.a,.int .i64 x.2.vec.b,.bool x.2.gone,.string x.2.value,.int .i64 x.2.dead.a,.int .i64 x.2.dead.b] 55)):=((Below.refl _ W).alloc (Nat.le_refl _) _).alloc (by simp) _
    exact hK _ _ (Jo _ hb) (KB.of_below (hb.mono i4)) ⟨⟨i1,FG i2 hb⟩,i3.trans (hb.mono i3.size),Nat.le_trans i4 hb.size⟩ ⟨W.heap.size,W.heap.size+1,rfl,Pv _ (HJ _ rfl),HJ _ (by simp)⟩
  case body=>
    rintro l pre x a' W hl hr ⟨⟨i1,i2⟩,i3,i5⟩ ⟨B6,B7,rfl,e6,e7⟩ hlt
    obtain⟨k0,k1⟩:=cb2 e6
    obtain⟨m0,m1,m2,m3,m4,m5,m6,m7⟩:=cb8 e7
    have d0:=cb1 i2
    have f0:=fb1 i2
    cases hGx:G x.1.policy x.2 with
    | true=>
      gi_wp2_with (refine⟨trivial,?_⟩;gi_at_call 38;refine(CallsIn.inRound l (callsIn_wide.2 (hC x.1.policy x.2 _))).mono ?_;rw[hGx];rintro e W' ⟨rfl,hb⟩)
      exact⟨Jo _ hb,KB.of_below (hb.mono i5),⟨fun y hy=>(List.mem_append.1 hy).elim (i1 y) (fun e=>by simp at e;subst e;exact hGx),FG i2 hb⟩,i3.trans (hb.mono i3.size),Nat.le_trans i5 hb.size⟩
    | false=>
      gi_wp2_with (refine⟨trivial,?_⟩;gi_at_call 38;refine(CallsIn.inRound l (callsIn_wide.2 (hC x.1.policy x.2 _))).mono ?_;rw[hGx];rintro e W' ⟨rfl,hb⟩;have i4:=FG i2 hb;have d4:=cb1 i4;have f4:=fb1 i4)
      exact⟨(Jo _ hb).trans ((KeepsOthers.setCell _ _ _).from _),⟨⟨rfl,x,by simp,hGx⟩,Q0 (i:=0) i4 (.int .i64 80)⟩,(i3.trans (hb.mono i3.size)).setCell (p:=⟨w.heap.size+1,0,none⟩) (by simp) _,Nat.le_trans i5 (by rw[Am7];exact hb.size)⟩
  case done=>
    rintro D ys W hD rfl ⟨⟨i1,i2⟩,i3,i5⟩ hK
    have d0:=cb1 i2
    have f0:=fb1 i2
    gi_wp2
    have hK':=(KeepsOthers.setCell W ⟨w.heap.size+1,0,none⟩ (.int .i64 0)).same D _ hK rfl
    refine⟨by simp,.inl ⟨_,_,rfl,run_takeDeferred hK',?_⟩⟩
    have hc5:=cell_kept (World.cell?_setCell_same' W ⟨w.heap.size+1,0,none⟩ (.int .i64 0) (by rw[d0];rfl)) (grownBy_putObj' _ D (.deferred none)) (fun r e=>by cases e;exact⟨_,hK',rfl⟩)
    refine⟨.int .i64 0,?_,?_,(i3.setCell (p:=⟨w.heap.size+1,0,none⟩) (by simp) _).trans (belowK_b (w:=w) (Nat.le_refl _) _ D _ _ (by have:=hB2.size;omega) hK' rfl rfl)⟩
    ·simp[results,Try.f65,go_sem,hc5]
    ·rw[List.all_eq_true.2 (fun x hx=>i1 x hx)];rfl
  case stop=>
    rintro D c pre W hD ⟨k,hk,rfl⟩ ⟨⟨⟨rfl,x,hx,hGx⟩,i2⟩,i3,i5⟩ hK
    gi_wp2
    refine⟨by simp,.inl ⟨_,_,rfl,run_takeDeferred hK,?_⟩⟩
    have hc5:=cell_kept (cb1 i2) (grownBy_putObj' _ D (.deferred none)) (fun r e=>by cases e;exact⟨_,hK,rfl⟩)
    refine⟨.int .i64 80,?_,?_,i3.trans (belowK_b (w:=w) (Nat.le_refl _) W D _ _ (by have:=hB2.size;omega) hK rfl rfl)⟩
    ·simp[results,Try.f65,go_sem,hc5]
    · have:(gs.zip cs).all (fun x=>G x.1.policy x.2)=false:=by
        cases ha:(gs.zip cs).all (fun x=>G x.1.policy x.2) with
        |false=>rfl
        |true=>have:=(List.all_eq_true.1 ha) x (List.mem_of_mem_take hx);rw[hGx] at this;cases this
      rw[this];rfl
end Go.Proofs.Yteebobbhhgmeiaa
namespace Go.Proofs.Yteebobbhhgmeiaa
open Go.RowKit
def Ah (l:List TGroup) (r:TRow):Int:=bif AO l !=0 then AO l else bif r.key.size==0 then 2 else bif decide (32 <r.key.size) then 3 else bif r.cells.length !=l.length then 100 else bif(l.zip r.cells).all (fun x=>Bw x.1.policy x.2) then 0 else 80
def Au1 (a0:List TGroup) (a1:TRow):A:=.v (.int .i64 (Ah a0 a1))
def Au0 (_a0:List TGroup) (_a1:TRow):Objs:=[]
def Amu (_a0:List TGroup) (_a1:TRow):List Prop:=[]
theorem Bc7 (k:ByteArray):k.toList.isEmpty=(k.size==0):=by
 rw[ByteArray.toList_eq,Bool.eq_iff_iff,List.isEmpty_iff,beq_iff_eq,←LM]
 exact⟨fun h=>by rw[h];rfl,fun h=>List.eq_nil_of_length_eq_zero h⟩
theorem Bzh (l:List TGroup) (key:ByteArray) (cs:List TCell):TG (AO l) Bw l key cs=Ah l ⟨key,cs⟩:=by
 unfold TG Ah
 rw[Bc7]
 have e3:decide (32 <((key.size:Nat):Int))=decide (32 <key.size):=decide_eq_decide.2 (by omega)
 have e4:(((cs.length:Nat):Int) !=(l.length:Int))=(cs.length !=l.length):=by
  rw[Bool.eq_iff_iff,bne_iff_ne,bne_iff_ne];omega
 simp only[Bool.cond_eq_ite,e4,decide_eq_true_eq,show(32 <((key.size:Nat):Int))=(32 <key.size) from propext (by omega)]
theorem Bbi {R:World} {ad:Addr} {v:Value} (h:R.cell? ad=some v):ad=⟨ad.block,ad.off,none⟩:=by
 cases ad with|mk b o s=>
 cases s with
 |none=>rfl
 |some q=>
  exfalso
  unfold World.cell? at h
  cases hb:R.heap[b]? with
  |none=>simp only[hb] at h;cases h
  |some ob=>cases ob<;>simp[hb] at h
theorem B2z (b o k j:Nat):((⟨b,o,none⟩:Addr).add k).add j=⟨b,o+k+j,none⟩:=by
 rw[FF,FF]
section
variable {F:Nat→Prop} {N:Nm} {nx:Nat} {R:World}
theorem HC.at0 {l:List A} {b o k j:Nat} {x:Value} (h:HC F N nx R l ((⟨b,o,none⟩:Addr).add k)) (hx:l[j]?=some (.v x)):R.cell? ⟨b,o+k+j,none⟩=some x:=by
 obtain⟨y,h1,h2⟩:=h j _ hx
 rw[B2z] at h1
 rw[h1,h2.v_inv]
theorem B58 {gs:List TGroup} {v:Value} (hF:∀g,F g→g <R.heap.size) (h:Hv F N nx R (.sl .group gs) v):
  ∃a cap,v=.slice a gs.length cap∧(0 <gs.length→∃b off,a=some ⟨b,off,none⟩∧GsAt R.heap.size R.heap.size R b off gs):=by
 obtain⟨a,cap,e,_,h2⟩:=h.sl_inv
 refine⟨a,cap,e,fun hn=>?_⟩
 obtain⟨ad,rfl,hb,h3⟩:=h2 hn
 have hlt:=hF _ hb
 obtain⟨y,hy,_⟩:=h3 0 gs[0] (List.getElem?_eq_getElem hn) 0 (.v (.string gs[0].name)) rfl
 rw[Nat.zero_mul,add_zero,add_zero] at hy
 have hs:=Bbi hy
 rw[hs] at h3⊢
 refine⟨ad.block,ad.off,rfl,⟨hlt,Nat.ne_of_lt hlt⟩,fun j g hj=>?_⟩
 have h4:=h3 j g hj
 exact⟨h4.at0 (j:=0) (x:=.string g.name) rfl,h4.at0 (j:=1) (x:=.int .i64 g.policy) rfl⟩
theorem B56 {cs:List TCell} {v:Value} (hF:∀g,F g→g <R.heap.size) (h:Hv F N nx R (.sl .cell cs) v):
  ∃a cap,v=.slice a cs.length cap∧(0 <cs.length→∃b off,a=some ⟨b,off,none⟩∧CsAt R.heap.size R.heap.size R b off cs):=by
 obtain⟨a,cap,e,_,h2⟩:=h.sl_inv
 refine⟨a,cap,e,fun hn=>?_⟩
 obtain⟨ad,rfl,hb,h3⟩:=h2 hn
 have hlt:=hF _ hb
 obtain⟨y,hy,_⟩:=h3 0 cs[0] (List.getElem?_eq_getElem hn) 0 (.v (.int .i64 cs[0].stamp.n)) rfl
 rw[Nat.zero_mul,add_zero,add_zero] at hy
 have hs:=Bbi hy
 rw[hs] at h3⊢
 refine⟨ad.block,ad.off,rfl,⟨hlt,Nat.ne_of_lt hlt⟩,fun j c hj=>?_⟩
 have h4:=h3 j c hj
 exact⟨h4.at0 (j:=0) (x:=.int .i64 c.stamp.n) rfl,h4.at0 (j:=1) (x:=.int .i64 c.stamp.site) rfl,h4.at0 (j:=2) (x:=.int .i64 c.vec.a) rfl,h4.at0 (j:=3) (x:=.int .i64 c.vec.b) rfl,h4.at0 (j:=4) (x:=.bool c.gone) rfl,h4.at0 (j:=5) (x:=.string c.value) rfl,h4.at0 (j:=6) (x:=.int .i64 c.dead.a) rfl,h4.at0 (j:=7) (x:=.int .i64 c.dead.b) rfl⟩
theorem HRel.bare (hF:∀g,F g→g <R.heap.size):HRel F N 0 [] R:=⟨hF,fun _ _ h=>(by cases h),fun _ _ _ h=>(by cases h),fun _ _ _ _ _ h=>(by cases h)⟩
end
theorem CallOk.plain {P:Program} {f:FuncId} {args:List A} {x:Value} (h:CallOk P f args 0 [] 1 (.v x) 0 []) {F:Nat→Prop} {N:Nm} {R:World} {vs:List Value} (hF:∀g,F g→g <R.heap.size) (hv:HL F N 0 R args vs):
  Calls P f vs.toArray R fun e R'=>e=.returned x∧Below R.heap.size R R':=
 (h F N R vs (HRel.bare hF) hv).mono fun e R' ⟨y,F',N',e1,_,_,h4,h5⟩=>⟨by rw[e1,h4.v_inv],h5 (Nat.le_refl _)⟩
theorem Auz (a0:List TGroup) (a1:TRow) (_hp:∀p∈Amu a0 a1,p):CallOk Try.prog 65 [.sl .group a0,Af .row a1] 0 [] 1 (Au1 a0 a1) 0 (Au0 a0 a1):=by
 intro F N R vs hR hv
 obtain⟨v0,vs,rfl,h0,hv⟩:=hv.inv
 obtain⟨v1,vs,rfl,h1,hv⟩:=hv.inv
 rw[hv.inv0]
 obtain⟨us,rfl,h2⟩:=Hv.agg_inv (xs:=[.v (.string a1.key),.sl .cell a1.cells]) h1
 clear h1
 have h1:=h2
 obtain⟨u0,us,rfl,k0,h1⟩:=h1.inv
 obtain⟨u1,us,rfl,k1,h1⟩:=h1.inv
 rw[h1.inv0]
 rw[k0.v_inv]
 obtain⟨aa,cap0,rfl,g0⟩:=B58 hR.flt h0
 obtain⟨ab,cap1,rfl,g1⟩:=B56 hR.flt k1
 refine(Bmm R aa ab a0 a1.cells a1.key cap0 cap1 (AO a0) Bw ?_ FR ?_ g0 g1).mono ?_
 ·intro W hW
  exact(Y1 a0 (fun _ h=>by cases h)).plain (F:=F) (N:=N) (vs:=[_]) (fun g hg=>Nat.lt_of_lt_of_le (hR.flt g hg) hW.size) (HL.cons (h0.step (hR.grow hW).2) HL.nil)
 ·intro q c W
  have h:=(Arv q c (fun _ h=>by cases h)).plain (F:=fun _=>False) (N:=N) (R:=W) (vs:=[.int .i64 q,cV c]) (fun g hg=>hg.elim) (HL.cons (.v _) (HL.cons (.v _) HL.nil))
  rw[Jc] at h
  exact h
 ·rintro e W ⟨rfl,hb⟩
  rw[Bzh]
  exact⟨_,F,N,rfl,(hR.grow hb).1,Step.of_below hb,.v _,fun _=>hb⟩
def A5t:List A→Nat→Objs→Option AV:=A7 [.l .group,.t .row] 0 Au1 Au0 Amu
theorem Bf4:ET Try.prog 65 A5t:=Aq (ks:=[.l .group,.t .row]) Auz
noncomputable def B8p:=AU 65 A5t Ch
theorem B2m:CD Try.prog B8p:=Ak Bf4 B8o
noncomputable def Ci:=B8p
theorem B5m:CD Try.prog Ci:=B2m
end Go.Proofs.Yteebobbhhgmeiaa
namespace Go.Proofs.Yteebobbhhgmeiaa
open Go.RowKit
def TI (k:ByteArray):Int:=bif k.size==0 then 2 else bif decide (32 <k.size) then 3 else 0
def eqC (a b:TCell):Bool:=a.stamp.n==b.stamp.n&&a.stamp.site==b.stamp.site&&(a.vec.a==b.vec.a&&a.vec.b==b.vec.b)&&a.gone==b.gone&&a.value==b.value&&(a.dead.a==b.dead.a&&a.dead.b==b.dead.b)
def Ajc:List TCell→List TCell→Bool
 | [],[]=>true
 |x::xs,y::ys=>eqC x y&&Ajc xs ys
 |_,_=>false
def U3 (a b:TRow):Bool:=a.key==b.key&&Ajc a.cells b.cells
def Cp (r:TRow):Bool:=r.cells.all fun c=>eqC c zeroC
def Aqa (a0:ByteArray):Int:=bif a0.toList==(ByteArray.mk #[]).toList then(2:Int) else bif decide ((↑a0.size:Int) >(32:Int)) then(3:Int) else(0:Int)
def Aqb (a0:ByteArray):A:=.v (.int .i64 (Aqa a0))
def Ba3 (_a0:ByteArray):Objs:=[]
def A4k (_a0:ByteArray):List Prop:=[]
theorem Bp4 (a0:ByteArray):Eo (Au Ci L0) 9 129 [Af .str a0] 0 []=some (1,Aqb a0,0,Ba3 a0,A4k a0):=by kernel_rfl
theorem Bvm (a0:ByteArray) (hp:∀p∈A4k a0,p):CallOk Try.prog 129 [Af .str a0] 0 [] 1 (Aqb a0) 0 (Ba3 a0):=Ax (Ap B5m Av) (Bp4 a0) hp
def A4l (a0:ByteArray):A:=.v (.int .i64 (TI a0))
def A4j (_a0:ByteArray):Objs:=[]
def At4 (_a0:ByteArray):List Prop:=[]
theorem Ajb {a b:TCell}:eqC a b=true↔a=b:=by
 unfold eqC
 simp only[Bool.and_eq_true,beq_iff_eq]
 constructor
 ·rintro⟨⟨⟨⟨⟨h1,h2⟩,h3,h4⟩,h5⟩,h6⟩,h7,h8⟩
  cases a with|mk s v g t d=>cases b with|mk s' v' g' t' d'=>
  cases s;cases s';cases v;cases v';cases d;cases d'
  cases h1;cases h2;cases h3;cases h4;cases h5;cases h6;cases h7;cases h8
  rfl
 ·rintro rfl
  exact⟨⟨⟨⟨⟨rfl,rfl⟩,rfl,rfl⟩,rfl⟩,rfl⟩,rfl,rfl⟩
theorem XN:∀{a b:List TCell},Ajc a b=true↔a=b
 | [],[]=>by simp[Ajc]
 | [],_::_=>by simp[Ajc]
 |_::_,[]=>by simp[Ajc]
 |x::xs,y::ys=>by
  unfold Ajc
  rw[Bool.and_eq_true,Ajb,XN]
  simp
theorem By4 {a b:TRow}:U3 a b=true↔a=b:=by
 unfold U3
 rw[Bool.and_eq_true,beq_iff_eq,XN]
 cases a;cases b
 simp
theorem By2:∀(a b:List TCell),a.length=b.length→Ajc a b=JX a.length (fun i=>eqC (a.getD i (Ab TC.cell)) (b.getD i (Ab TC.cell))):=fun a b h=>by
 rw[Bool.eq_iff_iff,XN,JY]
 constructor
 ·rintro rfl i _
  exact Ajb.2 rfl
 ·intro g
  refine List.ext_getElem h fun i h1 h2=>?_
  have:=Ajb.1 (g i h1)
  rw[List.getD_eq_getElem?_getD,List.getD_eq_getElem?_getD,List.getElem?_eq_getElem h1,List.getElem?_eq_getElem h2] at this
  exact this
theorem Bp3 (k:ByteArray):Aqa k=TI k:=by
 unfold Aqa TI
 rw[SQ]
 congr 2
 exact dgt k.size 32
theorem Bp2 (a0:ByteArray) (_hp:∀p∈At4 a0,p):CallOk Try.prog 129 [Af .str a0] 0 [] 1 (A4l a0) 0 (A4j a0):=by
 have h:=Bvm a0 (fun _ h=>by cases h)
 unfold Aqb at h
 rw[Bp3] at h
 exact h
def Ba4:List A→Nat→Objs→Option AV:=A7 [.t .str] 0 A4l A4j At4
theorem Blz:ET Try.prog 129 Ba4:=Aq (ks:=[.t .str]) Bp2
noncomputable def Bxg:=AU 129 Ba4 Ci
theorem Bb0:CD Try.prog Bxg:=Ak Blz B5m
abbrev CH:Type:=(List TGroup)×Int×TRow
def NH (x:CH):St:=⟨42,1,[(0,.sl .group x.1),(3,.own 0 0),(6,.v (.int .i64 x.2.1))],[(0,some (.box 71 [.v (.string x.2.2.key),.sl .cell x.2.2.cells]))]⟩
def QE:St→Option CH
 |⟨42,1,[(0,.sl .group z0),(3,.own 0 0),(6,.v (.int .i64 z1))],[(0,some (.box 71 [.v (.string z2),.sl .cell z3]))]⟩=>some (z0,z1,⟨z2,z3⟩)
 |_=>none
theorem Ap8:∀s x,QE s=some x→s=NH x:=fun s x h=>by
 unfold QE at h
 split at h
 ·cases h;rfl
 ·cases h
def Adq:Co:=⟨1,1,[0,3,6],[],[(0,0)],[0],[4],[0]⟩
def A8f:CR:=⟨[],[(0,0)],[0,3,6],[0]⟩
def IN (a0:List TGroup) (a1:Int) (_a2:TRow):Bool:=!!decide (a1 <(↑a0.length:Int))
def D9 (a0:List TGroup) (a1:Int) (a2:TRow):Bool:=(IN a0 a1 a2)&&!Qz (a0.getD a1.toNat (Ab TC.group)).2 (a2.2.getD a1.toNat (Ab TC.cell))
def Axb (a0:List TGroup) (a1:Int) (a2:TRow):Bool:=(IN a0 a1 a2)&&!(D9 a0 a1 a2)
def Fi (x:CH):CH:=(x.1,IntKind.i64.wrap (x.2.1+(1:Int)),x.2.2)
def Fh (x:CH):Cnd:=some (Axb x.1 x.2.1 x.2.2)
def ON (x:CH):List Prop:=[((IN x.1 x.2.1 x.2.2)=true→(0:Int)≤x.2.1∧x.2.1 <(↑x.1.length:Int)),((IN x.1 x.2.1 x.2.2)=true→(0:Int)≤x.2.1∧x.2.1 <(↑x.2.2.2.length:Int))]
abbrev IP:CH→List Prop:=ON
def Us (x:CH):Bd:=[(some 0,some (!decide (x.2.1 <(↑x.1.length:Int))),⟨42,1,[(4,.dead)],[(0,some (.box 71 [.v (.string x.2.2.1),.sl .cell x.2.2.2]))]⟩),(none,some ((D9 x.1 x.2.1 x.2.2)),⟨42,1,[(4,.v (.int .i64 ((80:Int))))],[(0,some (.box 71 [.v (.string x.2.2.1),.sl .cell x.2.2.2]))]⟩)]
def G6 (x:CH):Nat:=((↑x.1.length:Int) - x.2.1).toNat
def Axd (x:CH):CH:=A5 Fi Fh (G6 x) x
theorem A4c (a0:List TGroup) (a1:Int) (a2:TRow):Bk (Au Bxg L0) 9 (Ae Try.prog 66 0) Adq (NH (a0,a1,a2))=some (ON (a0,a1,a2),Us (a0,a1,a2),Fh (a0,a1,a2),NH (Fi (a0,a1,a2))):=by kernel_rfl
theorem A4d (a0:List TGroup) (a1:Int) (a2:TRow) (hp:∀p∈IP (a0,a1,a2),p):∀p∈ON (a0,a1,a2),p:=hp
noncomputable def WL:=GH (Au Bxg L0) (Ae Try.prog 66 0) Adq A8f QE G6 Fi Fh IP Us
theorem Axc:∀s b ps outs,WL s=some (b,ps,outs)→Wf s ⟨ps,outs,none⟩∧Be (Au C0 L0) b s ps outs:=
 A6 (T:=NH) Bb0 Av (u:=9) (by kernel_rfl) (by decide) (fun⟨a0,a1,a2⟩=>A4c a0 a1 a2) (fun⟨a0,a1,a2⟩=>A4d a0 a1 a2) Ap8 (fun _=>AI (n:=42) rfl) fun _ _=>rfl
noncomputable def Adp:=CY 0 WL L0
theorem Axa:Gf Adp:=AP Axc Av
def Kk (_a0:List TGroup) (a1:TRow):Bool:=TI a1.1 !=(0:Int)
def I6 (a0:List TGroup) (_a1:TRow):Bool:=AO a0 !=(0:Int)
def Kj (a0:List TGroup) (a1:TRow):CH:=Axd (a0,(0:Int),a1)
def I5 (a0:List TGroup) (a1:TRow):Bool:=(↑a1.2.length:Int) !=(↑a0.length:Int)
def Aha (a0:List TGroup) (a1:TRow):Int:=bif(I6 a0 a1) then AO a0 else bif(Kk a0 a1) then TI a1.1 else bif(I5 a0 a1) then(100:Int) else bif D9 (Kj a0 a1).fst (Kj a0 a1).snd.fst (Kj a0 a1).snd.snd then(80:Int) else(0:Int)
def Ahb (a0:List TGroup) (a1:TRow):A:=.v (.int .i64 (Aha a0 a1))
def A4e (_a0:List TGroup) (_a1:TRow):Objs:=[]
def At0 (a0:List TGroup) (a1:TRow):List Prop:=[(∀(g:TGroup),g∈a0→Am g.1.size),((!(I6 a0 a1))=true→(!(Kk a0 a1))=true→(!(I5 a0 a1))=true→AB Fi Fh IP (G6 (a0,(0:Int),a1)) (a0,(0:Int),a1))]
theorem Blv (a0:List TGroup) (a1:TRow):Eo (Au Bxg Adp) 9 66 [.sl .group a0,Af .row a1] 0 []=some (1,Ahb a0 a1,0,A4e a0 a1,[(∀(g:TGroup),g∈a0→Am g.1.size),((!(I6 a0 a1))=true→(!(Kk a0 a1))=true→(!(I5 a0 a1))=true→Ae Try.prog (66:FuncId) (0:Nat)=Ae Try.prog (66:FuncId) (0:Nat)),((!(I6 a0 a1))=true→(!(Kk a0 a1))=true→(!(I5 a0 a1))=true→AB Fi Fh IP (G6 (a0,(0:Int),a1)) (a0,(0:Int),a1))]):=by kernel_rfl
theorem Bp0 (a0:List TGroup) (a1:TRow) (hp:∀p∈At0 a0 a1,p):CallOk Try.prog 66 [.sl .group a0,Af .row a1] 0 [] 1 (Ahb a0 a1) 0 (A4e a0 a1):=by
 have n0:=N0 hp
 have n1:((!(I6 a0 a1))=true→(!(Kk a0 a1))=true→(!(I5 a0 a1))=true→Ae Try.prog (66:FuncId) (0:Nat)=Ae Try.prog (66:FuncId) (0:Nat)):=by intros;rfl
 have n2:=N0 (N1 hp)
 exact Ax (Ap Bb0 Axa) (Blv a0 a1) (Aa n0 (Aa n1 (Aa n2 Ad)))
def At1 (a0:List TGroup) (a1:TRow):A:=.v (.int .i64 (Ah a0 a1))
def Atz (_a0:List TGroup) (_a1:TRow):Objs:=[]
def Al0 (a0:List TGroup) (_a1:TRow):List Prop:=[∀g∈a0,Am g.name.size]
theorem Aty (l:List TGroup) (r:TRow) (hb:∀g∈l,Am g.name.size):(∀p∈At0 l r,p)∧Aha l r=Ah l r:=by
 have hk2:I6 l r=(AO l !=0):=rfl
 have hk3:Kk l r=(TI r.key !=0):=rfl
 have hk0:I5 l r=(r.cells.length !=l.length):=by
  show((r.cells.length:Int) !=(l.length:Int))=_
  rw[Bool.eq_iff_iff,bne_iff_ne,bne_iff_ne];omega
 have main:I6 l r=false→I5 l r=false→AB Fi Fh IP (G6 (l,0,r)) (l,0,r)∧D9 (Kj l r).fst (Kj l r).snd.fst (Kj l r).snd.snd=!(l.zip r.cells).all (fun x=>Bw x.1.policy x.2):=fun h2 h0=>by
  rw[hk0] at h0
  have hlen:r.cells.length=l.length:=by simpa using h0
  have hl4:l.length≤4:=(FR (by rw[hk2] at h2;simpa using h2)).2
  have hf:∀i:Nat,D9 l (i:Int) r=(decide (i <l.length)&&!Bw (l.getD i (Ab TC.group)).2 (r.2.getD i (Ab TC.cell))):=fun i=>by
   unfold D9 IN
   rw[nn,LY,Int.toNat_natCast,Atj]
  obtain⟨h1,k,hk,hx,_,_,hb'⟩:=Io (fun i=>((l,(i:Int),r):CH)) l.length (fun i=>!Bw (l.getD i (Ab TC.group)).2 (r.2.getD i (Ab TC.cell))) Fi Fh IP (G6 (l,0,r)) (l,0,r) rfl (by show l.length≤((l.length:Int) - 0).toNat;omega)
   (fun i _ _=>by
    show((!!decide ((i:Int) <(l.length:Int)))&&!D9 l i r)=_
    rw[hf,nn,LY]
    cases decide (i <l.length)<;>rfl)
   (fun i hi _=>by
    show(l,IntKind.i64.wrap ((i:Int)+1),r)=(l,((i+1:Nat):Int),r)
    rw[DU (by omega)])
   (fun i _ _=>by
    have hin:(!!decide ((i:Int) <(l.length:Int)))=true→(i:Int) <(l.length:Int):=fun h=>by rw[nn] at h;exact of_decide_eq_true h
    exact Aa (fun h=>⟨by show(0:Int)≤(i:Int);omega,hin h⟩) (Aa (fun h=>⟨by show(0:Int)≤(i:Int);omega,by have:=hin h;show(i:Int) <(r.cells.length:Int);omega⟩) Ad))
  refine⟨h1,?_⟩
  have hr:Kj l r=(l,(k:Int),r):=hx
  rw[hr]
  show D9 l (k:Int) r=_
  rw[hf,hb',B6g l r.cells (Ab TC.group) (Ab TC.cell) (fun g c=>Bw g.policy c) hlen]
  congr 1
  exact Hk fun i _=>Bool.not_not _
 refine⟨Aa hb (Aa (fun h1 _ h3=>(main (by simpa using h1) (by simpa using h3)).1) Ad),?_⟩
 unfold Aha Ah
 have ek:TI r.key=bif r.key.size==0 then 2 else bif decide (32 <r.key.size) then 3 else 0:=rfl
 cases h2:I6 l r with
 |true=>rw[hk2] at h2;rw[h2];rfl
 | false=>
  rw[hk2] at h2
  rw[h2,cond_false,cond_false]
  cases h3:Kk l r with
  | true=>
   rw[cond_true]
   rw[hk3,ek] at h3
   rw[ek]
   cases h5:r.key.size==0 with
   |true=>rfl
   |false=>
    rw[h5] at h3
    cases h6:decide (32 <r.key.size) with
    |true=>rfl
    |false=>rw[h6] at h3;cases h3
  | false=>
   rw[hk3,ek] at h3
   have h5:(r.key.size==0)=false:=by
    cases h5:r.key.size==0 with
    |false=>rfl
    |true=>rw[h5] at h3;cases h3
   rw[h5] at h3
   have h6:decide (32 <r.key.size)=false:=by
    cases h6:decide (32 <r.key.size) with
    |false=>rfl
    |true=>rw[h6] at h3;cases h3
   rw[h5,h6,cond_false,cond_false,cond_false]
   cases h0:I5 l r with
   |true=>rw[hk0] at h0;rw[h0];rfl
   |false=>
    rw[cond_false,(main (by rw[hk2];exact h2) h0).2]
    rw[hk0] at h0
    rw[h0,cond_false]
    cases(l.zip r.cells).all (fun x=>Bw x.1.policy x.2)<;>rfl
theorem Blu (a0:List TGroup) (a1:TRow) (hp:∀p∈Al0 a0 a1,p):CallOk Try.prog 66 [.sl .group a0,Af .row a1] 0 [] 1 (At1 a0 a1) 0 (Atz a0 a1):=by
 have hb:∀g∈a0,Am g.name.size:=hp _ (List.mem_cons_self ..)
 have h:=Bp0 a0 a1 (Aty a0 a1 hb).1
 unfold Ahb at h
 rw[(Aty a0 a1 hb).2] at h
 exact h
def A4f:List A→Nat→Objs→Option AV:=A7 [.l .group,.t .row] 0 At1 Atz Al0
theorem Bff:ET Try.prog 66 A4f:=Aq (ks:=[.l .group,.t .row]) Blu
noncomputable def B61:=AU 66 A4f Bxg
theorem Brw:CD Try.prog B61:=Ak Bff Bb0
def Agw (a0:TCell) (a1:TCell):Bool:=a0.1.1==a1.1.1&&a0.1.2==a1.1.2&&(a0.2.1==a1.2.1&&a0.2.2==a1.2.2)&&a0.3==a1.3&&a0.4.toList==a1.4.toList&&(a0.5.1==a1.5.1&&a0.5.2==a1.5.2)
def Agx (a0:TCell) (a1:TCell):A:=.v (.bool (Agw a0 a1))
def A3r (_a0:TCell) (_a1:TCell):Objs:=[]
def Atm (_a0:TCell) (_a1:TCell):List Prop:=[]
theorem Blj (a0:TCell) (a1:TCell):Eo (Au B61 L0) 9 76 [Af .cell a0,Af .cell a1] 0 []=some (1,Agx a0 a1,0,A3r a0 a1,Atm a0 a1):=by kernel_rfl
theorem Bpp (a0:TCell) (a1:TCell) (hp:∀p∈Atm a0 a1,p):CallOk Try.prog 76 [Af .cell a0,Af .cell a1] 0 [] 1 (Agx a0 a1) 0 (A3r a0 a1):=Ax (Ap Brw Av) (Blj a0 a1) hp
def Atn (a0:TCell) (a1:TCell):A:=.v (.bool (eqC a0 a1))
def Atl (_a0:TCell) (_a1:TCell):Objs:=[]
def Alr (_a0:TCell) (_a1:TCell):List Prop:=[]
theorem Bli (a0:TCell) (a1:TCell) (_hp:∀p∈Alr a0 a1,p):CallOk Try.prog 76 [Af .cell a0,Af .cell a1] 0 [] 1 (Atn a0 a1) 0 (Atl a0 a1):=by
 have h:=Bpp a0 a1 (fun _ h=>by cases h)
 have e:Agw a0 a1=eqC a0 a1:=by unfold Agw;rw[tlb];rfl
 unfold Agx at h
 rw[e] at h
 exact h
def A3s:List A→Nat→Objs→Option AV:=A7 [.t .cell,.t .cell] 0 Atn Atl Alr
theorem Be6:ET Try.prog 76 A3s:=Aq (ks:=[.t .cell,.t .cell]) Bli
noncomputable def Bxh:=AU 76 A3s B61
theorem Bb1:CD Try.prog Bxh:=Ak Be6 Brw
abbrev CI:Type:=Int×TRow×TRow
def NJ (x:CI):St:=⟨39,2,[(2,.own 0 0),(3,.own 1 0),(5,.v (.int .i64 x.1))],[(0,some (.box 71 [.v (.string x.2.1.key),.sl .cell x.2.1.cells])),(1,some (.box 71 [.v (.string x.2.2.key),.sl .cell x.2.2.cells]))]⟩
def QI:St→Option CI
 |⟨39,2,[(2,.own 0 0),(3,.own 1 0),(5,.v (.int .i64 z0))],[(0,some (.box 71 [.v (.string z1),.sl .cell z2])),(1,some (.box 71 [.v (.string z3),.sl .cell z4]))]⟩=>some (z0,⟨z1,z2⟩,⟨z3,z4⟩)
 |_=>none
theorem Aql:∀s x,QI s=some x→s=NJ x:=fun s x h=>by
 unfold QI at h
 split at h
 ·cases h;rfl
 ·cases h
def Adv:Co:=⟨2,2,[2,3,5],[],[(0,0),(1,1)],[0,1],[4],[0,1]⟩
def A8i:CR:=⟨[],[(0,0),(1,1)],[2,3,5],[0,1]⟩
def IR (a0:Int) (a1:TRow) (_a2:TRow):Bool:=!!decide (a0 <(↑a1.2.length:Int))
def Ec (a0:Int) (a1:TRow) (a2:TRow):Bool:=(IR a0 a1 a2)&&!eqC (a1.2.getD a0.toNat (Ab TC.cell)) (a2.2.getD a0.toNat (Ab TC.cell))
def Axl (a0:Int) (a1:TRow) (a2:TRow):Bool:=(IR a0 a1 a2)&&!(Ec a0 a1 a2)
def Fo (x:CI):CI:=(IntKind.i64.wrap (x.1+(1:Int)),x.2.1,x.2.2)
def Fm (x:CI):Cnd:=some (Axl x.1 x.2.1 x.2.2)
def OQ (x:CI):List Prop:=[((IR x.1 x.2.1 x.2.2)=true→(0:Int)≤x.1∧x.1 <(↑x.2.1.2.length:Int)),((IR x.1 x.2.1 x.2.2)=true→(0:Int)≤x.1∧x.1 <(↑x.2.2.2.length:Int))]
abbrev IS:CI→List Prop:=OQ
def Uw (x:CI):Bd:=[(some 0,some (!decide (x.1 <(↑x.2.1.2.length:Int))),⟨39,2,[(4,.dead)],[(0,some (.box 71 [.v (.string x.2.1.1),.sl .cell x.2.1.2])),(1,some (.box 71 [.v (.string x.2.2.1),.sl .cell x.2.2.2]))]⟩),(none,some ((Ec x.1 x.2.1 x.2.2)),⟨39,2,[(4,.v (.bool (false)))],[(0,some (.box 71 [.v (.string x.2.1.1),.sl .cell x.2.1.2])),(1,some (.box 71 [.v (.string x.2.2.1),.sl .cell x.2.2.2]))]⟩)]
def G8 (x:CI):Nat:=((↑x.2.1.2.length:Int) - x.1).toNat
def Axn (x:CI):CI:=A5 Fo Fm (G8 x) x
theorem A4r (a0:Int) (a1:TRow) (a2:TRow):Bk (Au Bxh L0) 9 (Ae Try.prog 67 0) Adv (NJ (a0,a1,a2))=some (OQ (a0,a1,a2),Uw (a0,a1,a2),Fm (a0,a1,a2),NJ (Fo (a0,a1,a2))):=by kernel_rfl
theorem A4s (a0:Int) (a1:TRow) (a2:TRow) (hp:∀p∈IS (a0,a1,a2),p):∀p∈OQ (a0,a1,a2),p:=hp
noncomputable def WS:=GH (Au Bxh L0) (Ae Try.prog 67 0) Adv A8i QI G8 Fo Fm IS Uw
theorem Axm:∀s b ps outs,WS s=some (b,ps,outs)→Wf s ⟨ps,outs,none⟩∧Be (Au C0 L0) b s ps outs:=
 A6 (T:=NJ) Bb1 Av (u:=9) (by kernel_rfl) (by decide) (fun⟨a0,a1,a2⟩=>A4r a0 a1 a2) (fun⟨a0,a1,a2⟩=>A4s a0 a1 a2) Aql (fun _=>AI (n:=39) rfl) fun _ _=>rfl
noncomputable def Adu:=CY 0 WS L0
theorem Axk:Gf Adu:=AP Axm Av
def Kl (a0:TRow) (a1:TRow):CI:=Axn ((0:Int),a0,a1)
def I7 (a0:TRow) (a1:TRow):Bool:=!a0.1.toList==a1.1.toList||(↑a0.2.length:Int) !=(↑a1.2.length:Int)
def Ahi (a0:TRow) (a1:TRow):Bool:=bif(I7 a0 a1) then false else bif Ec (Kl a0 a1).fst (Kl a0 a1).snd.fst (Kl a0 a1).snd.snd then false else true
def Ahj (a0:TRow) (a1:TRow):A:=.v (.bool (Ahi a0 a1))
def A4t (_a0:TRow) (_a1:TRow):Objs:=[]
def Aua (a0:TRow) (a1:TRow):List Prop:=[((!(I7 a0 a1))=true→AB Fo Fm IS (G8 ((0:Int),a0,a1)) ((0:Int),a0,a1))]
theorem Bl3 (a0:TRow) (a1:TRow):Eo (Au Bxh Adu) 9 67 [Af .row a0,Af .row a1] 0 []=some (1,Ahj a0 a1,0,A4t a0 a1,[((!(I7 a0 a1))=true→Ae Try.prog (67:FuncId) (0:Nat)=Ae Try.prog (67:FuncId) (0:Nat)),((!(I7 a0 a1))=true→AB Fo Fm IS (G8 ((0:Int),a0,a1)) ((0:Int),a0,a1))]):=by kernel_rfl
theorem Bp7 (a0:TRow) (a1:TRow) (hp:∀p∈Aua a0 a1,p):CallOk Try.prog 67 [Af .row a0,Af .row a1] 0 [] 1 (Ahj a0 a1) 0 (A4t a0 a1):=by
 have n0:((!(I7 a0 a1))=true→Ae Try.prog (67:FuncId) (0:Nat)=Ae Try.prog (67:FuncId) (0:Nat)):=by intros;rfl
 have n1:=N0 hp
 exact Ax (Ap Bb1 Axk) (Bl3 a0 a1) (Aa n0 (Aa n1 Ad))
def Aub (a0:TRow) (a1:TRow):A:=.v (.bool (U3 a0 a1))
def At9 (_a0:TRow) (_a1:TRow):Objs:=[]
def Al8 (a0:TRow) (_a1:TRow):List Prop:=[Ag a0.cells.length]
theorem At8 (a b:TRow) (hb:Ag a.cells.length):(∀p∈Aua a b,p)∧Ahi a b=U3 a b:=by
 unfold Ag at hb
 have hk0:I7 a b=(!(a.key==b.key)||a.cells.length !=b.cells.length):=by
  show(!(a.key.toList==b.key.toList)||((a.cells.length:Int) !=(b.cells.length:Int)))=_
  rw[tlb]
  congr 1
  rw[Bool.eq_iff_iff,bne_iff_ne,bne_iff_ne];omega
 have main:I7 a b=false→AB Fo Fm IS (G8 (0,a,b)) (0,a,b)∧Ec (Kl a b).fst (Kl a b).snd.fst (Kl a b).snd.snd=!Ajc a.cells b.cells:=fun h0=>by
  rw[hk0] at h0
  have hlen:a.cells.length=b.cells.length:=by simpa using(Bool.or_eq_false_iff.1 h0).2
  have hf:∀i:Nat,Ec (i:Int) a b=(decide (i <a.cells.length)&&!eqC (a.2.getD i (Ab TC.cell)) (b.2.getD i (Ab TC.cell))):=fun i=>by
   unfold Ec IR
   rw[nn,LY,Int.toNat_natCast]
  obtain⟨h1,k,hk,hx,_,_,hb'⟩:=Io (fun i=>(((i:Int),a,b):CI)) a.cells.length (fun i=>!eqC (a.2.getD i (Ab TC.cell)) (b.2.getD i (Ab TC.cell))) Fo Fm IS (G8 (0,a,b)) (0,a,b) rfl (by show a.cells.length≤((a.cells.length:Int) - 0).toNat;omega)
   (fun i _ _=>by
    show((!!decide ((i:Int) <(a.cells.length:Int)))&&!Ec i a b)=_
    rw[hf,nn,LY]
    cases decide (i <a.cells.length)<;>rfl)
   (fun i hi _=>by
    show(IntKind.i64.wrap ((i:Int)+1),a,b)=(((i+1:Nat):Int),a,b)
    rw[DU (by omega)])
   (fun i _ _=>by
    have hin:(!!decide ((i:Int) <(a.cells.length:Int)))=true→(i:Int) <(a.cells.length:Int):=fun h=>by rw[nn] at h;exact of_decide_eq_true h
    exact Aa (fun h=>⟨by show(0:Int)≤(i:Int);omega,hin h⟩) (Aa (fun h=>⟨by show(0:Int)≤(i:Int);omega,by have:=hin h;show(i:Int) <(b.cells.length:Int);omega⟩) Ad))
  refine⟨h1,?_⟩
  have hr:Kl a b=((k:Int),a,b):=hx
  rw[hr]
  show Ec (k:Int) a b=_
  rw[hf,hb',By2 _ _ hlen]
  congr 1
  exact Hk fun i _=>Bool.not_not _
 refine⟨Aa (fun h=>(main (by simpa using h)).1) Ad,?_⟩
 unfold Ahi U3
 cases h0:I7 a b with
 | true=>
  rw[hk0] at h0
  rw[cond_true]
  cases hk:a.key==b.key with
  |false=>rfl
  |true=>
   rw[hk] at h0
   have hne:a.cells.length≠b.cells.length:=by simpa using h0
   cases he:Ajc a.cells b.cells with
   |false=>rfl
   |true=>exact absurd (congrArg List.length (XN.1 he)) hne
 |false=>
  rw[cond_false,(main h0).2]
  rw[hk0] at h0
  have:(a.key==b.key)=true:=by simpa using(Bool.or_eq_false_iff.1 h0).1
  rw[this,Bool.true_and]
  cases Ajc a.cells b.cells<;>rfl
theorem Bl2 (a0:TRow) (a1:TRow) (hp:∀p∈Al8 a0 a1,p):CallOk Try.prog 67 [Af .row a0,Af .row a1] 0 [] 1 (Aub a0 a1) 0 (At9 a0 a1):=by
 have hb:Ag a0.cells.length:=hp _ (List.mem_cons_self ..)
 have h:=Bp7 a0 a1 (At8 a0 a1 hb).1
 unfold Ahj at h
 rw[(At8 a0 a1 hb).2] at h
 exact h
def A4u:List A→Nat→Objs→Option AV:=A7 [.t .row,.t .row] 0 Aub At9 Al8
theorem Bfj:ET Try.prog 67 A4u:=Aq (ks:=[.t .row,.t .row]) Bl2
noncomputable def Bxi:=AU 67 A4u Bxh
theorem Bb2:CD Try.prog Bxi:=Ak Bfj Bb1
abbrev Dg:Type:=Int×TRow
def NG (x:Dg):St:=⟨19,1,[(1,.own 0 0),(3,.v (.int .i64 x.1))],[(0,some (.box 71 [.v (.string x.2.key),.sl .cell x.2.cells]))]⟩
def QD:St→Option Dg
 |⟨19,1,[(1,.own 0 0),(3,.v (.int .i64 z0))],[(0,some (.box 71 [.v (.string z1),.sl .cell z2]))]⟩=>some (z0,⟨z1,z2⟩)
 |_=>none
theorem Ap4:∀s x,QD s=some x→s=NG x:=fun s x h=>by
 unfold QD at h
 split at h
 ·cases h;rfl
 ·cases h
def Adn:Co:=⟨1,1,[1,3],[],[(0,0)],[0],[2],[0]⟩
def A8d:CR:=⟨[],[(0,0)],[1,3],[0]⟩
def KL (a0:Int) (a1:TRow):Bool:=!!decide (a0 <(↑a1.2.length:Int))
def Ff (a0:Int) (a1:TRow):Bool:=(KL a0 a1)&&!eqC (a1.2.getD a0.toNat (Ab TC.cell)) (TCell.mk (TStamp.mk (0:Int) (0:Int)) (TVec.mk (0:Int) (0:Int)) false (ByteArray.mk #[]) (TVec.mk (0:Int) (0:Int)))
def Aw6 (a0:Int) (a1:TRow):Bool:=(KL a0 a1)&&!(Ff a0 a1)
def G5 (x:Dg):Dg:=(IntKind.i64.wrap (x.1+(1:Int)),x.2)
def G4 (x:Dg):Cnd:=some (Aw6 x.1 x.2)
def OK (x:Dg):List Prop:=[((KL x.1 x.2)=true→(0:Int)≤x.1∧x.1 <(↑x.2.2.length:Int))]
abbrev Ki:Dg→List Prop:=OK
def Uq (x:Dg):Bd:=[(some 0,some (!decide (x.1 <(↑x.2.2.length:Int))),⟨19,1,[(2,.dead)],[(0,some (.box 71 [.v (.string x.2.1),.sl .cell x.2.2]))]⟩),(none,some ((Ff x.1 x.2)),⟨19,1,[(2,.v (.bool (false)))],[(0,some (.box 71 [.v (.string x.2.1),.sl .cell x.2.2]))]⟩)]
def IL (x:Dg):Nat:=((↑x.2.2.length:Int) - x.1).toNat
def OL (x:Dg):Dg:=A5 G5 G4 (IL x) x
theorem A37 (a0:Int) (a1:TRow):Bk (Au Bxi L0) 9 (Ae Try.prog 68 0) Adn (NG (a0,a1))=some (OK (a0,a1),Uq (a0,a1),G4 (a0,a1),NG (G5 (a0,a1))):=by kernel_rfl
theorem A38 (a0:Int) (a1:TRow) (hp:∀p∈Ki (a0,a1),p):∀p∈OK (a0,a1),p:=hp
noncomputable def WK:=GH (Au Bxi L0) (Ae Try.prog 68 0) Adn A8d QD IL G5 G4 Ki Uq
theorem Aw7:∀s b ps outs,WK s=some (b,ps,outs)→Wf s ⟨ps,outs,none⟩∧Be (Au C0 L0) b s ps outs:=
 A6 (T:=NG) Bb2 Av (u:=9) (by kernel_rfl) (by decide) (fun⟨a0,a1⟩=>A37 a0 a1) (fun⟨a0,a1⟩=>A38 a0 a1) Ap4 (fun _=>AI (n:=19) rfl) fun _ _=>rfl
noncomputable def Adm:=CY 0 WK L0
theorem Aw5:Gf Adm:=AP Aw7 Av
def Ag5 (a0:TRow):Bool:=bif Ff (OL ((0:Int),a0)).fst (OL ((0:Int),a0)).snd then false else true
def Ag6 (a0:TRow):A:=.v (.bool (Ag5 a0))
def A39 (_a0:TRow):Objs:=[]
def Att (a0:TRow):List Prop:=[(AB G5 G4 Ki (IL ((0:Int),a0)) ((0:Int),a0))]
theorem Blr (a0:TRow):Eo (Au Bxi Adm) 9 68 [Af .row a0] 0 []=some (1,Ag6 a0,0,A39 a0,[(Ae Try.prog (68:FuncId) (0:Nat)=Ae Try.prog (68:FuncId) (0:Nat)),(AB G5 G4 Ki (IL ((0:Int),a0)) ((0:Int),a0))]):=by kernel_rfl
theorem Bpy (a0:TRow) (hp:∀p∈Att a0,p):CallOk Try.prog 68 [Af .row a0] 0 [] 1 (Ag6 a0) 0 (A39 a0):=by
 have n1:=N0 hp
 exact Ax (Ap Bb2 Aw5) (Blr a0) (Aa rfl (Aa n1 Ad))
def Atu (a0:TRow):A:=.v (.bool (Cp a0))
def Ats (_a0:TRow):Objs:=[]
def Alu (a0:TRow):List Prop:=[Ag a0.cells.length]
theorem Atr (a:TRow) (hb:Ag a.cells.length):(∀p∈Att a,p)∧Ag5 a=Cp a:=by
 unfold Ag at hb
 have hf:∀i:Nat,Ff (i:Int) a=(decide (i <a.cells.length)&&!eqC (a.2.getD i (Ab TC.cell)) zeroC):=fun i=>by
  unfold Ff KL
  rw[nn,LY,Int.toNat_natCast]
  rfl
 obtain⟨h1,k,hk,hx,_,_,hb'⟩:=Io (fun i=>(((i:Int),a):Dg)) a.cells.length (fun i=>!eqC (a.2.getD i (Ab TC.cell)) zeroC) G5 G4 Ki (IL (0,a)) (0,a) rfl (by show a.cells.length≤((a.cells.length:Int) - 0).toNat;omega)
  (fun i _ _=>by
   show((!!decide ((i:Int) <(a.cells.length:Int)))&&!Ff i a)=_
   rw[hf,nn,LY]
   cases decide (i <a.cells.length)<;>rfl)
  (fun i hi _=>by
   show(IntKind.i64.wrap ((i:Int)+1),a)=(((i+1:Nat):Int),a)
   rw[DU (by omega)])
  (fun i _ _=>Aa (fun h=>⟨by show(0:Int)≤(i:Int);omega,by
   have h':(!!decide ((i:Int) <(a.cells.length:Int)))=true:=h
   rw[nn] at h';exact of_decide_eq_true h'⟩) Ad)
 refine⟨Aa h1 Ad,?_⟩
 have hr:OL (0,a)=((k:Int),a):=hx
 unfold Ag5
 rw[hr]
 show(bif Ff (k:Int) a then false else true)=_
 rw[hf,hb']
 unfold Cp
 rw[Byh a.cells (Ab TC.cell)]
 rw[show JX a.cells.length (fun i=>!!eqC (a.2.getD i (Ab TC.cell)) zeroC)=JX a.cells.length (fun i=>eqC (a.cells.getD i (Ab TC.cell)) zeroC) from Hk fun i _=>Bool.not_not _]
 cases JX a.cells.length (fun i=>eqC (a.cells.getD i (Ab TC.cell)) zeroC)<;>rfl
theorem Blq (a0:TRow) (hp:∀p∈Alu a0,p):CallOk Try.prog 68 [Af .row a0] 0 [] 1 (Atu a0) 0 (Ats a0):=by
 have hb:Ag a0.cells.length:=hp _ (List.mem_cons_self ..)
 have h:=Bpy a0 (Atr a0 hb).1
 unfold Ag6 at h
 rw[(Atr a0 hb).2] at h
 exact h
def A4a:List A→Nat→Objs→Option AV:=A7 [.t .row] 0 Atu Ats Alu
theorem Bfb:ET Try.prog 68 A4a:=Aq (ks:=[.t .row]) Blq
noncomputable def Bxj:=AU 68 A4a Bxi
theorem Bb3:CD Try.prog Bxj:=Ak Bfb Bb2
abbrev CK:Type:=(List TCell)×Int×Int
def NP (x:CK):St:=⟨16,1,[(6,.sl .cell x.1),(7,.v (.int .i64 x.2.1)),(8,.v (.int .i64 x.2.2))],[]⟩
def QV:St→Option CK
 |⟨16,1,[(6,.sl .cell z0),(7,.v (.int .i64 z1)),(8,.v (.int .i64 z2))],[]⟩=>some (z0,z1,z2)
 |_=>none
theorem Aq6:∀s x,QV s=some x→s=NP x:=fun s x h=>by
 unfold QV at h
 split at h
 ·cases h;rfl
 ·cases h
def Aei:Co:=⟨1,1,[6,7,8],[],[],[],[2],[]⟩
def A8y:CR:=⟨[],[],[6,7,8],[]⟩
def Fw (a0:List TCell) (a1:Int) (a2:Int):Bool:=!!decide (a2 <a1)&&!((a0.getD a2.toNat (Ab TC.cell)).1.1==(0:Int)&&(a0.getD a2.toNat (Ab TC.cell)).1.2==(0:Int)&&((a0.getD a2.toNat (Ab TC.cell)).2.1==(0:Int)&&(a0.getD a2.toNat (Ab TC.cell)).2.2==(0:Int)&&((a0.getD a2.toNat (Ab TC.cell)).3==false&&((a0.getD a2.toNat (Ab TC.cell)).4.toList==(ByteArray.mk #[]).toList&&((a0.getD a2.toNat (Ab TC.cell)).5.1==(0:Int)&&(a0.getD a2.toNat (Ab TC.cell)).5.2==(0:Int))))))
def Ax7 (a0:List TCell) (a1:Int) (a2:Int):Bool:=!!decide (a2 <a1)&&!(Fw a0 a1 a2)
def Hh (x:CK):CK:=(x.1,x.2.1,IntKind.i64.wrap (x.2.2+(1:Int)))
def Hg (x:CK):Cnd:=some (Ax7 x.1 x.2.1 x.2.2)
def OV (x:CK):List Prop:=[((!!decide (x.2.2 <x.2.1))=true→(0:Int)≤x.2.2∧x.2.2 <(↑x.1.length:Int))]
abbrev Kr:CK→List Prop:=OV
def UF (x:CK):Bd:=[(some 0,some (!decide (x.2.2 <x.2.1)),⟨16,1,[(2,.dead)],[]⟩),(none,some ((Fw x.1 x.2.1 x.2.2)),⟨16,2,[(2,.v (.bool (false)))],[]⟩)]
def IZ (x:CK):Nat:=(x.2.1 - x.2.2).toNat
def Ax9 (x:CK):CK:=A5 Hh Hg (IZ x) x
theorem A5p (a0:List TCell) (a1:Int) (a2:Int):Bk (Au Bxj L0) 9 (Ae Try.prog 52 0) Aei (NP (a0,a1,a2))=some (OV (a0,a1,a2),UF (a0,a1,a2),Hg (a0,a1,a2),NP (Hh (a0,a1,a2))):=by kernel_rfl
theorem A5q (a0:List TCell) (a1:Int) (a2:Int) (hp:∀p∈Kr (a0,a1,a2),p):∀p∈OV (a0,a1,a2),p:=hp
noncomputable def W7:=GH (Au Bxj L0) (Ae Try.prog 52 0) Aei A8y QV IZ Hh Hg Kr UF
theorem Ax8:∀s b ps outs,W7 s=some (b,ps,outs)→Wf s ⟨ps,outs,none⟩∧Be (Au C0 L0) b s ps outs:=
 A6 (T:=NP) Bb3 Av (u:=9) (by kernel_rfl) (by decide) (fun⟨a0,a1,a2⟩=>A5p a0 a1 a2) (fun⟨a0,a1,a2⟩=>A5q a0 a1 a2) Aq6 (fun _=>AI (n:=16) rfl) fun _ _=>rfl
noncomputable def Aeh:=CY 0 W7 L0
theorem Ax6:Gf Aeh:=AP Ax8 Av
def R8 (a0:TRow):CK:=Ax9 (a0.2,(↑a0.2.length:Int),(0:Int))
def Ah0 (a0:TRow):Bool:=bif Fw (R8 a0).fst (R8 a0).snd.fst (R8 a0).snd.snd then false else true
def Ah1 (a0:TRow):A:=.v (.bool (Ah0 a0))
def A5r (_a0:TRow):Objs:=[]
def Aux (a0:TRow):List Prop:=[(AB Hh Hg Kr (IZ (a0.2,(↑a0.2.length:Int),(0:Int))) (a0.2,(↑a0.2.length:Int),(0:Int)))]
theorem Bmq (a0:TRow):Eo (Au Bxj Aeh) 9 52 [Af .row a0] 0 []=some (1,Ah1 a0,0,A5r a0,[(Ae Try.prog (52:FuncId) (0:Nat)=Ae Try.prog (52:FuncId) (0:Nat)),(AB Hh Hg Kr (IZ (a0.2,(↑a0.2.length:Int),(0:Int))) (a0.2,(↑a0.2.length:Int),(0:Int)))]):=by kernel_rfl
theorem Bqk (a0:TRow) (hp:∀p∈Aux a0,p):CallOk Try.prog 52 [Af .row a0] 0 [] 1 (Ah1 a0) 0 (A5r a0):=by
 have n1:=N0 hp
 exact Ax (Ap Bb3 Ax6) (Bmq a0) (Aa rfl (Aa n1 Ad))
def Auy (a0:TRow):A:=.v (.bool (Cp a0))
def Auw (_a0:TRow):Objs:=[]
def Amt (a0:TRow):List Prop:=[Ag a0.cells.length]
theorem Auv (a:TRow) (hb:Ag a.cells.length):(∀p∈Aux a,p)∧Ah0 a=Cp a:=by
 unfold Ag at hb
 have hz:∀c:TCell,(c.1.1==(0:Int)&&c.1.2==(0:Int)&&(c.2.1==(0:Int)&&c.2.2==(0:Int)&&(c.3==false&&(c.4.toList==(ByteArray.mk #[]).toList&&(c.5.1==(0:Int)&&c.5.2==(0:Int))))))=eqC c zeroC:=fun c=>by
  rw[tlb]
  unfold eqC zeroC
  simp only[Bool.and_assoc]
 have hf:∀i:Nat,Fw a.2 (a.2.length:Int) (i:Int)=(decide (i <a.cells.length)&&!eqC (a.2.getD i (Ab TC.cell)) zeroC):=fun i=>by
  unfold Fw
  rw[nn,LY,Int.toNat_natCast,hz]
 obtain⟨h1,k,hk,hx,_,_,hb'⟩:=Io (fun i=>((a.2,(a.2.length:Int),(i:Int)):CK)) a.cells.length (fun i=>!eqC (a.2.getD i (Ab TC.cell)) zeroC) Hh Hg Kr (IZ (a.2,(a.2.length:Int),0)) (a.2,(a.2.length:Int),0) rfl (by show a.cells.length≤((a.cells.length:Int) - 0).toNat;omega)
  (fun i _ _=>by
   show((!!decide ((i:Int) <(a.cells.length:Int)))&&!Fw a.2 (a.2.length:Int) i)=_
   rw[hf,nn,LY]
   cases decide (i <a.cells.length)<;>rfl)
  (fun i hi _=>by
   show(a.2,(a.2.length:Int),IntKind.i64.wrap ((i:Int)+1))=(a.2,(a.2.length:Int),((i+1:Nat):Int))
   rw[DU (by omega)])
  (fun i _ _=>Aa (fun h=>⟨by show(0:Int)≤(i:Int);omega,by
   have h':(!!decide ((i:Int) <(a.cells.length:Int)))=true:=h
   rw[nn] at h';exact of_decide_eq_true h'⟩) Ad)
 refine⟨Aa h1 Ad,?_⟩
 have hr:R8 a=(a.2,(a.2.length:Int),(k:Int)):=hx
 unfold Ah0
 rw[hr]
 show(bif Fw a.2 (a.2.length:Int) (k:Int) then false else true)=_
 rw[hf,hb']
 unfold Cp
 rw[Byh a.cells (Ab TC.cell)]
 rw[show JX a.cells.length (fun i=>!!eqC (a.2.getD i (Ab TC.cell)) zeroC)=JX a.cells.length (fun i=>eqC (a.cells.getD i (Ab TC.cell)) zeroC) from Hk fun i _=>Bool.not_not _]
 cases JX a.cells.length (fun i=>eqC (a.cells.getD i (Ab TC.cell)) zeroC)<;>rfl
theorem Bmp (a0:TRow) (hp:∀p∈Amt a0,p):CallOk Try.prog 52 [Af .row a0] 0 [] 1 (Auy a0) 0 (Auw a0):=by
 have hb:Ag a0.cells.length:=hp _ (List.mem_cons_self ..)
 have h:=Bqk a0 (Auv a0 hb).1
 unfold Ah1 at h
 rw[(Auv a0 hb).2] at h
 exact h
def A5s:List A→Nat→Objs→Option AV:=A7 [.t .row] 0 Auy Auw Amt
theorem Bf3:ET Try.prog 52 A5s:=Aq (ks:=[.t .row]) Bmp
noncomputable def B8q:=AU 52 A5s Bxj
theorem B2n:CD Try.prog B8q:=Ak Bf3 Bb3
noncomputable def Cj:=B8q
theorem B5n:CD Try.prog Cj:=B2n
end Go.Proofs.Yteebobbhhgmeiaa
namespace Go.Proofs.Yteebobbhhgmeiaa
open Go.RowKit
def Om (a b:TVec):TVec:=⟨max (max 0 a.a) b.a,max (max 0 a.b) b.b⟩
def Afq (c:TCell):TVec:=Om c.vec c.dead
def J7 (cs:List TCell):TVec:=cs.foldl (fun v c=>Om v (Afq c)) ⟨0,0⟩
def Xo (l:List TGroup) (k:ByteArray):Int:=bif AO l !=0 then AO l else TI k
def Ald (l:List TGroup) (k:ByteArray):TRow:=⟨bif Xo l k !=0 then⟨#[]⟩ else k,bif Xo l k !=0 then[] else List.replicate l.length zeroC⟩
noncomputable def B62:=AU 155 (inl (Au Cj L0) 4 155) Cj
theorem Brx:CD Try.prog B62:=Ak (Afo (Ap B5n Av) 4 155) B5n
noncomputable def B63:=AU 109 (inl (Au B62 L0) 4 109) B62
theorem Bry:CD Try.prog B63:=Ak (Afo (Ap Brx Av) 4 109) Brx
def Um (a0:TVec) (a1:TVec):TVec:=TVec.mk (max (max (0:Int) a0.1) a1.1) (max (max (0:Int) a0.2) a1.2)
def Apv (a0:TVec) (a1:TVec):A:=.v (.agg ⟨[.int .i64 ((Um a0 a1).a),.int .i64 ((Um a0 a1).b)]⟩)
def Apu (_a0:TVec) (_a1:TVec):Objs:=[]
def A3d (_a0:TVec) (_a1:TVec):List Prop:=[]
theorem Bpk (a0:TVec) (a1:TVec):Eo (Au B63 L0) 9 110 [Af .vec a0,Af .vec a1] 0 []=some (1,Apv a0 a1,0,Apu a0 a1,[((0:Int)≤(0:Int)∧(0:Int) <(↑(2:Nat):Int)),((0:Nat) <(2:Nat)),((0:Int)≤(0:Int)∧(0:Int) <(↑(2:Nat):Int)),((0:Nat) <(2:Nat)),((0:Int)≤(1:Int)∧(1:Int) <(↑(2:Nat):Int)),((1:Nat) <(2:Nat)),((0:Int)≤(1:Int)∧(1:Int) <(↑(2:Nat):Int)),((1:Nat) <(2:Nat))]):=by kernel_rfl
theorem Bvi (a0:TVec) (a1:TVec) (_hp:∀p∈A3d a0 a1,p):CallOk Try.prog 110 [Af .vec a0,Af .vec a1] 0 [] 1 (Apv a0 a1) 0 (Apu a0 a1):=by
 have n0:((0:Int)≤(0:Int)∧(0:Int) <(↑(2:Nat):Int)):=by first|rfl|decide+kernel
 have n1:((0:Nat) <(2:Nat)):=by first|rfl|decide+kernel
 have n4:((0:Int)≤(1:Int)∧(1:Int) <(↑(2:Nat):Int)):=by first|rfl|decide+kernel
 have n5:((1:Nat) <(2:Nat)):=by first|rfl|decide+kernel
 exact Ax (Ap Bry Av) (Bpk a0 a1) (Aa n0 (Aa n1 (Aa n0 (Aa n1 (Aa n4 (Aa n5 (Aa n4 (Aa n5 Ad))))))))
def Bay:List A→Nat→Objs→Option AV:=A7 [.t .vec,.t .vec] 0 Apv Apu A3d
theorem Bla:ET Try.prog 110 Bay:=Aq (ks:=[.t .vec,.t .vec]) Bvi
noncomputable def B64:=AU 110 Bay B63
theorem Brz:CD Try.prog B64:=Ak Bla Bry
def Zl (a0:TCell):TVec:=Um a0.2 a0.5
def Zn (a0:TCell):A:=.v (.agg ⟨[.int .i64 ((Zl a0).a),.int .i64 ((Zl a0).b)]⟩)
def Zm (_a0:TCell):Objs:=[]
def VD (_a0:TCell):List Prop:=[]
theorem Be5 (a0:TCell):Eo (Au B64 L0) 9 44 [Af .cell a0] 0 []=some (1,Zn a0,0,Zm a0,VD a0):=by kernel_rfl
theorem Blg (a0:TCell) (hp:∀p∈VD a0,p):CallOk Try.prog 44 [Af .cell a0] 0 [] 1 (Zn a0) 0 (Zm a0):=Ax (Ap Brz Av) (Be5 a0) hp
def Atk:List A→Nat→Objs→Option AV:=A7 [.t .cell] 0 Zn Zm VD
theorem A79:ET Try.prog 44 Atk:=Aq (ks:=[.t .cell]) Blg
noncomputable def B65:=AU 44 Atk B64
theorem Br0:CD Try.prog B65:=Ak A79 Brz
def LU (a0:TCell):TVec:=TVec.mk (max (max (0:Int) a0.2.1) a0.5.1) (max (max (0:Int) a0.2.2) a0.5.2)
def UX (a0:TCell):A:=.v (.agg ⟨[.int .i64 ((LU a0).a),.int .i64 ((LU a0).b)]⟩)
def UW (_a0:TCell):Objs:=[]
def Ab7 (_a0:TCell):List Prop:=[]
theorem A6z (a0:TCell):Eo (Au B65 L0) 9 43 [Af .cell a0] 0 []=some (1,UX a0,0,UW a0,[((0:Int)≤(0:Int)∧(0:Int) <(↑(2:Nat):Int)),((0:Nat) <(2:Nat)),((0:Int)≤(0:Int)∧(0:Int) <(2:Int)),((0:Nat) <(2:Nat)),((0:Int)≤(0:Int)∧(0:Int) <(2:Int)),((0:Nat) <(2:Nat)),((0:Int)≤(0:Int)∧(0:Int) <(2:Int)),((0:Nat) <(2:Nat)),((0:Int)≤(1:Int)∧(1:Int) <(2:Int)),((1:Nat) <(2:Nat)),((0:Int)≤(1:Int)∧(1:Int) <(2:Int)),((1:Nat) <(2:Nat)),((0:Int)≤(1:Int)∧(1:Int) <(2:Int)),((1:Nat) <(2:Nat)),((0:Int)≤(1:Int)∧(1:Int) <(↑(2:Nat):Int)),((1:Nat) <(2:Nat)),((0:Int)≤(0:Int)∧(0:Int) <(2:Int)),((0:Nat) <(2:Nat)),((0:Int)≤(0:Int)∧(0:Int) <(2:Int)),((0:Nat) <(2:Nat)),((0:Int)≤(0:Int)∧(0:Int) <(2:Int)),((0:Nat) <(2:Nat)),((0:Int)≤(1:Int)∧(1:Int) <(2:Int)),((1:Nat) <(2:Nat)),((0:Int)≤(1:Int)∧(1:Int) <(2:Int)),((1:Nat) <(2:Nat)),((0:Int)≤(1:Int)∧(1:Int) <(2:Int)),((1:Nat) <(2:Nat))]):=by kernel_rfl
theorem Bcn (a0:TCell) (_hp:∀p∈Ab7 a0,p):CallOk Try.prog 43 [Af .cell a0] 0 [] 1 (UX a0) 0 (UW a0):=by
 have n0:((0:Int)≤(0:Int)∧(0:Int) <(↑(2:Nat):Int)):=by first|rfl|decide+kernel
 have n1:((0:Nat) <(2:Nat)):=by first|rfl|decide+kernel
 have n2:((0:Int)≤(0:Int)∧(0:Int) <(2:Int)):=by first|rfl|decide+kernel
 have n8:((0:Int)≤(1:Int)∧(1:Int) <(2:Int)):=by first|rfl|decide+kernel
 have n9:((1:Nat) <(2:Nat)):=by first|rfl|decide+kernel
 have n14:((0:Int)≤(1:Int)∧(1:Int) <(↑(2:Nat):Int)):=by first|rfl|decide+kernel
 exact Ax (Ap Br0 Av) (A6z a0) (Aa n0 (Aa n1 (Aa n2 (Aa n1 (Aa n2 (Aa n1 (Aa n2 (Aa n1 (Aa n8 (Aa n9 (Aa n8 (Aa n9 (Aa n8 (Aa n9 (Aa n14 (Aa n9 (Aa n2 (Aa n1 (Aa n2 (Aa n1 (Aa n2 (Aa n1 (Aa n8 (Aa n9 (Aa n8 (Aa n9 (Aa n8 (Aa n9 Ad))))))))))))))))))))))))))))
def Aiy:List A→Nat→Objs→Option AV:=A7 [.t .cell] 0 UX UW Ab7
theorem Azy:ET Try.prog 43 Aiy:=Aq (ks:=[.t .cell]) Bcn
noncomputable def Bxl:=AU 43 Aiy B65
theorem Bb4:CD Try.prog Bxl:=Ak Azy Br0
abbrev CA:Type:=Int×TRow×TVec
def MH (x:CA):St:=⟨21,3,[(1,.own 0 0),(3,.own 2 0),(4,.v (.int .i64 x.1))],[(0,some (.box 71 [.v (.string x.2.1.key),.sl .cell x.2.1.cells])),(2,some (.box 31 [.v (.int .i64 x.2.2.a),.v (.int .i64 x.2.2.b)]))]⟩
def OP:St→Option CA
 |⟨21,3,[(1,.own 0 0),(3,.own 2 0),(4,.v (.int .i64 z0))],[(0,some (.box 71 [.v (.string z1),.sl .cell z2])),(2,some (.box 31 [.v (.int .i64 z3),.v (.int .i64 z4)]))]⟩=>some (z0,⟨z1,z2⟩,⟨z3,z4⟩)
 |_=>none
theorem Al3:∀s x,OP s=some x→s=MH x:=fun s x h=>by
 unfold OP at h
 split at h
 ·cases h;rfl
 ·cases h
def ZA:Co:=⟨3,3,[1,3,4],[],[(0,0),(2,2)],[0,2],[],[0,2]⟩
def A4m:CR:=⟨[],[(0,0),(2,2)],[1,3,4],[0,2]⟩
def RU (a0:Int) (a1:TRow) (_a2:TVec):Bool:=!!decide (a0 <(↑a1.2.length:Int))
def Aqd (a0:Int) (a1:TRow) (a2:TVec):TVec:=Um a2 (Zl (a1.2.getD a0.toNat (Ab TC.cell)))
def F8 (x:CA):CA:=(IntKind.i64.wrap (x.1+(1:Int)),x.2.1,Aqd x.1 x.2.1 x.2.2)
def F7 (x:CA):Cnd:=some ((RU x.1 x.2.1 x.2.2))
def Nn (x:CA):List Prop:=[((RU x.1 x.2.1 x.2.2)=true→(0:Int)≤x.1∧x.1 <(↑x.2.1.2.length:Int))]
abbrev Jt:CA→List Prop:=Nn
def RV (x:CA):Bd:=[(some 0,some (!decide (x.1 <(↑x.2.1.2.length:Int))),⟨21,3,[],[(0,some (.box 71 [.v (.string x.2.1.1),.sl .cell x.2.1.2])),(2,some (.box 31 [.v (.int .i64 x.2.2.1),.v (.int .i64 x.2.2.2)]))]⟩)]
def Ie (x:CA):Nat:=((↑x.2.1.2.length:Int) - x.1).toNat
def No (x:CA):CA:=A5 F8 F7 (Ie x) x
theorem Axg (a0:Int) (a1:TRow) (a2:TVec):Bk (Au Bxl L0) 9 (Ae Try.prog 70 0) ZA (MH (a0,a1,a2))=some (Nn (a0,a1,a2),RV (a0,a1,a2),F7 (a0,a1,a2),MH (F8 (a0,a1,a2))):=by kernel_rfl
theorem Axh (a0:Int) (a1:TRow) (a2:TVec) (hp:∀p∈Jt (a0,a1,a2),p):∀p∈Nn (a0,a1,a2),p:=hp
noncomputable def Uu:=GH (Au Bxl L0) (Ae Try.prog 70 0) ZA A4m OP Ie F8 F7 Jt RV
theorem Aqe:∀s b ps outs,Uu s=some (b,ps,outs)→Wf s ⟨ps,outs,none⟩∧Be (Au C0 L0) b s ps outs:=
 A6 (T:=MH) Bb4 Av (u:=9) (by kernel_rfl) (by decide) (fun⟨a0,a1,a2⟩=>Axg a0 a1 a2) (fun⟨a0,a1,a2⟩=>Axh a0 a1 a2) Al3 (fun _=>AI (n:=21) rfl) fun _ _=>rfl
noncomputable def Zz:=CY 0 Uu L0
theorem Aqc:Gf Zz:=AP Aqe Av
def Zy (a0:TRow):TVec:=(No ((0:Int),a0,TVec.mk (0:Int) (0:Int))).snd.snd
def ZB (a0:TRow):A:=.v (.agg ⟨[.int .i64 ((Zy a0).a),.int .i64 ((Zy a0).b)]⟩)
def At5 (_a0:TRow):Objs:=[]
def Al5 (a0:TRow):List Prop:=[(AB F8 F7 Jt (Ie ((0:Int),a0,TVec.mk (0:Int) (0:Int))) ((0:Int),a0,TVec.mk (0:Int) (0:Int)))]
theorem Bfi (a0:TRow):Eo (Au Bxl Zz) 9 70 [Af .row a0] 0 []=some (1,ZB a0,0,At5 a0,[(Ae Try.prog (70:FuncId) (0:Nat)=Ae Try.prog (70:FuncId) (0:Nat)),(AB F8 F7 Jt (Ie ((0:Int),a0,TVec.mk (0:Int) (0:Int))) ((0:Int),a0,TVec.mk (0:Int) (0:Int)))]):=by kernel_rfl
theorem Bl0 (a0:TRow) (hp:∀p∈Al5 a0,p):CallOk Try.prog 70 [Af .row a0] 0 [] 1 (ZB a0) 0 (At5 a0):=by
 have n1:=N0 hp
 exact Ax (Ap Bb4 Aqc) (Bfi a0) (Aa rfl (Aa n1 Ad))
def Al6 (a0:TRow):A:=.v (.agg ⟨[.int .i64 (J7 a0.cells).a,.int .i64 (J7 a0.cells).b]⟩)
def Al4 (_a0:TRow):Objs:=[]
def Adt (a0:TRow):List Prop:=[Am a0.cells.length]
theorem Asf (cs:List TCell) (i:Nat) (h:i <cs.length):J7 (cs.take (i+1))=Om (J7 (cs.take i)) (Afq (cs.getD i (Ab TC.cell))):=by
 unfold J7
 rw[List.take_add_one,List.getElem?_eq_getElem h,List.getD_eq_getElem?_getD,List.getElem?_eq_getElem h,List.foldl_append]
 rfl
theorem Al2 (a:TRow) (hb:Am a.cells.length):(∀p∈Al5 a,p)∧Zy a=J7 a.cells:=by
 unfold Am at hb
 obtain⟨h1,k,hk,hx,_,hst,_⟩:=Io (fun i=>(((i:Int),a,J7 (a.cells.take i)):CA)) a.cells.length (fun _=>false) F8 F7 Jt (Ie (0,a,⟨0,0⟩)) (0,a,⟨0,0⟩) rfl (by show a.cells.length≤((a.cells.length:Int) - 0).toNat;omega)
  (fun i _ _=>by
   show(!!decide ((i:Int) <(a.cells.length:Int)))=_
   rw[nn,LY,Bool.not_false,Bool.and_true])
  (fun i hi _=>by
   show(IntKind.i64.wrap ((i:Int)+1),a,Om (J7 (a.cells.take i)) (Afq (a.cells.getD ((i:Int)).toNat (Ab TC.cell))))=(((i+1:Nat):Int),a,J7 (a.cells.take (i+1)))
   rw[DU (by omega),Int.toNat_natCast,Asf _ _ hi])
  (fun i _ _=>Aa (fun h=>⟨by show(0:Int)≤(i:Int);omega,by
   have h':(!!decide ((i:Int) <(a.cells.length:Int)))=true:=h
   rw[nn] at h';exact of_decide_eq_true h'⟩) Ad)
 refine⟨Aa h1 Ad,?_⟩
 have hkn:k=a.cells.length:=by
  rcases Nat.lt_or_ge k a.cells.length with h|h
  ·exact absurd (hst h) (by decide)
  ·omega
 have hr:No (0,a,⟨0,0⟩)=((k:Int),a,J7 (a.cells.take k)):=hx
 show(No (0,a,⟨0,0⟩)).snd.snd=_
 rw[hr,hkn,List.take_length]
theorem Bfh (a0:TRow) (hp:∀p∈Adt a0,p):CallOk Try.prog 70 [Af .row a0] 0 [] 1 (Al6 a0) 0 (Al4 a0):=by
 have hb:Am a0.cells.length:=hp _ (List.mem_cons_self ..)
 have h:=Bl0 a0 (Al2 a0 hb).1
 unfold ZB at h
 rw[(Al2 a0 hb).2] at h
 exact h
def At6:List A→Nat→Objs→Option AV:=A7 [.t .row] 0 Al6 Al4 Adt
theorem A8h:ET Try.prog 70 At6:=Aq (ks:=[.t .row]) Bfh
noncomputable def Bxm:=AU 70 At6 Bxl
theorem Bb5:CD Try.prog Bxm:=Ak A8h Bb4
abbrev CC:Type:=(List TCell)×Int×Int×TVec
def MP (x:CC):St:=⟨19,2,[(2,.own 1 0),(6,.sl .cell x.1),(7,.v (.int .i64 x.2.1)),(8,.v (.int .i64 x.2.2.1))],[(1,some (.box 31 [.v (.int .i64 x.2.2.2.a),.v (.int .i64 x.2.2.2.b)]))]⟩
def OY:St→Option CC
 |⟨19,2,[(2,.own 1 0),(6,.sl .cell z0),(7,.v (.int .i64 z1)),(8,.v (.int .i64 z2))],[(1,some (.box 31 [.v (.int .i64 z3),.v (.int .i64 z4)]))]⟩=>some (z0,z1,z2,⟨z3,z4⟩)
 |_=>none
theorem Amx:∀s x,OY s=some x→s=MP x:=fun s x h=>by
 unfold OY at h
 split at h
 ·cases h;rfl
 ·cases h
def Z2:Co:=⟨2,2,[2,6,7,8],[],[(1,1)],[1],[],[1]⟩
def A5x:CR:=⟨[],[(1,1)],[2,6,7,8],[1]⟩
def Aq9 (a0:List TCell) (_a1:Int) (a2:Int) (a3:TVec):TVec:=TVec.mk (max (max (0:Int) a3.1) (LU (a0.getD a2.toNat (Ab TC.cell))).1) (max (max (0:Int) a3.2) (LU (a0.getD a2.toNat (Ab TC.cell))).2)
def Gb (x:CC):CC:=(x.1,x.2.1,IntKind.i64.wrap (x.2.2.1+(1:Int)),Aq9 x.1 x.2.1 x.2.2.1 x.2.2.2)
def Ga (x:CC):Cnd:=some (!!decide (x.2.2.1 <x.2.1))
def UH (x:CC):List Prop:=[((!!decide (x.2.2.1 <x.2.1))=true→(0:Int)≤x.2.2.1∧x.2.2.1 <(↑x.1.length:Int)),((!!decide (x.2.2.1 <x.2.1))=true→(0:Int)≤(0:Int)∧(0:Int) <(↑(2:Nat):Int)),((!!decide (x.2.2.1 <x.2.1))=true→(0:Nat) <(2:Nat)),((!!decide (x.2.2.1 <x.2.1))=true→(0:Int)≤(0:Int)∧(0:Int) <(2:Int)),((!!decide (x.2.2.1 <x.2.1))=true→(0:Nat) <(2:Nat)),((!!decide (x.2.2.1 <x.2.1))=true→(0:Int)≤(0:Int)∧(0:Int) <(2:Int)),((!!decide (x.2.2.1 <x.2.1))=true→(0:Nat) <(2:Nat)),((!!decide (x.2.2.1 <x.2.1))=true→(0:Int)≤(0:Int)∧(0:Int) <(2:Int)),((!!decide (x.2.2.1 <x.2.1))=true→(0:Nat) <(2:Nat)),((!!decide (x.2.2.1 <x.2.1))=true→(0:Int)≤(1:Int)∧(1:Int) <(2:Int)),((!!decide (x.2.2.1 <x.2.1))=true→(1:Nat) <(2:Nat)),((!!decide (x.2.2.1 <x.2.1))=true→(0:Int)≤(1:Int)∧(1:Int) <(2:Int)),((!!decide (x.2.2.1 <x.2.1))=true→(1:Nat) <(2:Nat)),((!!decide (x.2.2.1 <x.2.1))=true→(0:Int)≤(1:Int)∧(1:Int) <(2:Int)),((!!decide (x.2.2.1 <x.2.1))=true→(1:Nat) <(2:Nat)),((!!decide (x.2.2.1 <x.2.1))=true→(0:Int)≤(1:Int)∧(1:Int) <(↑(2:Nat):Int)),((!!decide (x.2.2.1 <x.2.1))=true→(1:Nat) <(2:Nat)),((!!decide (x.2.2.1 <x.2.1))=true→(0:Int)≤(0:Int)∧(0:Int) <(2:Int)),((!!decide (x.2.2.1 <x.2.1))=true→(0:Nat) <(2:Nat)),((!!decide (x.2.2.1 <x.2.1))=true→(0:Int)≤(0:Int)∧(0:Int) <(2:Int)),((!!decide (x.2.2.1 <x.2.1))=true→(0:Nat) <(2:Nat)),((!!decide (x.2.2.1 <x.2.1))=true→(0:Int)≤(0:Int)∧(0:Int) <(2:Int)),((!!decide (x.2.2.1 <x.2.1))=true→(0:Nat) <(2:Nat)),((!!decide (x.2.2.1 <x.2.1))=true→(0:Int)≤(1:Int)∧(1:Int) <(2:Int)),((!!decide (x.2.2.1 <x.2.1))=true→(1:Nat) <(2:Nat)),((!!decide (x.2.2.1 <x.2.1))=true→(0:Int)≤(1:Int)∧(1:Int) <(2:Int)),((!!decide (x.2.2.1 <x.2.1))=true→(1:Nat) <(2:Nat)),((!!decide (x.2.2.1 <x.2.1))=true→(0:Int)≤(1:Int)∧(1:Int) <(2:Int)),((!!decide (x.2.2.1 <x.2.1))=true→(1:Nat) <(2:Nat))]
def Jy (x:CC):List Prop:=[((!!decide (x.2.2.1 <x.2.1))=true→(0:Int)≤x.2.2.1∧x.2.2.1 <(↑x.1.length:Int))]
def R9 (x:CC):Bd:=[(some 0,some (!decide (x.2.2.1 <x.2.1)),⟨19,2,[],[(1,some (.box 31 [.v (.int .i64 x.2.2.2.1),.v (.int .i64 x.2.2.2.2)]))]⟩)]
def Ig (x:CC):Nat:=(x.2.1 - x.2.2.1).toNat
def Nt (x:CC):CC:=A5 Gb Ga (Ig x) x
theorem Ayc (a0:List TCell) (a1:Int) (a2:Int) (a3:TVec):Bk (Au Bxm L0) 9 (Ae Try.prog 69 0) Z2 (MP (a0,a1,a2,a3))=some (UH (a0,a1,a2,a3),R9 (a0,a1,a2,a3),Ga (a0,a1,a2,a3),MP (Gb (a0,a1,a2,a3))):=by kernel_rfl
theorem Ayd (a0:List TCell) (a1:Int) (a2:Int) (a3:TVec) (hp:∀p∈Jy (a0,a1,a2,a3),p):∀p∈UH (a0,a1,a2,a3),p:=by
 have n0:=N0 hp
 have n1:((!!decide (a2 <a1))=true→(0:Int)≤(0:Int)∧(0:Int) <(↑(2:Nat):Int)):=by omega
 have n2:((!!decide (a2 <a1))=true→(0:Nat) <(2:Nat)):=by omega
 have n3:((!!decide (a2 <a1))=true→(0:Int)≤(0:Int)∧(0:Int) <(2:Int)):=by omega
 have n9:((!!decide (a2 <a1))=true→(0:Int)≤(1:Int)∧(1:Int) <(2:Int)):=by omega
 have n10:((!!decide (a2 <a1))=true→(1:Nat) <(2:Nat)):=by omega
 have n15:((!!decide (a2 <a1))=true→(0:Int)≤(1:Int)∧(1:Int) <(↑(2:Nat):Int)):=by omega
 exact(Aa n0 (Aa n1 (Aa n2 (Aa n3 (Aa n2 (Aa n3 (Aa n2 (Aa n3 (Aa n2 (Aa n9 (Aa n10 (Aa n9 (Aa n10 (Aa n9 (Aa n10 (Aa n15 (Aa n10 (Aa n3 (Aa n2 (Aa n3 (Aa n2 (Aa n3 (Aa n2 (Aa n9 (Aa n10 (Aa n9 (Aa n10 (Aa n9 (Aa n10 Ad)))))))))))))))))))))))))))))
noncomputable def UI:=GH (Au Bxm L0) (Ae Try.prog 69 0) Z2 A5x OY Ig Gb Ga Jy R9
theorem Ara:∀s b ps outs,UI s=some (b,ps,outs)→Wf s ⟨ps,outs,none⟩∧Be (Au C0 L0) b s ps outs:=
 A6 (T:=MP) Bb5 Av (u:=9) (by kernel_rfl) (by decide) (fun⟨a0,a1,a2,a3⟩=>Ayc a0 a1 a2 a3) (fun⟨a0,a1,a2,a3⟩=>Ayd a0 a1 a2 a3) Amx (fun _=>AI (n:=19) rfl) fun _ _=>rfl
noncomputable def Z1:=CY 0 UI L0
theorem Aq8:Gf Z1:=AP Ara Av
def ZZ (a0:TRow):TVec:=(Nt (a0.2,(↑a0.2.length:Int),(0:Int),TVec.mk (0:Int) (0:Int))).snd.snd.snd
def Z3 (a0:TRow):A:=.v (.agg ⟨[.int .i64 ((ZZ a0).a),.int .i64 ((ZZ a0).b)]⟩)
def Au4 (_a0:TRow):Objs:=[]
def Amz (a0:TRow):List Prop:=[(AB Gb Ga Jy (Ig (a0.2,(↑a0.2.length:Int),(0:Int),TVec.mk (0:Int) (0:Int))) (a0.2,(↑a0.2.length:Int),(0:Int),TVec.mk (0:Int) (0:Int)))]
theorem Bf7 (a0:TRow):Eo (Au Bxm Z1) 9 69 [Af .row a0] 0 []=some (1,Z3 a0,0,Au4 a0,[(Ae Try.prog (69:FuncId) (0:Nat)=Ae Try.prog (69:FuncId) (0:Nat)),(AB Gb Ga Jy (Ig (a0.2,(↑a0.2.length:Int),(0:Int),TVec.mk (0:Int) (0:Int))) (a0.2,(↑a0.2.length:Int),(0:Int),TVec.mk (0:Int) (0:Int)))]):=by kernel_rfl
theorem Bmu (a0:TRow) (hp:∀p∈Amz a0,p):CallOk Try.prog 69 [Af .row a0] 0 [] 1 (Z3 a0) 0 (Au4 a0):=by
 have n1:=N0 hp
 exact Ax (Ap Bb5 Aq8) (Bf7 a0) (Aa rfl (Aa n1 Ad))
def Am0 (a0:TRow):A:=.v (.agg ⟨[.int .i64 (J7 a0.cells).a,.int .i64 (J7 a0.cells).b]⟩)
def Amy (_a0:TRow):Objs:=[]
def Ael (a0:TRow):List Prop:=[Am a0.cells.length]
theorem Amw (a:TRow) (hb:Am a.cells.length):(∀p∈Amz a,p)∧ZZ a=J7 a.cells:=by
 unfold Am at hb
 obtain⟨h1,k,hk,hx,_,hst,_⟩:=Io (fun i=>((a.2,(a.2.length:Int),(i:Int),J7 (a.cells.take i)):CC)) a.cells.length (fun _=>false) Gb Ga Jy (Ig (a.2,(a.2.length:Int),0,⟨0,0⟩)) (a.2,(a.2.length:Int),0,⟨0,0⟩) rfl (by show a.cells.length≤((a.cells.length:Int) - 0).toNat;omega)
  (fun i _ _=>by
   show(!!decide ((i:Int) <(a.cells.length:Int)))=_
   rw[nn,LY,Bool.not_false,Bool.and_true])
  (fun i hi _=>by
   show(a.2,(a.2.length:Int),IntKind.i64.wrap ((i:Int)+1),Om (J7 (a.cells.take i)) (Afq (a.cells.getD ((i:Int)).toNat (Ab TC.cell))))=(a.2,(a.2.length:Int),((i+1:Nat):Int),J7 (a.cells.take (i+1)))
   rw[DU (by omega),Int.toNat_natCast,Asf _ _ hi])
  (fun i _ _=>Aa (fun h=>⟨by show(0:Int)≤(i:Int);omega,by
   have h':(!!decide ((i:Int) <(a.cells.length:Int)))=true:=h
   rw[nn] at h';exact of_decide_eq_true h'⟩) Ad)
 refine⟨Aa h1 Ad,?_⟩
 have hkn:k=a.cells.length:=by
  rcases Nat.lt_or_ge k a.cells.length with h|h
  ·exact absurd (hst h) (by decide)
  ·omega
 have hr:Nt (a.2,(a.2.length:Int),0,⟨0,0⟩)=(a.2,(a.2.length:Int),(k:Int),J7 (a.cells.take k)):=hx
 show(Nt (a.2,(a.2.length:Int),0,⟨0,0⟩)).snd.snd.snd=_
 rw[hr,hkn,List.take_length]
theorem Bf6 (a0:TRow) (hp:∀p∈Ael a0,p):CallOk Try.prog 69 [Af .row a0] 0 [] 1 (Am0 a0) 0 (Amy a0):=by
 have hb:Am a0.cells.length:=hp _ (List.mem_cons_self ..)
 have h:=Bmu a0 (Amw a0 hb).1
 unfold Z3 at h
 rw[(Amw a0 hb).2] at h
 exact h
def Au5:List A→Nat→Objs→Option AV:=A7 [.t .row] 0 Am0 Amy Ael
theorem A81:ET Try.prog 69 Au5:=Aq (ks:=[.t .row]) Bf6
noncomputable def Bxn:=AU 69 Au5 Bxm
theorem Bb6:CD Try.prog Bxn:=Ak A81 Bb5
abbrev Cz:Type:=(List TGroup)×Int×ByteArray×(List TCell)
def MG (x:Cz):St:=⟨22,4,[(0,.sl .group x.1),(5,.own 1 0),(6,.v (.int .i64 x.2.1))],[(1,some (.box 71 [.v (.string x.2.2.1),.sq 3])),(3,some (.arr 55 8 (.ty .cell x.2.2.2)))]⟩
def OM:St→Option Cz
 |⟨22,4,[(0,.sl .group z0),(5,.own 1 0),(6,.v (.int .i64 z1))],[(1,some (.box 71 [.v (.string z2),.sq 3])),(3,some (.arr 55 8 (.ty .cell z3)))]⟩=>some (z0,z1,z2,z3)
 |_=>none
theorem Alw:∀s x,OM s=some x→s=MG x:=fun s x h=>by
 unfold OM at h
 split at h
 ·cases h;rfl
 ·cases h
def Zv:Co:=⟨3,4,[0,5,6],[],[(1,1),(5,3)],[1,5],[],[1,3]⟩
def A4b:CR:=⟨[.nilB 1 1 55 .cell],[(1,1),(2,3)],[0,5,6],[1,2]⟩
def RS (a0:List TGroup) (a1:Int) (_a2:ByteArray) (_a3:List TCell):Bool:=!!decide (a1 <(↑a0.length:Int))
def Ap6 (_a0:List TGroup) (_a1:Int) (_a2:ByteArray) (a3:List TCell):List TCell:=a3++[TCell.mk (TStamp.mk (0:Int) (0:Int)) (TVec.mk (0:Int) (0:Int)) false (ByteArray.mk #[]) (TVec.mk (0:Int) (0:Int))]
def F6 (x:Cz):Cz:=(x.1,IntKind.i64.wrap (x.2.1+(1:Int)),x.2.2.1,Ap6 x.1 x.2.1 x.2.2.1 x.2.2.2)
def F5 (x:Cz):Cnd:=some ((RS x.1 x.2.1 x.2.2.1 x.2.2.2))
def Nl (x:Cz):List Prop:=[((RS x.1 x.2.1 x.2.2.1 x.2.2.2)=true→Ag (x.2.2.2.length+(1:Nat)))]
abbrev Jr:Cz→List Prop:=Nl
def RT (x:Cz):Bd:=[(some 0,some (!decide (x.2.1 <(↑x.1.length:Int))),⟨22,4,[],[(1,some (.box 71 [.v (.string x.2.2.1),.sq 3])),(3,some (.arr 55 8 (.ty .cell x.2.2.2)))]⟩)]
def Ic (x:Cz):Nat:=((↑x.1.length:Int) - x.2.1).toNat
def IM (x:Cz):Cz:=A5 F6 F5 (Ic x) x
theorem Aw8 (a0:List TGroup) (a1:Int) (a2:ByteArray) (a3:List TCell):Bk (Au Bxn L0) 9 (Ae Try.prog 130 0) Zv (MG (a0,a1,a2,a3))=some (Nl (a0,a1,a2,a3),RT (a0,a1,a2,a3),F5 (a0,a1,a2,a3),MG (F6 (a0,a1,a2,a3))):=by kernel_rfl
theorem Aw9 (a0:List TGroup) (a1:Int) (a2:ByteArray) (a3:List TCell) (hp:∀p∈Jr (a0,a1,a2,a3),p):∀p∈Nl (a0,a1,a2,a3),p:=hp
noncomputable def Ur:=GH (Au Bxn L0) (Ae Try.prog 130 0) Zv A4b OM Ic F6 F5 Jr RT
theorem Ap7:∀s b ps outs,Ur s=some (b,ps,outs)→Wf s ⟨ps,outs,none⟩∧Be (Au C0 L0) b s ps outs:=
 A6 (T:=MG) Bb6 Av (u:=9) (by kernel_rfl) (by decide) (fun⟨a0,a1,a2,a3⟩=>Aw8 a0 a1 a2 a3) (fun⟨a0,a1,a2,a3⟩=>Aw9 a0 a1 a2 a3) Alw (fun _=>AI (n:=22) rfl) fun _ _=>rfl
noncomputable def Zu:=CY 0 Ur L0
theorem Ap5:Gf Zu:=AP Ap7 Av
def Atv (a0:List TGroup) (a1:ByteArray):ByteArray:=(IM (a0,(0:Int),a1,[])).snd.snd.fst
def Atw (a0:List TGroup) (a1:ByteArray):List TCell:=(IM (a0,(0:Int),a1,[])).snd.snd.snd
def Zx (a0:List TGroup) (a1:ByteArray):A:=.agg [.v (.string (Atv a0 a1)),.sq 0]
def Zw (a0:List TGroup) (a1:ByteArray):Objs:=[(0,some (.arr 55 8 (.ty .cell (Atw a0 a1))))]
def Aly (a0:List TGroup) (a1:ByteArray):List Prop:=[(AB F6 F5 Jr (Ic (a0,(0:Int),a1,[])) (a0,(0:Int),a1,[]))]
theorem Bfe (a0:List TGroup) (a1:ByteArray):Eo (Au Bxn Zu) 9 130 [.sl .group a0,Af .str a1] 0 []=some (1,Zx a0 a1,1,Zw a0 a1,[(Ae Try.prog (130:FuncId) (0:Nat)=Ae Try.prog (130:FuncId) (0:Nat)),(AB F6 F5 Jr (Ic (a0,(0:Int),a1,[])) (a0,(0:Int),a1,[]))]):=by kernel_rfl
theorem Blt (a0:List TGroup) (a1:ByteArray) (hp:∀p∈Aly a0 a1,p):CallOk Try.prog 130 [.sl .group a0,Af .str a1] 0 [] 1 (Zx a0 a1) 1 (Zw a0 a1):=by
 have n1:=N0 hp
 exact Ax (Ap Bb6 Ap5) (Bfe a0 a1) (Aa rfl (Aa n1 Ad))
def Alz (_a0:List TGroup) (a1:ByteArray):A:=.agg [.v (.string a1),.sq 0]
def Alx (a0:List TGroup) (_a1:ByteArray):Objs:=[(0,some (.arr 55 8 (.ty .cell (List.replicate a0.length zeroC))))]
def Ado (a0:List TGroup) (_a1:ByteArray):List Prop:=[Ag a0.length]
theorem Bfd (l:List TGroup) (k:ByteArray) (hb:Ag l.length):(∀p∈Aly l k,p)∧Atv l k=k∧Atw l k=List.replicate l.length zeroC:=by
 unfold Ag at hb
 obtain⟨h1,n,hn,hx,_,hst,_⟩:=Io (fun i=>((l,(i:Int),k,List.replicate i zeroC):Cz)) l.length (fun _=>false) F6 F5 Jr (Ic (l,0,k,[])) (l,0,k,[]) rfl (by show l.length≤((l.length:Int) - 0).toNat;omega)
  (fun i _ _=>by
   show(!!decide ((i:Int) <(l.length:Int)))=_
   rw[nn,LY,Bool.not_false,Bool.and_true])
  (fun i hi _=>by
   show(l,IntKind.i64.wrap ((i:Int)+1),k,List.replicate i zeroC++[zeroC])=(l,((i+1:Nat):Int),k,List.replicate (i+1) zeroC)
   rw[DU (by omega),List.replicate_succ'])
  (fun i hi _=>Aa (fun h=>by
   have h':(!!decide ((i:Int) <(l.length:Int)))=true:=h
   rw[nn] at h'
   have:=of_decide_eq_true h'
   show Ag ((List.replicate i zeroC).length+1)
   rw[List.length_replicate];unfold Ag;omega) Ad)
 have hkn:n=l.length:=by
  rcases Nat.lt_or_ge n l.length with h|h
  ·exact absurd (hst h) (by decide)
  ·omega
 have hr:IM (l,0,k,[])=(l,(n:Int),k,List.replicate n zeroC):=hx
 refine⟨Aa h1 Ad,?_,?_⟩
 ·show(IM (l,0,k,[])).snd.snd.fst=_
  rw[hr]
 ·show(IM (l,0,k,[])).snd.snd.snd=_
  rw[hr,hkn]
theorem Bfc (a0:List TGroup) (a1:ByteArray) (hp:∀p∈Ado a0 a1,p):CallOk Try.prog 130 [.sl .group a0,Af .str a1] 0 [] 1 (Alz a0 a1) 1 (Alx a0 a1):=by
 have hb:Ag a0.length:=hp _ (List.mem_cons_self ..)
 obtain⟨e1,e2,e3⟩:=Bfd a0 a1 hb
 have h:=Blt a0 a1 e1
 unfold Zx Zw at h
 rw[e2,e3] at h
 exact h
def Atx:List A→Nat→Objs→Option AV:=A7 [.l .group,.t .str] 1 Alz Alx Ado
theorem A8e:ET Try.prog 130 Atx:=Aq (ks:=[.l .group,.t .str]) Bfc
noncomputable def B66:=AU 130 Atx Bxn
theorem Br1:CD Try.prog B66:=Ak A8e Bb6
def LA (_a0:List TGroup) (a1:ByteArray):Bool:=TI a1 !=(0:Int)
def Lz (a0:List TGroup) (_a1:ByteArray):Bool:=AO a0 !=(0:Int)
def Aqf (a0:List TGroup) (a1:ByteArray):ByteArray:=bif(Lz a0 a1) then ByteArray.mk #[] else bif(LA a0 a1) then ByteArray.mk #[] else a1
def Aqg (a0:List TGroup) (a1:ByteArray):Int:=bif(Lz a0 a1) then AO a0 else bif(LA a0 a1) then TI a1 else(0:Int)
def Aqh (a0:List TGroup) (a1:ByteArray):List TCell:=bif(Lz a0 a1) then[] else bif(LA a0 a1) then[] else List.replicate a0.length zeroC
def Aqj (a0:List TGroup) (a1:ByteArray):A:=.tup [.agg [.v (.string (Aqf a0 a1)),.sq 0],.v (.int .i64 (Aqg a0 a1))]
def Aqi (a0:List TGroup) (a1:ByteArray):Objs:=[(0,some (.arr 55 8 (.ty .cell (Aqh a0 a1))))]
def A4o (a0:List TGroup) (a1:ByteArray):List Prop:=[(∀(g:TGroup),g∈a0→Am g.1.size),((!(Lz a0 a1))=true→(!(LA a0 a1))=true→Ag a0.length)]
theorem Bp6 (a0:List TGroup) (a1:ByteArray):Eo (Au B66 L0) 9 63 [.sl .group a0,Af .str a1] 0 []=some (1,Aqj a0 a1,1,Aqi a0 a1,A4o a0 a1):=by kernel_rfl
theorem Bvn (a0:List TGroup) (a1:ByteArray) (hp:∀p∈A4o a0 a1,p):CallOk Try.prog 63 [.sl .group a0,Af .str a1] 0 [] 1 (Aqj a0 a1) 1 (Aqi a0 a1):=Ax (Ap Br1 Av) (Bp6 a0 a1) hp
def A4p (a0:List TGroup) (a1:ByteArray):A:=.tup [.agg [.v (.string (Ald a0 a1).key),.sq 0],.v (.int .i64 (Xo a0 a1))]
def A4n (a0:List TGroup) (a1:ByteArray):Objs:=[(0,some (.arr 55 8 (.ty .cell (Ald a0 a1).cells)))]
def At7 (a0:List TGroup) (_a1:ByteArray):List Prop:=[∀g∈a0,Am g.name.size]
theorem Bp5 (a0:List TGroup) (a1:ByteArray) (hp:∀p∈At7 a0 a1,p):CallOk Try.prog 63 [.sl .group a0,Af .str a1] 0 [] 1 (A4p a0 a1) 1 (A4n a0 a1):=by
 have hb:∀g∈a0,Am g.name.size:=hp _ (List.mem_cons_self ..)
 have h:=Bvn a0 a1 (Aa hb (Aa (fun h1 _=>by
  have h1':AO a0=0:=by
   have:(!(AO a0 !=0))=true:=h1
   simpa using this
  have:=(FR h1').2
  unfold Ag;omega) Ad))
 have e1:Aqg a0 a1=Xo a0 a1:=by
  unfold Aqg Lz LA Xo
  cases AO a0 !=0 with
  |true=>rfl
  |false=>
   rw[cond_false,cond_false]
   cases hk:TI a1 !=0 with
   |true=>rfl
   |false=>rw[cond_false];exact(by simpa using hk:TI a1=0).symm
 have e0:Aqf a0 a1=(Ald a0 a1).key:=by
  unfold Aqf Lz LA Ald Xo
  cases hg:AO a0 !=0 with
  |true=>simp only[cond_true,hg]
  |false=>rw[cond_false,cond_false]
 have e2:Aqh a0 a1=(Ald a0 a1).cells:=by
  unfold Aqh Lz LA Ald Xo
  cases hg:AO a0 !=0 with
  |true=>simp only[cond_true,hg]
  |false=>rw[cond_false,cond_false]
 unfold Aqj Aqi at h
 rw[e0,e1,e2] at h
 exact h
def Ba5:List A→Nat→Objs→Option AV:=A7 [.l .group,.t .str] 1 A4p A4n At7
theorem Bl1:ET Try.prog 63 Ba5:=Aq (ks:=[.l .group,.t .str]) Bp5
noncomputable def B67:=AU 63 Ba5 B66
theorem Br2:CD Try.prog B67:=Ak Bl1 Br1
def QY (a0:List TGroup) (_a1:ByteArray):List TCell:=List.replicate (↑a0.length:Int).toNat (Ab TC.cell)
def QX (a0:List TGroup) (a1:ByteArray):Bool:=Ah a0 (TRow.mk a1 (QY a0 a1)) !=(0:Int)
def Arb (a0:List TGroup) (a1:ByteArray):ByteArray:=bif(QX a0 a1) then ByteArray.mk #[] else a1
def Arc (a0:List TGroup) (a1:ByteArray):Int:=bif(QX a0 a1) then Ah a0 (TRow.mk a1 (QY a0 a1)) else(0:Int)
def Ard (a0:List TGroup) (a1:ByteArray):List TCell:=bif(QX a0 a1) then[] else(QY a0 a1)
def Arf (a0:List TGroup) (a1:ByteArray):A:=.tup [.agg [.v (.string (Arb a0 a1)),.sq 0],.v (.int .i64 (Arc a0 a1))]
def Are (a0:List TGroup) (a1:ByteArray):Objs:=[(0,some (.arr 55 8 (.ty .cell (Ard a0 a1))))]
def A5z (a0:List TGroup) (_a1:ByteArray):List Prop:=[((0:Int)≤(↑a0.length:Int)∧(↑a0.length:Int)≤(↑a0.length:Int)∧(↑a0.length:Int)≤(549755813888:Int))]
theorem Bqn (a0:List TGroup) (a1:ByteArray):Eo (Au B67 L0) 9 62 [.sl .group a0,Af .str a1] 0 []=some (1,Arf a0 a1,1,Are a0 a1,A5z a0 a1):=by kernel_rfl
theorem Bvt (a0:List TGroup) (a1:ByteArray) (hp:∀p∈A5z a0 a1,p):CallOk Try.prog 62 [.sl .group a0,Af .str a1] 0 [] 1 (Arf a0 a1) 1 (Are a0 a1):=Ax (Ap Br2 Av) (Bqn a0 a1) hp
def A50 (a0:List TGroup) (a1:ByteArray):A:=.tup [.agg [.v (.string (Ald a0 a1).key),.sq 0],.v (.int .i64 (Xo a0 a1))]
def A5y (a0:List TGroup) (a1:ByteArray):Objs:=[(0,some (.arr 55 8 (.ty .cell (Ald a0 a1).cells)))]
def Au6 (a0:List TGroup) (_a1:ByteArray):List Prop:=[Ag a0.length]
theorem A0q:∀(l:List TGroup) (seen:List ByteArray),Sw seen l=0→∀g∈l,Qo g.policy=true
 | [],_,_,g,hg=>by cases hg
 | x::r,seen,h,g,hg=>by
  unfold Sw at h
  cases h1:(I3 x.name&&Qo x.policy) with
  |false=>rw[h1] at h;cases h
  | true=>
   rw[h1] at h
   cases h2:seen.any (fun s=>s==x.name) with
   |true=>rw[h2] at h;cases h
   |false=>
    rw[h2] at h
    rcases List.mem_cons.1 hg with rfl|hg
    ·exact(Bool.and_eq_true_iff.1 h1).2
    ·exact A0q r _ h g hg
theorem Buv {l:List TGroup} (h:AO l=0):∀g∈l,Qo g.policy=true:=by
 have h4:=FR h
 unfold AO at h
 rw[show(l.length==0)=false by simpa using(by omega:l.length≠0),decide_eq_false (show ¬4 <l.length by omega)] at h
 exact A0q l [] h
theorem Bon {p:Int} (h:Qo p=true):Bw p zeroC=true:=by
 unfold Qo at h
 rcases(by simpa using h:p=1∨p=2) with rfl|rfl<;>rfl
theorem Rp (l:List TGroup) (k:ByteArray):Ah l ⟨k,List.replicate l.length zeroC⟩=Xo l k:=by
 unfold Ah Xo TI
 cases h:AO l !=0 with
 |true=>rfl
 | false=>
  rw[cond_false,cond_false]
  cases k.size==0 with
  |true=>rfl
  | false=>
   rw[cond_false,cond_false]
   cases decide (32 <k.size) with
   |true=>rfl
   | false=>
    rw[cond_false,cond_false]
    have hl:((TRow.mk k (List.replicate l.length zeroC)).cells.length !=l.length)=false:=by simp
    rw[hl,cond_false]
    have ha:(l.zip (TRow.mk k (List.replicate l.length zeroC)).cells).all (fun x=>Bw x.1.policy x.2)=true:=by
     rw[List.all_eq_true]
     rintro⟨g,c⟩ hx
     have h1:=List.of_mem_zip hx
     have h2:c=zeroC:=List.eq_of_mem_replicate h1.2
     subst h2
     exact Bon (Buv (by simpa using h) g h1.1)
    rw[ha]
    rfl
theorem Bqm (a0:List TGroup) (a1:ByteArray) (hp:∀p∈Au6 a0 a1,p):CallOk Try.prog 62 [.sl .group a0,Af .str a1] 0 [] 1 (A50 a0 a1) 1 (A5y a0 a1):=by
 have hb:Ag a0.length:=hp _ (List.mem_cons_self ..)
 unfold Ag at hb
 have h:=Bvt a0 a1 (Aa ⟨by omega,Int.le_refl _,by omega⟩ Ad)
 have ek:QY a0 a1=List.replicate a0.length zeroC:=by unfold QY;rw[Int.toNat_natCast];rfl
 have k0:QX a0 a1=(Xo a0 a1 !=0):=by
  unfold QX
  rw[ek,Rp]
 have e1:Arc a0 a1=Xo a0 a1:=by
  unfold Arc
  rw[k0,ek,Rp]
  cases hk:Xo a0 a1 !=0 with
  |true=>rfl
  |false=>rw[cond_false];exact(by simpa using hk:Xo a0 a1=0).symm
 have e0:Arb a0 a1=(Ald a0 a1).key:=by
  unfold Arb
  rw[k0]
  rfl
 have e2:Ard a0 a1=(Ald a0 a1).cells:=by
  unfold Ard
  rw[k0,ek]
  rfl
 unfold Arf Are at h
 rw[e0,e1,e2] at h
 exact h
def Ba8:List A→Nat→Objs→Option AV:=A7 [.l .group,.t .str] 1 A50 A5y Au6
theorem Bmv:ET Try.prog 62 Ba8:=Aq (ks:=[.l .group,.t .str]) Bqm
noncomputable def B5o:=AU 62 Ba8 B67
theorem Bxk:CD Try.prog B5o:=Ak Bmv Br2
noncomputable def Ck:=B5o
theorem B5p:CD Try.prog Ck:=Bxk
end Go.Proofs.Yteebobbhhgmeiaa
namespace Go.Proofs.Yteebobbhhgmeiaa
open Go.RowKit
def Bi9 (a b:TVec):Bool:=decide (b.a≤a.a)&&decide (b.b≤a.b)
def UK (p:Int) (c:TCell):Bool:=Bw p c&&BY c&&!c.gone&&Bi9 c.vec c.dead
def Bm5 (p:Int) (c:TCell):ByteArray:=bif UK p c then c.value else⟨#[]⟩
def CE (l:List TGroup) (cs:List TCell):Nat→List TField
 |0=>[]
 |i+1=>bif UK (l.getD i (Ab TC.group)).policy (cs.getD i (Ab TC.cell)) then CE l cs i++[⟨(i:Int),Bm5 (l.getD i (Ab TC.group)).policy (cs.getD i (Ab TC.cell))⟩] else CE l cs i
def K8 (l:List TGroup) (r:TRow):Bool:=Ah l r==0&&!((CE l r.cells l.length).length==0)
def Anm (l:List TGroup) (r:TRow):ByteArray:=bif K8 l r then r.key else⟨#[]⟩
def Anl (l:List TGroup) (r:TRow):List TField:=bif K8 l r then CE l r.cells l.length else[]
def A0f:List TField→List TField→Bool
 | [],[]=>true
 |x::xs,y::ys=>x.group==y.group&&x.value==y.value&&A0f xs ys
 |_,_=>false
def B7y (a b:TView):Bool:=a.key==b.key&&A0f a.fields b.fields
def RR (a0:Int) (a1:TCell):Bool:=!Qz a0 a1||!K3 a1||a1.3||!VA a1.2 a1.5
def QA (a0:Int) (a1:TCell):ByteArray:=bif(RR a0 a1) then ByteArray.mk #[] else a1.4
def Kg (a0:Int) (a1:TCell):Bool:=bif(RR a0 a1) then false else true
def Agz (a0:Int) (a1:TCell):A:=.v (.tuple ⟨[.string (QA a0 a1),.bool (Kg a0 a1)]⟩)
def Agy (_a0:Int) (_a1:TCell):Objs:=[]
def Zo (_a0:Int) (_a1:TCell):List Prop:=[]
theorem Bll (a0:Int) (a1:TCell):Eo (Au Ck L0) 9 41 [Af .i64 a0,Af .cell a1] 0 []=some (1,Agz a0 a1,0,Agy a0 a1,Zo a0 a1):=by kernel_rfl
theorem Bpq (a0:Int) (a1:TCell) (hp:∀p∈Zo a0 a1,p):CallOk Try.prog 41 [Af .i64 a0,Af .cell a1] 0 [] 1 (Agz a0 a1) 0 (Agy a0 a1):=Ax (Ap B5p Av) (Bll a0 a1) hp
def A3t:List A→Nat→Objs→Option AV:=A7 [.t .i64,.t .cell] 0 Agz Agy Zo
theorem Be7:ET Try.prog 41 A3t:=Aq (ks:=[.t .i64,.t .cell]) Bpq
noncomputable def Bxo:=AU 41 A3t Ck
theorem Bb7:CD Try.prog Bxo:=Ak Be7 B5p
theorem Blk (p:Int) (c:TCell):QA p c=Bm5 p c∧Kg p c=UK p c:=by
 have hk:RR p c=!UK p c:=by
  unfold RR UK Bi9 VA
  rw[Atj,Zp]
  show(!Bw p c||!BY c||c.gone||!(decide (c.vec.a≥c.dead.a)&&decide (c.vec.b≥c.dead.b)))=_
  cases Bw p c<;>cases BY c<;>cases c.gone<;>rfl
 unfold QA Kg Bm5
 rw[hk]
 cases UK p c<;>exact⟨rfl,rfl⟩
theorem Ai0 (p:Int) (c:TCell):NV p c=Bm5 p c∧HZ p c=UK p c:=by
 have hm:∀x y:Int,(min x y==y)=decide (y≤x):=fun x y=>by
  rw[Bool.eq_iff_iff,beq_iff_eq,decide_eq_true_eq];omega
 have hk:Pe p c=!UK p c:=by
  unfold Pe UK Bi9 KS
  rw[Jc,K9]
  have h1:((Kt c.2 c.5).1==c.5.1)=decide (c.dead.a≤c.vec.a):=hm _ _
  have h2:((Kt c.2 c.5).2==c.5.2)=decide (c.dead.b≤c.vec.b):=hm _ _
  rw[h1,h2]
  show(!Bw p c||!BY c||c.gone||!(decide (c.dead.a≤c.vec.a)&&decide (c.dead.b≤c.vec.b)))=_
  cases Bw p c<;>cases BY c<;>cases c.gone<;>rfl
 unfold NV HZ Bm5
 rw[hk]
 cases UK p c<;>exact⟨rfl,rfl⟩
theorem AK {l:List TGroup} {r:TRow} (h:Ah l r=0):AO l=0∧r.cells.length=l.length∧r.key.size≠0∧r.key.size≤32∧(l.zip r.cells).all (fun x=>Bw x.1.policy x.2)=true:=by
 unfold Ah at h
 cases h1:AO l !=0 with
 |true=>rw[h1,cond_true] at h;rw[h] at h1;cases h1
 | false=>
  rw[h1,cond_false] at h
  cases h2:r.key.size==0 with
  |true=>rw[h2] at h;cases h
  | false=>
   rw[h2,cond_false] at h
   cases h3:decide (32 <r.key.size) with
   |true=>rw[h3] at h;cases h
   | false=>
    rw[h3,cond_false] at h
    cases h4:r.cells.length !=l.length with
    |true=>rw[h4] at h;cases h
    | false=>
     rw[h4,cond_false] at h
     cases h5:(l.zip r.cells).all (fun x=>Bw x.1.policy x.2) with
     |false=>rw[h5] at h;cases h
     |true=>
      have:=of_decide_eq_false h3
      exact⟨by simpa using h1,by simpa using h4,by simpa using h2,by omega,rfl⟩
theorem XP (l:List TGroup) (cs:List TCell):∀i,(CE l cs i).length≤i
 |0=>Nat.le_refl _
 |i+1=>by
  have:=XP l cs i
  unfold CE
  cases UK (l.getD i (Ab TC.group)).policy (cs.getD i (Ab TC.cell)) with
  |true=>rw[cond_true,List.length_append];simp;omega
  |false=>rw[cond_false];omega
abbrev Di:Type:=(List TGroup)×Int×TRow×ByteArray×(List TField)
def NK (x:Di):St:=⟨53,5,[(0,.sl .group x.1),(3,.own 0 0),(6,.own 2 0),(7,.v (.int .i64 x.2.1))],[(0,some (.box 71 [.v (.string x.2.2.1.key),.sl .cell x.2.2.1.cells])),(2,some (.box 94 [.v (.string x.2.2.2.1),.sq 4])),(4,some (.arr 142 2 (.ty .field x.2.2.2.2)))]⟩
def QJ:St→Option Di
 |⟨53,5,[(0,.sl .group z0),(3,.own 0 0),(6,.own 2 0),(7,.v (.int .i64 z1))],[(0,some (.box 71 [.v (.string z2),.sl .cell z3])),(2,some (.box 94 [.v (.string z4),.sq 4])),(4,some (.arr 142 2 (.ty .field z5)))]⟩=>some (z0,z1,⟨z2,z3⟩,z4,z5)
 |_=>none
theorem Aqm:∀s x,QJ s=some x→s=NK x:=fun s x h=>by
 unfold QJ at h
 split at h
 ·cases h;rfl
 ·cases h
def Adx:Co:=⟨4,5,[0,3,6,7],[],[(0,0),(2,2),(7,4)],[0,2,7],[],[0,2,4]⟩
def A8j:CR:=⟨[.nilB 2 1 142 .field],[(0,0),(2,2),(3,4)],[0,3,6,7],[0,2,3]⟩
def KM (a0:List TGroup) (a1:Int) (_a2:TRow) (_a3:ByteArray) (_a4:List TField):Bool:=!!decide (a1 <(↑a0.length:Int))
def Axp (a0:List TGroup) (a1:Int) (a2:TRow) (a3:ByteArray) (_a4:List TField):ByteArray:=bif Kg (a0.getD a1.toNat (Ab TC.group)).2 (a2.2.getD a1.toNat (Ab TC.cell)) then a3 else a3
def Axq (a0:List TGroup) (a1:Int) (a2:TRow) (_a3:ByteArray) (a4:List TField):List TField:=bif Kg (a0.getD a1.toNat (Ab TC.group)).2 (a2.2.getD a1.toNat (Ab TC.cell)) then a4++[TField.mk a1 (QA (a0.getD a1.toNat (Ab TC.group)).2 (a2.2.getD a1.toNat (Ab TC.cell)))] else a4
def Fq (x:Di):Di:=(x.1,IntKind.i64.wrap (x.2.1+(1:Int)),x.2.2.1,Axp x.1 x.2.1 x.2.2.1 x.2.2.2.1 x.2.2.2.2,Axq x.1 x.2.1 x.2.2.1 x.2.2.2.1 x.2.2.2.2)
def Fp (x:Di):Cnd:=some ((KM x.1 x.2.1 x.2.2.1 x.2.2.2.1 x.2.2.2.2))
def OR (x:Di):List Prop:=[((KM x.1 x.2.1 x.2.2.1 x.2.2.2.1 x.2.2.2.2)=true→(0:Int)≤x.2.1∧x.2.1 <(↑x.1.length:Int)),((KM x.1 x.2.1 x.2.2.1 x.2.2.2.1 x.2.2.2.2)=true→(0:Int)≤x.2.1∧x.2.1 <(↑x.2.2.1.2.length:Int)),((KM x.1 x.2.1 x.2.2.1 x.2.2.2.1 x.2.2.2.2)=true→Kg (x.1.getD x.2.1.toNat (Ab TC.group)).2 (x.2.2.1.2.getD x.2.1.toNat (Ab TC.cell))=true→Ag (x.2.2.2.2.length+(1:Nat)))]
abbrev IT:Di→List Prop:=OR
def Ux (x:Di):Bd:=[(some 0,some (!decide (x.2.1 <(↑x.1.length:Int))),⟨53,5,[],[(0,some (.box 71 [.v (.string x.2.2.1.1),.sl .cell x.2.2.1.2])),(2,some (.box 94 [.v (.string x.2.2.2.1),.sq 4])),(4,some (.arr 142 2 (.ty .field x.2.2.2.2)))]⟩)]
def G9 (x:Di):Nat:=((↑x.1.length:Int) - x.2.1).toNat
def Ld (x:Di):Di:=A5 Fq Fp (G9 x) x
theorem A4v (a0:List TGroup) (a1:Int) (a2:TRow) (a3:ByteArray) (a4:List TField):Bk (Au Bxo L0) 9 (Ae Try.prog 64 0) Adx (NK (a0,a1,a2,a3,a4))=some (OR (a0,a1,a2,a3,a4),Ux (a0,a1,a2,a3,a4),Fp (a0,a1,a2,a3,a4),NK (Fq (a0,a1,a2,a3,a4))):=by kernel_rfl
theorem A4w (a0:List TGroup) (a1:Int) (a2:TRow) (a3:ByteArray) (a4:List TField) (hp:∀p∈IT (a0,a1,a2,a3,a4),p):∀p∈OR (a0,a1,a2,a3,a4),p:=hp
noncomputable def WT:=GH (Au Bxo L0) (Ae Try.prog 64 0) Adx A8j QJ G9 Fq Fp IT Ux
theorem Axr:∀s b ps outs,WT s=some (b,ps,outs)→Wf s ⟨ps,outs,none⟩∧Be (Au C0 L0) b s ps outs:=
 A6 (T:=NK) Bb7 Av (u:=9) (by kernel_rfl) (by decide) (fun⟨a0,a1,a2,a3,a4⟩=>A4v a0 a1 a2 a3 a4) (fun⟨a0,a1,a2,a3,a4⟩=>A4w a0 a1 a2 a3 a4) Aqm (fun _=>AI (n:=53) rfl) fun _ _=>rfl
noncomputable def Adw:=CY 0 WT L0
theorem Axo:Gf Adw:=AP Axr Av
def I8 (a0:List TGroup) (a1:TRow):Bool:=Ah a0 a1 !=(0:Int)
def RY (a0:List TGroup) (a1:TRow):Bool:=(↑(Ld (a0,(0:Int),a1,a1.1,[])).snd.snd.snd.snd.length:Int)==(0:Int)
def Ahk (a0:List TGroup) (a1:TRow):ByteArray:=bif(I8 a0 a1) then ByteArray.mk #[] else bif(RY a0 a1) then ByteArray.mk #[] else(Ld (a0,(0:Int),a1,a1.1,[])).snd.snd.snd.fst
def Ahl (a0:List TGroup) (a1:TRow):Bool:=bif(I8 a0 a1) then false else bif(RY a0 a1) then false else true
def Ahm (a0:List TGroup) (a1:TRow):List TField:=bif(I8 a0 a1) then[] else bif(RY a0 a1) then[] else(Ld (a0,(0:Int),a1,a1.1,[])).snd.snd.snd.snd
def Aho (a0:List TGroup) (a1:TRow):A:=.tup [.agg [.v (.string (Ahk a0 a1)),.sq 0],.v (.bool (Ahl a0 a1))]
def Ahn (a0:List TGroup) (a1:TRow):Objs:=[(0,some (.arr 142 2 (.ty .field (Ahm a0 a1))))]
def Bl6 (a0:List TGroup) (a1:TRow):List Prop:=[(∀(g:TGroup),g∈a0→Am g.1.size),((!(I8 a0 a1))=true→AB Fq Fp IT (G9 (a0,(0:Int),a1,a1.1,[])) (a0,(0:Int),a1,a1.1,[]))]
theorem Bl5 (a0:List TGroup) (a1:TRow):Eo (Au Bxo Adw) 9 64 [.sl .group a0,Af .row a1] 0 []=some (1,Aho a0 a1,1,Ahn a0 a1,[(∀(g:TGroup),g∈a0→Am g.1.size),((!(I8 a0 a1))=true→Ae Try.prog (64:FuncId) (0:Nat)=Ae Try.prog (64:FuncId) (0:Nat)),((!(I8 a0 a1))=true→AB Fq Fp IT (G9 (a0,(0:Int),a1,a1.1,[])) (a0,(0:Int),a1,a1.1,[]))]):=by kernel_rfl
theorem Bp8 (a0:List TGroup) (a1:TRow) (hp:∀p∈Bl6 a0 a1,p):CallOk Try.prog 64 [.sl .group a0,Af .row a1] 0 [] 1 (Aho a0 a1) 1 (Ahn a0 a1):=by
 have n0:=N0 hp
 have n1:((!(I8 a0 a1))=true→Ae Try.prog (64:FuncId) (0:Nat)=Ae Try.prog (64:FuncId) (0:Nat)):=by intros;rfl
 have n2:=N0 (N1 hp)
 exact Ax (Ap Bb7 Axo) (Bl5 a0 a1) (Aa n0 (Aa n1 (Aa n2 Ad)))
def Aud (a0:List TGroup) (a1:TRow):A:=.tup [.agg [.v (.string (Anm a0 a1)),.sq 0],.v (.bool (K8 a0 a1))]
def Auc (a0:List TGroup) (a1:TRow):Objs:=[(0,some (.arr 142 2 (.ty .field (Anl a0 a1))))]
def Al9 (a0:List TGroup) (_a1:TRow):List Prop:=[∀g∈a0,Am g.name.size]
theorem Ady (l:List TGroup) (r:TRow) (h0:Ah l r=0):
  AB Fq Fp IT (G9 (l,0,r,r.1,[])) (l,0,r,r.1,[])∧Ld (l,0,r,r.1,[])=(l,(l.length:Int),r,r.1,CE l r.cells l.length):=by
 obtain⟨hp,hlen,_⟩:=AK h0
 have hl4:=(FR hp).2
 obtain⟨h1,k,hk,hx,_,hst,_⟩:=Io (fun i=>((l,(i:Int),r,r.1,CE l r.cells i):Di)) l.length (fun _=>false) Fq Fp IT (G9 (l,0,r,r.1,[])) (l,0,r,r.1,[]) rfl (by show l.length≤((l.length:Int) - 0).toNat;omega)
  (fun i _ _=>by
   show(!!decide ((i:Int) <(l.length:Int)))=_
   rw[nn,LY,Bool.not_false,Bool.and_true])
  (fun i hi _=>by
   have hs:=Blk (l.getD i (Ab TC.group)).2 (r.2.getD i (Ab TC.cell))
   show(l,IntKind.i64.wrap ((i:Int)+1),r,(bif Kg (l.getD ((i:Int)).toNat (Ab TC.group)).2 (r.2.getD ((i:Int)).toNat (Ab TC.cell)) then r.1 else r.1),(bif Kg (l.getD ((i:Int)).toNat (Ab TC.group)).2 (r.2.getD ((i:Int)).toNat (Ab TC.cell)) then CE l r.cells i++[TField.mk (i:Int) (QA (l.getD ((i:Int)).toNat (Ab TC.group)).2 (r.2.getD ((i:Int)).toNat (Ab TC.cell)))] else CE l r.cells i))=(l,((i+1:Nat):Int),r,r.1,CE l r.cells (i+1))
   rw[DU (by omega),Int.toNat_natCast,hs.1,hs.2]
   have:∀b:Bool,(bif b then r.1 else r.1)=r.1:=fun b=>by cases b<;>rfl
   rw[this]
   rfl)
  (fun i hi _=>by
   have hin:(!!decide ((i:Int) <(l.length:Int)))=true→(i:Int) <(l.length:Int):=fun h=>by rw[nn] at h;exact of_decide_eq_true h
   exact Aa (fun h=>⟨by show(0:Int)≤(i:Int);omega,hin h⟩) (Aa (fun h=>⟨by show(0:Int)≤(i:Int);omega,by have:=hin h;show(i:Int) <(r.cells.length:Int);omega⟩) (Aa (fun _ _=>by
    have:=XP l r.cells i
    show Ag ((CE l r.cells i).length+1)
    unfold Ag;omega) Ad)))
 have hkn:k=l.length:=by
  rcases Nat.lt_or_ge k l.length with h|h
  ·exact absurd (hst h) (by decide)
  ·omega
 subst hkn
 exact⟨h1,hx⟩
theorem Bl4 (a0:List TGroup) (a1:TRow) (hp:∀p∈Al9 a0 a1,p):CallOk Try.prog 64 [.sl .group a0,Af .row a1] 0 [] 1 (Aud a0 a1) 1 (Auc a0 a1):=by
 have hb:∀g∈a0,Am g.name.size:=hp _ (List.mem_cons_self ..)
 have hz:(!(Ah a0 a1 !=0))=true→Ah a0 a1=0:=fun h=>by simpa using h
 have h:=Bp8 a0 a1 (Aa hb (Aa (fun h1=>(Ady a0 a1 (hz h1)).1) Ad))
 have hk1:I8 a0 a1=(Ah a0 a1 !=0):=rfl
 have e:Ahk a0 a1=Anm a0 a1∧Ahl a0 a1=K8 a0 a1∧Ahm a0 a1=Anl a0 a1:=by
  unfold Ahk Ahl Ahm Anm Anl
  have hv:K8 a0 a1=(Ah a0 a1==0&&!((CE a0 a1.cells a0.length).length==0)):=rfl
  cases hg:Ah a0 a1 !=0 with
  | true=>
   rw[hk1,hg]
   have:K8 a0 a1=false:=by
    rw[hv,show(Ah a0 a1==0)=false by simpa using hg]
    rfl
   rw[this]
   exact⟨rfl,rfl,rfl⟩
  |false=>
   have h0:Ah a0 a1=0:=by simpa using hg
   unfold RY
   rw[hk1,hg,(Ady a0 a1 h0).2]
   have:K8 a0 a1=!((CE a0 a1.cells a0.length).length==0):=by rw[hv,h0];rfl
   rw[this]
   show(bif((CE a0 a1.cells a0.length).length:Int)==0 then _ else _)=_∧(bif((CE a0 a1.cells a0.length).length:Int)==0 then _ else _)=_∧(bif((CE a0 a1.cells a0.length).length:Int)==0 then _ else _)=_
   rw[Azp]
   cases(CE a0 a1.cells a0.length).length==0<;>exact⟨rfl,rfl,rfl⟩
 unfold Aho Ahn at h
 rw[e.1,e.2.1,e.2.2] at h
 exact h
def A4x:List A→Nat→Objs→Option AV:=A7 [.l .group,.t .row] 1 Aud Auc Al9
theorem Bfk:ET Try.prog 64 A4x:=Aq (ks:=[.l .group,.t .row]) Bl4
noncomputable def Bxp:=AU 64 A4x Bxo
theorem Bb8:CD Try.prog Bxp:=Ak Bfk Bb7
abbrev Dm:Type:=(List TGroup)×Int×Int×TRow×ByteArray×(List TField)
def NR (x:Dm):St:=⟨53,5,[(3,.own 0 0),(6,.own 2 0),(19,.sl .group x.1),(20,.v (.int .i64 x.2.1)),(21,.v (.int .i64 x.2.2.1))],[(0,some (.box 71 [.v (.string x.2.2.2.1.key),.sl .cell x.2.2.2.1.cells])),(2,some (.box 94 [.v (.string x.2.2.2.2.1),.sq 4])),(4,some (.arr 142 2 (.ty .field x.2.2.2.2.2)))]⟩
def QZ:St→Option Dm
 |⟨53,5,[(3,.own 0 0),(6,.own 2 0),(19,.sl .group z0),(20,.v (.int .i64 z1)),(21,.v (.int .i64 z2))],[(0,some (.box 71 [.v (.string z3),.sl .cell z4])),(2,some (.box 94 [.v (.string z5),.sq 4])),(4,some (.arr 142 2 (.ty .field z6)))]⟩=>some (z0,z1,z2,⟨z3,z4⟩,z5,z6)
 |_=>none
theorem Arg:∀s x,QZ s=some x→s=NR x:=fun s x h=>by
 unfold QZ at h
 split at h
 ·cases h;rfl
 ·cases h
def Aen:Co:=⟨4,5,[3,6,19,20,21],[],[(0,0),(2,2),(8,4)],[0,2,8],[],[0,2,4]⟩
def A82:CR:=⟨[.nilB 2 1 142 .field],[(0,0),(2,2),(3,4)],[3,6,19,20,21],[0,2,3]⟩
def Ayf (a0:List TGroup) (_a1:Int) (a2:Int) (a3:TRow) (a4:ByteArray) (_a5:List TField):ByteArray:=bif HZ (a0.getD a2.toNat (Ab TC.group)).2 (a3.2.getD a2.toNat (Ab TC.cell)) then a4 else a4
def Ayg (a0:List TGroup) (_a1:Int) (a2:Int) (a3:TRow) (_a4:ByteArray) (a5:List TField):List TField:=bif HZ (a0.getD a2.toNat (Ab TC.group)).2 (a3.2.getD a2.toNat (Ab TC.cell)) then a5++[TField.mk a2 (NV (a0.getD a2.toNat (Ab TC.group)).2 (a3.2.getD a2.toNat (Ab TC.cell)))] else a5
def FA (x:Dm):Dm:=(x.1,x.2.1,IntKind.i64.wrap (x.2.2.1+(1:Int)),x.2.2.2.1,Ayf x.1 x.2.1 x.2.2.1 x.2.2.2.1 x.2.2.2.2.1 x.2.2.2.2.2,Ayg x.1 x.2.1 x.2.2.1 x.2.2.2.1 x.2.2.2.2.1 x.2.2.2.2.2)
def Fz (x:Dm):Cnd:=some (!!decide (x.2.2.1 <x.2.1))
def OZ (x:Dm):List Prop:=[((!!decide (x.2.2.1 <x.2.1))=true→(0:Int)≤x.2.2.1∧x.2.2.1 <(↑x.1.length:Int)),((!!decide (x.2.2.1 <x.2.1))=true→(0:Int)≤x.2.2.1∧x.2.2.1 <(↑x.2.2.2.1.2.length:Int)),((!!decide (x.2.2.1 <x.2.1))=true→HZ (x.1.getD x.2.2.1.toNat (Ab TC.group)).2 (x.2.2.2.1.2.getD x.2.2.1.toNat (Ab TC.cell))=true→Ag (x.2.2.2.2.2.length+(1:Nat)))]
abbrev I1:Dm→List Prop:=OZ
def UJ (x:Dm):Bd:=[(some 0,some (!decide (x.2.2.1 <x.2.1)),⟨53,5,[],[(0,some (.box 71 [.v (.string x.2.2.2.1.1),.sl .cell x.2.2.2.1.2])),(2,some (.box 94 [.v (.string x.2.2.2.2.1),.sq 4])),(4,some (.arr 142 2 (.ty .field x.2.2.2.2.2)))]⟩)]
def Hj (x:Dm):Nat:=(x.2.1 - x.2.2.1).toNat
def Lj (x:Dm):Dm:=A5 FA Fz (Hj x) x
theorem A53 (a0:List TGroup) (a1:Int) (a2:Int) (a3:TRow) (a4:ByteArray) (a5:List TField):Bk (Au Bxp L0) 9 (Ae Try.prog 58 0) Aen (NR (a0,a1,a2,a3,a4,a5))=some (OZ (a0,a1,a2,a3,a4,a5),UJ (a0,a1,a2,a3,a4,a5),Fz (a0,a1,a2,a3,a4,a5),NR (FA (a0,a1,a2,a3,a4,a5))):=by kernel_rfl
theorem A54 (a0:List TGroup) (a1:Int) (a2:Int) (a3:TRow) (a4:ByteArray) (a5:List TField) (hp:∀p∈I1 (a0,a1,a2,a3,a4,a5),p):∀p∈OZ (a0,a1,a2,a3,a4,a5),p:=hp
noncomputable def Xa:=GH (Au Bxp L0) (Ae Try.prog 58 0) Aen A82 QZ Hj FA Fz I1 UJ
theorem Ayh:∀s b ps outs,Xa s=some (b,ps,outs)→Wf s ⟨ps,outs,none⟩∧Be (Au C0 L0) b s ps outs:=
 A6 (T:=NR) Bb8 Av (u:=9) (by kernel_rfl) (by decide) (fun⟨a0,a1,a2,a3,a4,a5⟩=>A53 a0 a1 a2 a3 a4 a5) (fun⟨a0,a1,a2,a3,a4,a5⟩=>A54 a0 a1 a2 a3 a4 a5) Arg (fun _=>AI (n:=53) rfl) fun _ _=>rfl
noncomputable def Aem:=CY 0 Xa L0
theorem Aye:Gf Aem:=AP Ayh Av
def Ja (a0:List TGroup) (a1:TRow):Bool:=Ah a0 a1 !=(0:Int)
def Sa (a0:List TGroup) (a1:TRow):Bool:=(↑(Lj (a0,(↑a0.length:Int),(0:Int),a1,a1.1,[])).snd.snd.snd.snd.snd.length:Int)==(0:Int)
def Ah7 (a0:List TGroup) (a1:TRow):ByteArray:=bif(Ja a0 a1) then ByteArray.mk #[] else bif(Sa a0 a1) then ByteArray.mk #[] else(Lj (a0,(↑a0.length:Int),(0:Int),a1,a1.1,[])).snd.snd.snd.snd.fst
def Ah8 (a0:List TGroup) (a1:TRow):Bool:=bif(Ja a0 a1) then false else bif(Sa a0 a1) then false else true
def Ah9 (a0:List TGroup) (a1:TRow):List TField:=bif(Ja a0 a1) then[] else bif(Sa a0 a1) then[] else(Lj (a0,(↑a0.length:Int),(0:Int),a1,a1.1,[])).snd.snd.snd.snd.snd
def Aib (a0:List TGroup) (a1:TRow):A:=.tup [.agg [.v (.string (Ah7 a0 a1)),.sq 0],.v (.bool (Ah8 a0 a1))]
def Aia (a0:List TGroup) (a1:TRow):Objs:=[(0,some (.arr 142 2 (.ty .field (Ah9 a0 a1))))]
def Bmz (a0:List TGroup) (a1:TRow):List Prop:=[((!(Ja a0 a1))=true→AB FA Fz I1 (Hj (a0,(↑a0.length:Int),(0:Int),a1,a1.1,[])) (a0,(↑a0.length:Int),(0:Int),a1,a1.1,[]))]
theorem Bmy (a0:List TGroup) (a1:TRow):Eo (Au Bxp Aem) 9 58 [.sl .group a0,Af .row a1] 0 []=some (1,Aib a0 a1,1,Aia a0 a1,[((!(Ja a0 a1))=true→Ae Try.prog (58:FuncId) (0:Nat)=Ae Try.prog (58:FuncId) (0:Nat)),((!(Ja a0 a1))=true→AB FA Fz I1 (Hj (a0,(↑a0.length:Int),(0:Int),a1,a1.1,[])) (a0,(↑a0.length:Int),(0:Int),a1,a1.1,[]))]):=by kernel_rfl
theorem Bqq (a0:List TGroup) (a1:TRow) (hp:∀p∈Bmz a0 a1,p):CallOk Try.prog 58 [.sl .group a0,Af .row a1] 0 [] 1 (Aib a0 a1) 1 (Aia a0 a1):=by
 have n0:((!(Ja a0 a1))=true→Ae Try.prog (58:FuncId) (0:Nat)=Ae Try.prog (58:FuncId) (0:Nat)):=by intros;rfl
 have n1:=N0 hp
 exact Ax (Ap Bb8 Aye) (Bmy a0 a1) (Aa n0 (Aa n1 Ad))
def Au9 (a0:List TGroup) (a1:TRow):A:=.tup [.agg [.v (.string (Anm a0 a1)),.sq 0],.v (.bool (K8 a0 a1))]
def Au8 (a0:List TGroup) (a1:TRow):Objs:=[(0,some (.arr 142 2 (.ty .field (Anl a0 a1))))]
def Am1 (_a0:List TGroup) (_a1:TRow):List Prop:=[]
theorem Aeo (l:List TGroup) (r:TRow) (h0:Ah l r=0):
  AB FA Fz I1 (Hj (l,(l.length:Int),0,r,r.1,[])) (l,(l.length:Int),0,r,r.1,[])∧Lj (l,(l.length:Int),0,r,r.1,[])=(l,(l.length:Int),(l.length:Int),r,r.1,CE l r.cells l.length):=by
 obtain⟨hp,hlen,_⟩:=AK h0
 have hl4:=(FR hp).2
 obtain⟨h1,k,hk,hx,_,hst,_⟩:=Io (fun i=>((l,(l.length:Int),(i:Int),r,r.1,CE l r.cells i):Dm)) l.length (fun _=>false) FA Fz I1 (Hj (l,(l.length:Int),0,r,r.1,[])) (l,(l.length:Int),0,r,r.1,[]) rfl (by show l.length≤((l.length:Int) - 0).toNat;omega)
  (fun i _ _=>by
   show(!!decide ((i:Int) <(l.length:Int)))=_
   rw[nn,LY,Bool.not_false,Bool.and_true])
  (fun i hi _=>by
   have hs:=Ai0 (l.getD i (Ab TC.group)).2 (r.2.getD i (Ab TC.cell))
   show(l,(l.length:Int),IntKind.i64.wrap ((i:Int)+1),r,(bif HZ (l.getD ((i:Int)).toNat (Ab TC.group)).2 (r.2.getD ((i:Int)).toNat (Ab TC.cell)) then r.1 else r.1),(bif HZ (l.getD ((i:Int)).toNat (Ab TC.group)).2 (r.2.getD ((i:Int)).toNat (Ab TC.cell)) then CE l r.cells i++[TField.mk (i:Int) (NV (l.getD ((i:Int)).toNat (Ab TC.group)).2 (r.2.getD ((i:Int)).toNat (Ab TC.cell)))] else CE l r.cells i))=(l,(l.length:Int),((i+1:Nat):Int),r,r.1,CE l r.cells (i+1))
   rw[DU (by omega),Int.toNat_natCast,hs.1,hs.2]
   have:∀b:Bool,(bif b then r.1 else r.1)=r.1:=fun b=>by cases b<;>rfl
   rw[this]
   rfl)
  (fun i hi _=>by
   have hin:(!!decide ((i:Int) <(l.length:Int)))=true→(i:Int) <(l.length:Int):=fun h=>by rw[nn] at h;exact of_decide_eq_true h
   exact Aa (fun h=>⟨by show(0:Int)≤(i:Int);omega,hin h⟩) (Aa (fun h=>⟨by show(0:Int)≤(i:Int);omega,by have:=hin h;show(i:Int) <(r.cells.length:Int);omega⟩) (Aa (fun _ _=>by
    have:=XP l r.cells i
    show Ag ((CE l r.cells i).length+1)
    unfold Ag;omega) Ad)))
 have hkn:k=l.length:=by
  rcases Nat.lt_or_ge k l.length with h|h
  ·exact absurd (hst h) (by decide)
  ·omega
 subst hkn
 exact⟨h1,hx⟩
theorem Bmx (a0:List TGroup) (a1:TRow) (_hp:∀p∈Am1 a0 a1,p):CallOk Try.prog 58 [.sl .group a0,Af .row a1] 0 [] 1 (Au9 a0 a1) 1 (Au8 a0 a1):=by
 have hz:(!(Ah a0 a1 !=0))=true→Ah a0 a1=0:=fun h=>by simpa using h
 have h:=Bqq a0 a1 (Aa (fun h1=>(Aeo a0 a1 (hz h1)).1) Ad)
 have hk1:Ja a0 a1=(Ah a0 a1 !=0):=rfl
 have e:Ah7 a0 a1=Anm a0 a1∧Ah8 a0 a1=K8 a0 a1∧Ah9 a0 a1=Anl a0 a1:=by
  unfold Ah7 Ah8 Ah9 Anm Anl
  have hv:K8 a0 a1=(Ah a0 a1==0&&!((CE a0 a1.cells a0.length).length==0)):=rfl
  cases hg:Ah a0 a1 !=0 with
  | true=>
   rw[hk1,hg]
   have:K8 a0 a1=false:=by
    rw[hv,show(Ah a0 a1==0)=false by simpa using hg]
    rfl
   rw[this]
   exact⟨rfl,rfl,rfl⟩
  |false=>
   have h0:Ah a0 a1=0:=by simpa using hg
   unfold Sa
   rw[hk1,hg,(Aeo a0 a1 h0).2]
   have:K8 a0 a1=!((CE a0 a1.cells a0.length).length==0):=by rw[hv,h0];rfl
   rw[this]
   show(bif((CE a0 a1.cells a0.length).length:Int)==0 then _ else _)=_∧(bif((CE a0 a1.cells a0.length).length:Int)==0 then _ else _)=_∧(bif((CE a0 a1.cells a0.length).length:Int)==0 then _ else _)=_
   rw[Azp]
   cases(CE a0 a1.cells a0.length).length==0<;>exact⟨rfl,rfl,rfl⟩
 unfold Aib Aia at h
 rw[e.1,e.2.1,e.2.2] at h
 exact h
def A55:List A→Nat→Objs→Option AV:=A7 [.l .group,.t .row] 1 Au9 Au8 Am1
theorem Bf8:ET Try.prog 58 A55:=Aq (ks:=[.l .group,.t .row]) Bmx
noncomputable def Bxq:=AU 58 A55 Bxp
theorem Bb9:CD Try.prog Bxq:=Ak Bf8 Bb8
abbrev Bh:Type:=Int×TView×TView
def JW (x:Bh):St:=⟨38,2,[(2,.own 0 0),(3,.own 1 0),(5,.v (.int .i64 x.1))],[(0,some (.box 94 [.v (.string x.2.1.key),.sl .field x.2.1.fields])),(1,some (.box 94 [.v (.string x.2.2.key),.sl .field x.2.2.fields]))]⟩
def LB:St→Option Bh
 |⟨38,2,[(2,.own 0 0),(3,.own 1 0),(5,.v (.int .i64 z0))],[(0,some (.box 94 [.v (.string z1),.sl .field z2])),(1,some (.box 94 [.v (.string z3),.sl .field z4]))]⟩=>some (z0,⟨z1,z2⟩,⟨z3,z4⟩)
 |_=>none
theorem ZC:∀s x,LB s=some x→s=JW x:=fun s x h=>by
 unfold LB at h
 split at h
 ·cases h;rfl
 ·cases h
def RX:Co:=⟨2,2,[2,3,5],[],[(0,0),(1,1)],[0,1],[4],[0,1]⟩
def Al7:CR:=⟨[],[(0,0),(1,1)],[2,3,5],[0,1]⟩
def FL (a0:Int) (a1:TView) (_a2:TView):Bool:=!!decide (a0 <(↑a1.2.length:Int))
def B8 (a0:Int) (a1:TView) (a2:TView):Bool:=(FL a0 a1 a2)&&!((a1.2.getD a0.toNat (Ab TC.field)).1==(a2.2.getD a0.toNat (Ab TC.field)).1&&(a1.2.getD a0.toNat (Ab TC.field)).2.toList==(a2.2.getD a0.toNat (Ab TC.field)).2.toList)
def Ab1 (a0:Int) (a1:TView) (a2:TView):Bool:=(FL a0 a1 a2)&&!(B8 a0 a1 a2)
def Dd (x:Bh):Bh:=(IntKind.i64.wrap (x.1+(1:Int)),x.2.1,x.2.2)
def Dc (x:Bh):Cnd:=some (Ab1 x.1 x.2.1 x.2.2)
def KW (x:Bh):List Prop:=[((FL x.1 x.2.1 x.2.2)=true→(0:Int)≤x.1∧x.1 <(↑x.2.1.2.length:Int)),((FL x.1 x.2.1 x.2.2)=true→(0:Int)≤x.1∧x.1 <(↑x.2.2.2.length:Int))]
abbrev Fl:Bh→List Prop:=KW
def Oh (x:Bh):Bd:=[(some 0,some (!decide (x.1 <(↑x.2.1.2.length:Int))),⟨38,2,[(4,.dead)],[(0,some (.box 94 [.v (.string x.2.1.1),.sl .field x.2.1.2])),(1,some (.box 94 [.v (.string x.2.2.1),.sl .field x.2.2.2]))]⟩),(none,some ((B8 x.1 x.2.1 x.2.2)),⟨38,2,[(4,.v (.bool (false)))],[(0,some (.box 94 [.v (.string x.2.1.1),.sl .field x.2.1.2])),(1,some (.box 94 [.v (.string x.2.2.1),.sl .field x.2.2.2]))]⟩)]
def Eb (x:Bh):Nat:=((↑x.2.1.2.length:Int) - x.1).toNat
def Ab3 (x:Bh):Bh:=A5 Dd Dc (Eb x) x
theorem Ahg (a0:Int) (a1:TView) (a2:TView):Bk (Au Bxq L0) 9 (Ae Try.prog 59 0) RX (JW (a0,a1,a2))=some (KW (a0,a1,a2),Oh (a0,a1,a2),Dc (a0,a1,a2),JW (Dd (a0,a1,a2))):=by kernel_rfl
theorem Ahh (a0:Int) (a1:TView) (a2:TView) (hp:∀p∈Fl (a0,a1,a2),p):∀p∈KW (a0,a1,a2),p:=hp
noncomputable def Pd:=GH (Au Bxq L0) (Ae Try.prog 59 0) RX Al7 LB Eb Dd Dc Fl Oh
theorem Ab2:∀s b ps outs,Pd s=some (b,ps,outs)→Wf s ⟨ps,outs,none⟩∧Be (Au C0 L0) b s ps outs:=
 A6 (T:=JW) Bb9 Av (u:=9) (by kernel_rfl) (by decide) (fun⟨a0,a1,a2⟩=>Ahg a0 a1 a2) (fun⟨a0,a1,a2⟩=>Ahh a0 a1 a2) ZC (fun _=>AI (n:=38) rfl) fun _ _=>rfl
noncomputable def RW:=CY 0 Pd L0
theorem Ab0:Gf RW:=AP Ab2 Av
def Gt (a0:TView) (a1:TView):Bh:=Ab3 ((0:Int),a0,a1)
def EZ (a0:TView) (a1:TView):Bool:=!a0.1.toList==a1.1.toList||(↑a0.2.length:Int) !=(↑a1.2.length:Int)
def QG (a0:TView) (a1:TView):Bool:=bif(EZ a0 a1) then false else bif B8 (Gt a0 a1).fst (Gt a0 a1).snd.fst (Gt a0 a1).snd.snd then false else true
def QH (a0:TView) (a1:TView):A:=.v (.bool (QG a0 a1))
def ZD (_a0:TView) (_a1:TView):Objs:=[]
def WQ (a0:TView) (a1:TView):List Prop:=[((!(EZ a0 a1))=true→AB Dd Dc Fl (Eb ((0:Int),a0,a1)) ((0:Int),a0,a1))]
theorem Axj (a0:TView) (a1:TView):Eo (Au Bxq RW) 9 59 [Af .view a0,Af .view a1] 0 []=some (1,QH a0 a1,0,ZD a0 a1,[((!(EZ a0 a1))=true→Ae Try.prog (59:FuncId) (0:Nat)=Ae Try.prog (59:FuncId) (0:Nat)),((!(EZ a0 a1))=true→AB Dd Dc Fl (Eb ((0:Int),a0,a1)) ((0:Int),a0,a1))]):=by kernel_rfl
theorem A4q (a0:TView) (a1:TView) (hp:∀p∈WQ a0 a1,p):CallOk Try.prog 59 [Af .view a0,Af .view a1] 0 [] 1 (QH a0 a1) 0 (ZD a0 a1):=by
 have n0:((!(EZ a0 a1))=true→Ae Try.prog (59:FuncId) (0:Nat)=Ae Try.prog (59:FuncId) (0:Nat)):=by intros;rfl
 have n1:=N0 hp
 exact Ax (Ap Bb9 Ab0) (Axj a0 a1) (Aa n0 (Aa n1 Ad))
def WR (a0:TView) (a1:TView):A:=.v (.bool (B7y a0 a1))
def WP (_a0:TView) (_a1:TView):Objs:=[]
def Uv (a0:TView) (_a1:TView):List Prop:=[Am a0.fields.length]
theorem A0g:∀{a b:List TField},A0f a b=true↔a=b
 | [],[]=>by simp[A0f]
 | [],_::_=>by simp[A0f]
 |_::_,[]=>by simp[A0f]
 |⟨g,v⟩::xs,⟨g',v'⟩::ys=>by
  unfold A0f
  rw[Bool.and_eq_true,Bool.and_eq_true,beq_iff_eq,beq_iff_eq,A0g]
  simp
theorem B7x:∀(a b:List TField),a.length=b.length→A0f a b=JX a.length (fun i=>(a.getD i (Ab TC.field)).1==(b.getD i (Ab TC.field)).1&&(a.getD i (Ab TC.field)).2==(b.getD i (Ab TC.field)).2):=fun a b h=>by
 rw[Bool.eq_iff_iff,A0g,JY]
 constructor
 ·rintro rfl i _
  simp
 ·intro g
  refine List.ext_getElem h fun i h1 h2=>?_
  have:=g i h1
  rw[List.getD_eq_getElem?_getD,List.getD_eq_getElem?_getD,List.getElem?_eq_getElem h1,List.getElem?_eq_getElem h2,Option.getD_some,Option.getD_some,Bool.and_eq_true,beq_iff_eq,beq_iff_eq] at this
  revert this
  generalize a[i]=x
  generalize b[i]=y
  cases x;cases y
  rintro⟨rfl,rfl⟩
  rfl
theorem WO (a b:TView) (hb:Am a.fields.length):(∀p∈WQ a b,p)∧QG a b=B7y a b:=by
 unfold Am at hb
 have hk0:EZ a b=(!(a.key==b.key)||a.fields.length !=b.fields.length):=by
  show(!(a.key.toList==b.key.toList)||((a.fields.length:Int) !=(b.fields.length:Int)))=_
  rw[tlb]
  congr 1
  rw[Bool.eq_iff_iff,bne_iff_ne,bne_iff_ne];omega
 have main:EZ a b=false→AB Dd Dc Fl (Eb (0,a,b)) (0,a,b)∧B8 (Gt a b).fst (Gt a b).snd.fst (Gt a b).snd.snd=!A0f a.fields b.fields:=fun h0=>by
  rw[hk0] at h0
  have hlen:a.fields.length=b.fields.length:=by simpa using(Bool.or_eq_false_iff.1 h0).2
  have hf:∀i:Nat,B8 (i:Int) a b=(decide (i <a.fields.length)&&!((a.fields.getD i (Ab TC.field)).1==(b.fields.getD i (Ab TC.field)).1&&(a.fields.getD i (Ab TC.field)).2==(b.fields.getD i (Ab TC.field)).2)):=fun i=>by
   unfold B8 FL
   rw[nn,LY,Int.toNat_natCast,tlb]
  obtain⟨h1,k,hk,hx,_,_,hb'⟩:=Io (fun i=>(((i:Int),a,b):Bh)) a.fields.length (fun i=>!((a.fields.getD i (Ab TC.field)).1==(b.fields.getD i (Ab TC.field)).1&&(a.fields.getD i (Ab TC.field)).2==(b.fields.getD i (Ab TC.field)).2)) Dd Dc Fl (Eb (0,a,b)) (0,a,b) rfl (by show a.fields.length≤((a.fields.length:Int) - 0).toNat;omega)
   (fun i _ _=>by
    show((!!decide ((i:Int) <(a.fields.length:Int)))&&!B8 i a b)=_
    rw[hf,nn,LY]
    cases decide (i <a.fields.length)<;>rfl)
   (fun i hi _=>by
    show(IntKind.i64.wrap ((i:Int)+1),a,b)=(((i+1:Nat):Int),a,b)
    rw[DU (by omega)])
   (fun i _ _=>by
    have hin:(!!decide ((i:Int) <(a.fields.length:Int)))=true→(i:Int) <(a.fields.length:Int):=fun h=>by rw[nn] at h;exact of_decide_eq_true h
    exact Aa (fun h=>⟨by show(0:Int)≤(i:Int);omega,hin h⟩) (Aa (fun h=>⟨by show(0:Int)≤(i:Int);omega,by have:=hin h;show(i:Int) <(b.fields.length:Int);omega⟩) Ad))
  refine⟨h1,?_⟩
  have hr:Gt a b=((k:Int),a,b):=hx
  rw[hr]
  show B8 (k:Int) a b=_
  rw[hf,hb',B7x _ _ hlen]
  congr 1
  exact Hk fun i _=>Bool.not_not _
 refine⟨Aa (fun h=>(main (by simpa using h)).1) Ad,?_⟩
 unfold QG B7y
 cases h0:EZ a b with
 | true=>
  rw[hk0] at h0
  rw[cond_true]
  cases hk:a.key==b.key with
  |false=>rfl
  |true=>
   rw[hk] at h0
   have hne:a.fields.length≠b.fields.length:=by simpa using h0
   cases he:A0f a.fields b.fields with
   |false=>rfl
   |true=>exact absurd (congrArg List.length (A0g.1 he)) hne
 |false=>
  rw[cond_false,(main h0).2]
  rw[hk0] at h0
  have:(a.key==b.key)=true:=by simpa using(Bool.or_eq_false_iff.1 h0).1
  rw[this,Bool.true_and]
  cases A0f a.fields b.fields<;>rfl
theorem Axi (a0:TView) (a1:TView) (hp:∀p∈Uv a0 a1,p):CallOk Try.prog 59 [Af .view a0,Af .view a1] 0 [] 1 (WR a0 a1) 0 (WP a0 a1):=by
 have hb:Am a0.fields.length:=hp _ (List.mem_cons_self ..)
 have h:=A4q a0 a1 (WO a0 a1 hb).1
 unfold QH at h
 rw[(WO a0 a1 hb).2] at h
 exact h
def ZE:List A→Nat→Objs→Option AV:=A7 [.t .view,.t .view] 0 WR WP Uv
theorem Aqk:ET Try.prog 59 ZE:=Aq (ks:=[.t .view,.t .view]) Axi
noncomputable def B8r:=AU 59 ZE Bxq
theorem B2o:CD Try.prog B8r:=Ak Aqk Bb9
noncomputable def Cl:=B8r
theorem Bhm:CD Try.prog Cl:=B2o
end Go.Proofs.Yteebobbhhgmeiaa
namespace Go.Proofs.Yteebobbhhgmeiaa
open Go.RowKit Go.Shelf
attribute [local go_sem] Oper.semAt_some
def OwnB (base:Nat) (W:World) (y:Value) (bs:List UInt8):Prop:=OwnR W 5 1 y bs.length (bs.map Bs)∧∀g,C3 y=some g→base≤g
theorem OwnB.keep {base:Nat} {W W':World} {y:Value} {bs:List UInt8} (h:OwnB base W y bs) (hk:∀g,base≤g→C3 y=some g→W'.heap[g]?=W.heap[g]?):OwnB base W' y bs:=⟨h.1.keep fun g hg=>hk g (h.2 g hg) hg,h.2⟩
theorem OwnB.mono {b b':Nat} {W:World} {y:Value} {bs:List UInt8} (h:OwnB b W y bs) (hb:b'≤b):OwnB b' W y bs:=⟨h.1,fun g hg=>Nat.le_trans hb (h.2 g hg)⟩
theorem B0j (b0 b:Nat) (t:TypeId) (f:List (TGroup×TCell)→List UInt8):Own (fun s W=>∃y,W.heap[b0]?=some (.cells #[y] t (0,0))∧OwnB b W y (f s)):=fun s W W' row ⟨y,h1,h2⟩ hg hr=>by
 have key:∀(g:Nat) (o:Obj),W.heap[g]?=some o→o.isCells=true→W'.heap[g]?=W.heap[g]?:=fun g o ho hc=>by
  refine hg.block g (Iu ho) fun e=>?_
  obtain⟨o',h3,h4⟩:=hr g e.symm
  rw[ho] at h3
  cases h3
  rw[hc] at h4
  cases h4
 refine⟨y,(key b0 _ h1 rfl).trans h1,h2.keep fun g _ hgy=>?_⟩
 rcases h2.1.2 with⟨a,e1,_⟩|⟨g',cap,cur,e1,e3,_⟩
 ·rw[e1] at hgy;cases a<;>cases hgy
 ·rw[e1] at hgy
  cases hgy
  exact key _ _ e3 rfl
theorem OwnB.form {base:Nat} {W:World} {y:Value} {bs:List UInt8} (h:OwnB base W y bs):∃a n c,y=.slice a n c:=by
 obtain⟨a,c,e,_⟩:=h.1.form
 exact⟨a,_,c,e⟩
theorem KB.setCell {n₀ X:Nat} (W:World) (v:Value):KB n₀ X W (W.setCell ⟨X,0,none⟩ v):=
 ⟨rfl,rfl,rfl,by rw[Am7];exact Nat.le_refl _,fun k _ hk=>Below.heap_setCell W ⟨X,0,none⟩ v k hk⟩
theorem Bjo {α:Type} (F:α→List UInt8) (n:Nat) (h:∀x,(F x).length≤n):∀l:List α,(l.flatMap F).length≤l.length*n
 | []=>by simp
 |x::r=>by
  have:=Bjo F n h r
  have:=h x
  rw[List.flatMap_cons,List.length_append,List.length_cons,Nat.succ_mul]
  omega
set_option maxHeartbeats 1000000 in
theorem Bqr (w:World) (a0 a1:Option Addr) (gs:List TGroup) (cs:List TCell) (key:ByteArray) (cap0 cap1:Nat) (na ncap:Nat) (ab:Option Addr) (b0:List UInt8) (pc:Int→TCell→List UInt8) (Nx:Nat)
  (hpc:∀q c,(pc q c).length≤Nx)
  (hGd:∀W,Below w.heap.size w W→Calls Try.prog 65 #[.slice a0 gs.length cap0,.agg #[.string key,.slice a1 cs.length cap1]] W fun e W'=>e=.returned (.int .i64 0)∧Below W.heap.size W W')
  (hl1:1≤gs.length) (hl4:gs.length≤4) (hlen0:Nat.beq cs.length gs.length=true)
  (hPT:∀W,Below w.heap.size w W→Calls Try.prog 122 #[.slice ab na ncap,.string key] W fun e W'=>∃y,e=.returned y∧Below W.heap.size W W'∧OwnB W.heap.size W' y b0)
  (hCP:∀W v bs q c base,OwnB base W v bs→bs.length≤b0.length+4*Nx→Calls Try.prog 56 #[v,.int .i64 q,cV c] W fun e W'=>∃y,e=.returned y∧Below W.heap.size W W'∧OwnB W.heap.size W' y (bs++pc q c))
  (hG:0 <gs.length→∃b off,a0=some ⟨b,off,none⟩∧GsAt w.heap.size w.heap.size w b off gs)
  (hS:0 <cs.length→∃b off,a1=some ⟨b,off,none⟩∧CsAt w.heap.size w.heap.size w b off cs):
  Calls Try.prog 79 #[.slice ab na ncap,.slice a0 gs.length cap0,.agg #[.string key,.slice a1 cs.length cap1]] w fun e W'=>∃y,e=.returned y∧Below w.heap.size w W'∧OwnB w.heap.size W' y (b0++(gs.zip cs).flatMap (fun x=>pc x.1.policy x.2)):=by
 refine(callsIn_wide (n:=5)).1 ?_
 refine callsIn_of_wp_marks Try.func79 rfl trivial ?_ rfl
 simp only[Try.ntmps79,List.size_toArray,List.length_cons,List.length_nil,Nat.reduceAdd,Nat.reduceSub,Array.replicate_succ,Array.replicate_zero,List.push_toArray,List.append_toArray,List.nil_append,List.cons_append]
 have hw2:Below w.heap.size w ((w.alloc (.cells #[.slice ab na ncap] 84)).alloc (.cells #[.string key,.slice a1 cs.length cap1] 71)):=((Below.refl _ w).alloc (Nat.le_refl _) _).alloc (by simp) _
 have hr1:=Pv (.cells #[.string key,.slice a1 cs.length cap1] 71) (HJ (w:=w) (.cells #[.slice ab na ncap] 84) rfl)
 have hr2:=HJ (w:=w.alloc (.cells #[.slice ab na ncap] 84)) (.cells #[.string key,.slice a1 cs.length cap1] 71) (n:=w.heap.size+1) (by simp)
 obtain⟨k0,k1⟩:=cb2 hr2
 have k2:=cb1 hr1
 gi_wp2_with (first
  |(refine⟨trivial,?_⟩;gi_at_call 65;refine(callsIn_wide.2 (hGd _ hw2)).mono ?_;rintro e W1 ⟨rfl,hb1⟩;have hx1:=FG hr1 hb1;have hx2:=FG hr2 hb1;have d0:=cb1 hx1;have f0:=fb1 hx1;obtain⟨c0,c1⟩:=cb2 hx2;have hB1:Below w.heap.size w W1:=hw2.trans (hb1.mono (by simp;omega));clear hr1 hr2 hb1 k0 k1 k2)
  |(refine⟨trivial,?_⟩;gi_at_call 122;refine(callsIn_wide.2 (hPT _ hB1)).mono ?_;rintro e W2 ⟨y0,rfl,hb2,hy0⟩;obtain⟨ya,yc,rfl,hyc⟩:=hy0.1.form;have hz1:=FG hx1 hb2;have hz2:=FG hx2 hb2;have d2:=cb1 hz1;have f2:=fb1 hz1;obtain⟨c2,c3⟩:=cb2 hz2;have hB2:Below w.heap.size w W2:=hB1.trans (hb2.mono hB1.size);clear d0 f0 c0 c1)
  |(refine⟨trivial,?_⟩;gi_at_call 132;refine(Bkz _ _ _ _ _ _ _).mono ?_;rintro e W3 ⟨rfl,rfl⟩))
 have hlen:cs.length=gs.length:=Nat.eq_of_beq_eq_true hlen0
 have hy1:=Q0 (i:=0) hz1 (.slice ya b0.length yc)
 have hy2:=B4s hz2 (p:=⟨w.heap.size,0,none⟩) (by simp) (.slice ya b0.length yc)
 have hB3:Below w.heap.size w (W2.setCell ⟨w.heap.size,0,none⟩ (.slice ya b0.length yc)):=hB2.setCell (p:=⟨w.heap.size,0,none⟩) (Nat.le_refl _) _
 have hs1:=Iu hx2
 have hs2:=Iu hy2
 have hyo:OwnB (w.heap.size+1) (W2.setCell ⟨w.heap.size,0,none⟩ (.slice ya b0.length yc)) (.slice ya b0.length yc) b0:=(hy0.mono (Nat.le_of_lt hs1)).keep fun g hg _=>Below.heap_setCell W2 ⟨w.heap.size,0,none⟩ _ g (by simp;omega)
 have hVs:(W2.setCell ⟨w.heap.size,0,none⟩ (.slice ya b0.length yc)).heap.size=W2.heap.size:=Am7 _ _ _
 rw[←hVs]
 generalize W2.setCell ⟨w.heap.size,0,none⟩ (.slice ya b0.length yc)=V at hy1 hy2 hB3 hs2 hyo⊢
 clear hVs
 clear hz1 hz2 d2 f2 c2 c3 hx1 hx2 hb2 hy0
 obtain⟨b,off,rfl,hg⟩:=hG (by omega)
 obtain⟨b',off',rfl,hc⟩:=hS (by omega)
 have hW2:Below V.heap.size V ((V.alloc (.cells #[.slice (some ⟨b,off,none⟩) gs.length cap0] 66)).alloc (.cells #[.string key,.slice (some ⟨b',off',none⟩) cs.length cap1] 71)):=((Below.refl _ V).alloc (Nat.le_refl _) _).alloc (by simp) _
 have hv2:=Pv (.cells #[.string key,.slice (some ⟨b',off',none⟩) cs.length cap1] 71) (HJ (w:=V) (.cells #[.slice (some ⟨b,off,none⟩) gs.length cap0] 66) rfl)
 have hv3:=HJ (w:=V.alloc (.cells #[.slice (some ⟨b,off,none⟩) gs.length cap0] 66)) (.cells #[.string key,.slice (some ⟨b',off',none⟩) cs.length cap1] 71) (n:=V.heap.size+1) (by simp)
 have hz1:=FG hy1 hW2
 have hz3:=Iu hv3
 have hB4:=hB3.trans (hW2.mono hB3.size)
 have hyo2:OwnB (w.heap.size+1) ((V.alloc (.cells #[.slice (some ⟨b,off,none⟩) gs.length cap0] 66)).alloc (.cells #[.string key,.slice (some ⟨b',off',none⟩) cs.length cap1] 71)) (.slice ya b0.length yc) b0:=hyo.keep fun g _ hgy=>hW2.block g (hyo.1.lt hgy)
 clear hyo hs1
 rw[show V.heap.size=V.heap.size from rfl] at hv2
 generalize hVW:(V.alloc (.cells #[.slice (some ⟨b,off,none⟩) gs.length cap0] 66)).alloc (.cells #[.string key,.slice (some ⟨b',off',none⟩) cs.length cap1] 71)=W2 at hW2 hv2 hv3 hz1 hz3 hB4 hyo2⊢
 have hlt0:=Iu hy1
 have hg2:GsAt W2.heap.size w.heap.size W2 b off gs:=⟨⟨by have:=hg.1.1;omega,by have:=hg.1.1;omega⟩,fun j g hj=>⟨(hB4.cell (p:=⟨b,_,none⟩) hg.1.1).trans (hg.2 j g hj).1,(hB4.cell (p:=⟨b,_,none⟩) hg.1.1).trans (hg.2 j g hj).2⟩⟩
 have hc2:CsAt W2.heap.size w.heap.size W2 b' off' cs:=by
  refine⟨⟨by have:=hc.1.1;omega,by have:=hc.1.1;omega⟩,fun j c hj=>?_⟩
  have k:∀o,W2.cell? ⟨b',o,none⟩=w.cell? ⟨b',o,none⟩:=fun o=>hB4.cell (p:=⟨b',o,none⟩) hc.1.1
  simp only[k]
  exact hc.2 j c hj
 refine wpIn_rangeFunc_ownH (F:=Fence.wide) rfl (by omega) (gf:=165) (lb:=#[.pointer (some ⟨V.heap.size,0,none⟩),.pointer (some ⟨V.heap.size+1,0,none⟩)]) rfl trivial (enters_of Try.func165 (by kernel_rfl) rfl)
  (As5 _ (by omega) V.heap.size (V.heap.size+1) W2.heap.size w.heap.size b off cap0 b' off' cap1 gs cs hlen hl4 W2 (Nat.le_refl _) (cb1 hv2) (cb2 hv3).2 ⟨by omega,by omega⟩ ⟨by omega,by omega⟩ hg2 hc2)
  KB.trans (KB.putObj (Nat.le_refl _)) (Below.refl _ _) (fun _=>rfl)
  (fun pre W=>(∃y,W.heap[w.heap.size]?=some (.cells #[y] 84 (0,0))∧OwnB (w.heap.size+1) W y (b0++pre.flatMap (fun x=>pc x.1.policy x.2)))∧Below w.heap.size w W∧W2.heap.size≤W.heap.size)
  (fun _ _ _=>False)
  (OwnFrom.and (Own.from (B0j w.heap.size (w.heap.size+1) 84 (fun pre=>b0++pre.flatMap (fun x=>pc x.1.policy x.2))) _) (OwnFrom.and (ownFrom_below (Nat.le_refl _) hB4.size) (Vx _ _)))
  (fun _ _ _ _ _ hs _ _=>hs)
  ⟨⟨_,hz1,by simpa using hyo2⟩,hB4,Nat.le_refl _⟩
  (fun x a' W=>(∃B6 B7,a'={tmps:=#[Value.slice ab na ncap,Value.slice (some ⟨b,off,none⟩) gs.length cap0,
     Value.agg #[Value.string key,Value.slice (some ⟨b',off',none⟩) cs.length cap1],
     Value.pointer (some {block:=w.heap.size,off:=0}),undef,
     Value.pointer (some {block:=w.heap.size+1,off:=0}),Value.slice none 0 0,Value.pointer (some ⟨B6,0,none⟩),Value.pointer (some ⟨B7,0,none⟩),
     Value.slice (some ⟨b,off,none⟩) gs.length cap0,Value.agg #[Value.string key,Value.slice (some ⟨b',off',none⟩) cs.length cap1],
     Value.int IntKind.i64 0,Value.bool false,undef,undef,undef,Value.slice ab na ncap,
     Value.pointer (some {block:=w.heap.size+1,off:=0}),Value.string key,Value.slice ya b0.length yc,
     Value.slice (some ⟨b,off,none⟩) gs.length cap0,Value.agg #[Value.string key,Value.slice (some ⟨b',off',none⟩) cs.length cap1],
     Value.func (Fn.func 165) #[] #[Value.pointer (some {block:=V.heap.size,off:=0}),Value.pointer (some {block:=V.heap.size+1,off:=0})],
     gV x.1,cV x.2,undef,undef,undef,undef,undef,undef],defers:=[]}∧
    (W.heap[B6]?=some (.cells #[.string x.1.name,.int .i64 x.1.policy] 79 (0,0))∧W.heap[B7]?=some (.cells #[.int .i64 x.2.stamp.n,.int .i64 x.2.stamp.site,.int .i64 x.2.vec.a,.int .i64 x.2.vec.b,.bool x.2.gone,.string x.2.value,.int .i64 x.2.dead.a,.int .i64 x.2.dead.b] 55 (0,0)))))
  (fun x a'=>Own.from (fun s X Y row hs hgr hr=>by
   obtain⟨B6,B7,e1,e2,e3⟩:=hs
   exact⟨B6,B7,e1,Aal B6 _ _ s X Y row e2 hgr hr,Aal B7 _ _ s X Y row e3 hgr hr⟩) _) ?assign ?body ?done ?stop
 case assign=>
  rintro l pre x W K ⟨⟨y,i1,i2⟩,i3,i4⟩ hK
  clear hlen hlen0
  dsimp only[By1,gV,cV] at hK⊢
  gi_wp2
  have hb:Below W.heap.size W ((W.alloc (.cells #[.string x.1.name,.int .i64 x.1.policy] 79)).alloc (.cells #[.int .i64 x.2.stamp.n,.int .i64 x.2.stamp.site,.int .i64 x.2.vec.a,.int .i64 x.2.vec.b,.bool x.2.gone,.string x.2.value,.int .i64 x.2.dead.a,.int .i64 x.2.dead.b] 55)):=((Below.refl _ W).alloc (Nat.le_refl _) _).alloc (by simp) _
  exact hK _ _ (Jo _ hb) (KB.of_below (hb.mono i4)) ⟨⟨y,FG i1 hb,i2.keep fun g _ hgy=>hb.block g (i2.1.lt hgy)⟩,i3.trans (hb.mono i3.size),Nat.le_trans i4 hb.size⟩ ⟨W.heap.size,W.heap.size+1,rfl,Pv _ (HJ _ rfl),HJ _ (by simp)⟩
 case body=>
  rintro l pre x a' W hl hr ⟨⟨y,i1,i2⟩,i3,i4⟩ ⟨B6,B7,rfl,e6,e7⟩ hlt
  obtain⟨yb,ym,yd,rfl⟩:=i2.form
  obtain⟨k0,k1⟩:=cb2 e6
  obtain⟨m0,m1,m2,m3,m4,m5,m6,m7⟩:=cb8 e7
  have d0:=cb1 i1
  have hbl:(b0++pre.flatMap (fun x=>pc x.1.policy x.2)).length≤b0.length+4*Nx:=by
   have:=Bjo (fun x:TGroup×TCell=>pc x.1.policy x.2) Nx (fun x=>hpc _ _) pre
   have h2:pre.length*Nx≤4*Nx:=Nat.mul_le_mul_right _ (by omega)
   rw[List.length_append]
   omega
  clear hlen hlen0
  generalize hbe:b0++pre.flatMap (fun x=>pc x.1.policy x.2)=bs at*
  gi_wp2_with (refine⟨trivial,?_⟩;gi_at_call 56;refine(CallsIn.inRound l (callsIn_wide.2 (hCP _ _ bs x.1.policy x.2 _ i2 hbl))).mono ?_;rintro e W' ⟨y',rfl,hb,hy'⟩;obtain⟨ye,yn,yf,rfl⟩:=hy'.form;have q1:=FG i1 hb;have d4:=cb1 q1;have f4:=fb1 q1)
  have hw:=Iu i1
  refine⟨(Jo _ hb).trans ((KeepsOthers.setCell _ _ _).from _),(KB.of_below (hb.mono i4)).trans (KB.setCell _ _),⟨_,Q0 (i:=0) q1 _,?_⟩,(i3.trans (hb.mono i3.size)).setCell (p:=⟨w.heap.size,0,none⟩) (Nat.le_refl _) _,Nat.le_trans i4 (by rw[Am7];exact hb.size)⟩
  rw[List.flatMap_append,←List.append_assoc,hbe]
  simp only[List.flatMap_cons,List.flatMap_nil,List.append_nil]
  exact(hy'.mono (b':=w.heap.size+1) (by omega)).keep fun g hg _=>Below.heap_setCell W' ⟨w.heap.size,0,none⟩ _ g (by simp;omega)
 case done=>
  rintro D ys W hD rfl ⟨⟨y,i1,i2⟩,i3,i4⟩ hK
  obtain⟨yb,ym,yd,rfl⟩:=i2.form
  have d0:=cb1 i1
  clear hlen hlen0
  gi_wp2
  refine⟨by simp,.inl ⟨_,_,rfl,run_takeDeferred hK,?_⟩⟩
  refine⟨_,results_tmp rfl _ _ _,_,rfl,i3.trans (belowK_b (w:=w) (Nat.le_refl _) W D _ _ (by have:=hB4.size;omega) hK rfl rfl),(i2.mono (Nat.le_succ _)).keep fun g _ hgy=>?_⟩
  refine World.putObj_heap_other fun e=>?_
  subst e
  rcases i2.1.2 with⟨a,e1,_⟩|⟨g',cap,cur,e1,e3,_⟩
  ·rw[e1] at hgy;cases a<;>cases hgy
  ·rw[e1] at hgy
   cases hgy
   rw[hK] at e3
   cases e3
 case stop=>
  rintro D c pre W hD _ h _
  exact h.elim
end Go.Proofs.Yteebobbhhgmeiaa
namespace Go.Proofs.Yteebobbhhgmeiaa
open Go.RowKit
def B0t (l:List TGroup) (r:TRow):List UInt8:=Beu r.key++(l.zip r.cells).flatMap (fun x=>Bk3 x.1.policy x.2)
def B0u (l:List TGroup) (r:TRow):List UInt8:=bif Ah l r==0 then B0t l r else[]
def VO (_a0:List UInt8) (a1:List TGroup) (a2:TRow):Bool:=Ah a1 a2 !=(0:Int)
def Ba9 (a0:List UInt8) (_a1:List TGroup) (_a2:TRow):List UInt8:=[]++a0
def Bba (_a0:List UInt8) (_a1:List TGroup) (_a2:TRow):A:=.sq 0
def Aa6 (a0:List UInt8) (a1:List TGroup) (a2:TRow):Objs:=[(0,some (.arr 5 1 (.ty .u8 (Ba9 a0 a1 a2))))]
def A51 (a0:List UInt8) (a1:List TGroup) (a2:TRow):List Prop:=[((VO a0 a1 a2)=true→Ag ((0:Nat)+a0.length)),((!(VO a0 a1 a2))=true→Ag (a0.length+(8:Nat)+a2.1.size)),((!(VO a0 a1 a2))=true→Ain (4:Nat))]
theorem Bqp (a0:List UInt8) (a1:List TGroup) (a2:TRow):Eo (Au Cl L0) 9 79 [Af .bytes a0,.sl .group a1,Af .row a2] 0 []=some (1,Bba a0 a1 a2,1,Aa6 a0 a1 a2,A51 a0 a1 a2):=by kernel_rfl
theorem Bvu (a0:List UInt8) (a1:List TGroup) (a2:TRow) (hp:∀p∈A51 a0 a1 a2,p):CallOk Try.prog 79 [Af .bytes a0,.sl .group a1,Af .row a2] 0 [] 1 (Bba a0 a1 a2) 1 (Aa6 a0 a1 a2):=Ax (Ap Bhm Av) (Bqp a0 a1 a2) hp
def A52 (_a0:List UInt8) (_a1:List TGroup) (_a2:TRow):A:=.sq 0
def Nu (a0:List UInt8) (a1:List TGroup) (a2:TRow):Objs:=[(0,some (.arr 5 1 (.ty .u8 (a0++B0u a1 a2))))]
def Au7 (a0:List UInt8) (_a1:List TGroup) (_a2:TRow):List Prop:=[Ag (a0.length+1024)]
section
variable {F:Nat→Prop} {N:Nm} {nx:Nat} {R:World}
theorem A9x:∀{l:List UInt8} {zs:List Value},zs.length=l.length→(∀k,k <l.length→HL F N nx R [.v (Bs (l.getD k 0))] ((zs.drop (k*1)).take 1))→zs=l.map Bs
 | [],[],_,_=>rfl
 | [],_::_,h,_=>by cases h
 |_::_,[],h,_=>by cases h
 | x::l,z::zs,h,g=>by
  have h0:=g 0 (Nat.succ_pos _)
  obtain⟨v,vs,e1,e2,e3⟩:=h0.inv
  have hz:z=Bs x:=by
   have e1':[z]=v::vs:=e1
   injection e1' with e1' _
   rw[e1']
   exact e2.v_inv
  rw[List.map_cons,←hz,A9x (l:=l) (zs:=zs) (by simpa using h) fun k hk=>by
   have:=g (k+1) (Nat.succ_lt_succ hk)
   simpa[Nat.mul_one] using this]
theorem Bvv {l:List UInt8} {k:Nat} (hk:k <l.length):HL F N nx R [.v (Bs (l.getD k 0))] (((l.map Bs).drop (k*1)).take 1):=by
 rw[Nat.mul_one,List.drop_eq_getElem_cons (by simpa using hk),List.take_succ_cons,List.take_zero,List.getElem_map,List.getD_eq_getElem?_getD,List.getElem?_eq_getElem hk]
 exact HL.cons (.v _) HL.nil
theorem OwnB.sl {base:Nat} {y:Value} {bs:List UInt8} (h:OwnB base R y bs) (N:Nm):(∀g,C3 y=some g→g <R.heap.size)∧Hv (fun g=>C3 y=some g) N 0 R (.sl .u8 bs) y:=by
 refine⟨fun g hg=>h.1.lt hg,?_⟩
 obtain⟨hl,h2⟩:=h.1
 rcases h2 with⟨a,e1,e2⟩|⟨g,cap,cur,e1,e2,e3,_,e5,e6⟩
 ·obtain rfl:bs=[]:=List.eq_nil_of_length_eq_zero e2
  rw[e1]
  exact Hv.sl_nil rfl
 ·rw[e1]
  refine Hv.of_sl e3 fun hn=>⟨⟨g,0,none⟩,rfl,?_,fun i d hd j x hx=>?_⟩
  ·obtain⟨m,hm⟩:∃m,bs.length=m+1:=⟨bs.length - 1,by omega⟩
   rw[hm]
   rfl
  ·cases j with
   |succ j=>cases hx
   |zero=>
    have hi:=(List.getElem?_eq_some_iff.1 hd).1
    have hz:(bs.map Bs)[i]?=some (Bs d):=by rw[List.getElem?_map,hd];rfl
    rw[←e6,List.getElem?_take_of_lt (by omega)] at hz
    obtain rfl:A.v (Bs d)=x:=Option.some.inj hx
    refine⟨Bs d,?_,.v _⟩
    rw[Eh,FF,Gx e2]
    show cur[0+(i*1+0)]?=_
    rw[Nat.zero_add,Nat.add_zero,Nat.mul_one]
    simpa using hz
end
theorem CallOk.bytes {P:Program} {f:FuncId} {args:List A} {bs:List UInt8} (h:CallOk P f args 0 [] 1 (.sq 0) 1 [(0,some (.arr 5 1 (.ty .u8 bs)))]) {F:Nat→Prop} {N:Nm} {R:World} {vs:List Value} (hF:∀g,F g→g <R.heap.size) (hv:HL F N 0 R args vs):
  Calls P f vs.toArray R fun e R'=>∃y,e=.returned y∧Below R.heap.size R R'∧OwnB R.heap.size R' y bs:=by
 refine(h F N R vs (HRel.bare hF) hv).mono fun e R' ⟨y,F',N',e1,h2,h3,h4,h5⟩=>⟨y,e1,h5 (Nat.le_refl _),?_⟩
 obtain rfl:y=N'.q 0:=by cases h4;rfl
 obtain⟨_,zs,g1,g2⟩:=h2.ob 0 _ rfl
 have e:zs=bs.map Bs:=A9x (F:=F') (N:=N') (nx:=1) (R:=R') (by rw[g1.1];exact Nat.mul_one _) g2
 rw[e] at g1
 refine⟨g1,fun g hg=>?_⟩
 rcases h3.foot g ⟨0,_,rfl,hg⟩ with⟨i,ob,hl,_⟩|h
 ·cases hl
 ·exact h
theorem OwnB.made {P:Program} {f:FuncId} {F:Nat→Prop} {N:Nm} {R:World} {vs:List Value} {bs:List UInt8} (hR:HRel F N 0 [] R)
  (h:Calls P f vs.toArray R fun e R'=>∃y,e=.returned y∧Below R.heap.size R R'∧OwnB R.heap.size R' y bs):
  Calls P f vs.toArray R fun e R'=>∃y F' N',e=.returned y∧HRel F' N' 1 [(0,some (.arr 5 1 (.ty .u8 bs)))] R'∧Step F N 0 [] R F' N' 1 [(0,some (.arr 5 1 (.ty .u8 bs)))] R'∧Hv F' N' 1 R' (.sq 0) y∧(1≤1→Below R.heap.size R R'):=by
 refine h.mono fun e R' ⟨y,e1,hb,h2,h3⟩=>⟨y,F,N.setQ 0 y,e1,?_,?_,?_,fun _=>hb⟩
 ·have hq:(N.setQ 0 y).q 0=y:=by show LS N.q 0 y 0=y;exact C2 _ _ _
  have one:∀i ob,As i [(0,some (Ob.arr 5 1 (.ty .u8 bs)))]=some ob→i=0∧ob=.arr 5 1 (.ty .u8 bs):=fun i ob hl=>by
   cases i with
   |zero=>cases hl;exact⟨rfl,rfl⟩
   |succ i=>cases hl
  refine⟨fun g hg=>Nat.lt_of_lt_of_le (hR.flt g hg) hb.size,fun i ob hl=>?_,fun i ob g hl hg hF=>?_,fun i j x z g hl hl' _ _=>(one i x hl).1.trans (one j z hl').1.symm⟩
  ·obtain⟨rfl,rfl⟩:=one i ob hl
   exact⟨Nat.succ_pos _,bs.map Bs,by rw[hq];exact h2,fun k hk=>Bvv hk⟩
  ·obtain⟨rfl,rfl⟩:=one i ob hl
   have hg':C3 ((N.setQ 0 y).q 0)=some g:=hg
   rw[hq] at hg'
   have:=hR.flt g hF
   have:=h3 g hg'
   omega
 ·refine⟨Nat.zero_le _,fun i hi=>absurd hi (Nat.not_lt_zero _),fun i hi=>absurd hi (Nat.not_lt_zero _),fun _ h=>h,fun _ h=> .inl h,fun g ⟨i,ob,hl,hg⟩=> .inr ?_,hb.os,hb.tape,hb.output,hb.size,fun g hg _=>hb.block g hg⟩
  cases i with
  |succ i=>cases hl
  |zero=>
   cases hl
   have hg':C3 ((N.setQ 0 y).q 0)=some g:=hg
   rw[show(N.setQ 0 y).q 0=y by show LS N.q 0 y 0=y;exact C2 _ _ _] at hg'
   exact h3 g hg'
 ·have hq:(N.setQ 0 y).q 0=y:=by show LS N.q 0 y 0=y;exact C2 _ _ _
  have:=Hv.sq (F:=F) (N:=N.setQ 0 y) (nx:=1) (R:=R') (i:=0) (Nat.succ_pos _)
  rw[hq] at this
  exact this
theorem B4c (p:Int) (c:TCell):(Bk3 p c).length≤128:=by
 unfold Bk3 Byl
 cases hg:Bw p c with
 |false=>exact Nat.zero_le _
 | true=>
  have n8:=Zb (PR c)
  have s8:=B0v c.stamp
  have v16:=Bev c.vec
  have d16:=Bev c.dead
  have t8:=Bpe c.value
  cases hw:BY c with
  |false=>cases HG c.dead<;>simp only[cond_true,cond_false,List.length_append,List.length_nil]<;>omega
  |true=>
   have:=((Bab.1 hg).st hw).2.2.2.1
   cases HG c.dead<;>cases c.gone<;>simp only[cond_true,cond_false,List.length_append,List.length_nil]<;>omega
theorem Bqo (a0:List UInt8) (a1:List TGroup) (a2:TRow) (hp:∀p∈Au7 a0 a1 a2,p):CallOk Try.prog 79 [Af .bytes a0,.sl .group a1,Af .row a2] 0 [] 1 (A52 a0 a1 a2) 1 (Nu a0 a1 a2):=by
 have hb:Ag (a0.length+1024):=hp _ (List.mem_cons_self ..)
 unfold Ag at hb
 cases hg:Ah a1 a2==0 with
 | false=>
  have hk:VO a0 a1 a2=true:=by
   show(Ah a1 a2 !=0)=true
   simpa using hg
  have h:=Bvu a0 a1 a2 (Aa (fun _=>by unfold Ag;omega) (Aa (fun h=>by rw[hk] at h;cases h) (Aa (fun h=>by rw[hk] at h;cases h) Ad)))
  have e:Aa6 a0 a1 a2=Nu a0 a1 a2:=by
   unfold Aa6 Nu Ba9 B0u
   rw[hg,cond_false,List.append_nil,List.nil_append]
  rw[e] at h
  exact h
 | true=>
  have h0:Ah a1 a2=0:=by simpa using hg
  obtain⟨h1,hlen,_,h32,_⟩:=AK h0
  obtain⟨hl1,hl4⟩:=FR h1
  intro F N R vs hR hv
  obtain⟨v,vs,rfl,hv0,hv⟩:=hv.inv
  obtain⟨v0,vs,rfl,k0,hv⟩:=hv.inv
  obtain⟨v1,vs,rfl,k1,hv⟩:=hv.inv
  rw[hv.inv0]
  have hv0':=hv0
  obtain⟨ab,ncap,rfl,_⟩:=Hv.sl_inv (c:=.u8) (l:=a0) hv0
  obtain⟨us,rfl,k2⟩:=Hv.agg_inv (xs:=[.v (.string a2.key),.sl .cell a2.cells]) k1
  obtain⟨u0,us,rfl,m0,k2⟩:=k2.inv
  obtain⟨u1,us,rfl,m1,k2⟩:=k2.inv
  obtain rfl:=k2.inv0
  obtain rfl:=m0.v_inv
  obtain⟨aa,cap0,rfl,g0⟩:=B58 hR.flt k0
  obtain⟨ac,cap1,rfl,g1⟩:=B56 hR.flt m1
  have ho:Nu a0 a1 a2=[(0,some (.arr 5 1 (.ty .u8 ((a0++Beu a2.key)++(a1.zip a2.cells).flatMap (fun x=>Bk3 x.1.policy x.2)))))]:=by
   unfold Nu B0u B0t
   rw[hg,cond_true,List.append_assoc]
  rw[ho]
  refine OwnB.made hR (Bqr R aa ac a1 a2.cells a2.key cap0 cap1 a0.length ncap ab (a0++Beu a2.key) Bk3 128 B4c ?_ hl1 hl4 (by rw[hlen];exact NU _) ?_ ?_ g0 g1)
  ·intro W hW
   have h:Calls Try.prog 65 #[.slice aa a1.length cap0,.agg #[.string a2.key,.slice ac a2.cells.length cap1]] W fun e W'=>e=.returned (.int .i64 (Ah a1 a2))∧Below W.heap.size W W':=(Auz a1 a2 (fun _ h=>by cases h)).plain (F:=F) (N:=N) (R:=W) (vs:=[.slice aa a1.length cap0,.agg #[.string a2.key,.slice ac a2.cells.length cap1]]) (fun g hg=>Nat.lt_of_lt_of_le (hR.flt g hg) hW.size) (HL.cons (k0.step (hR.grow hW).2) (HL.cons (k1.step (hR.grow hW).2) HL.nil))
   rw[h0] at h
   exact h
  ·intro W hW
   exact(YR a0 a2.key (Aa (by unfold Ag;omega) Ad)).bytes (F:=F) (N:=N) (R:=W) (vs:=[_,.string a2.key]) (fun g hg=>Nat.lt_of_lt_of_le (hR.flt g hg) hW.size) (HL.cons (hv0'.step (hR.grow hW).2) (HL.cons (.v _) HL.nil))
  ·intro W v bs q c base ho hl
   obtain⟨f1,f2⟩:=ho.sl N
   have h8:=Bpe a2.key
   rw[List.length_append] at hl
   exact(Arz bs q c (Aa (by unfold Ag;omega) Ad)).bytes (F:=fun g=>C3 v=some g) (N:=N) (R:=W) (vs:=[v,.int .i64 q,cV c]) f1 (HL.cons f2 (HL.cons (.v _) (HL.cons (.v _) HL.nil)))
def Bbb:List A→Nat→Objs→Option AV:=A7 [.t .bytes,.l .group,.t .row] 1 A52 Nu Au7
theorem Bmw:ET Try.prog 79 Bbb:=Aq (ks:=[.t .bytes,.l .group,.t .row]) Bqo
noncomputable def B68:=AU 79 Bbb Cl
theorem Br3:CD Try.prog B68:=Ak Bmw Bhm
def Ar (a0:Int) (a1:Int) (a2:Int):Int:=bif decide (a0 >a2)||decide (a1 >a2)||decide (a0 >IntKind.i64.wrap (a2 - a1)) then IntKind.i64.wrap (a2+(1:Int)) else IntKind.i64.wrap (a0+a1)
def Aps (a0:Int) (a1:Int) (a2:Int):A:=.v (.int .i64 (Ar a0 a1 a2))
def Apr (_a0:Int) (_a1:Int) (_a2:Int):Objs:=[]
def Agj (_a0:Int) (_a1:Int) (_a2:Int):List Prop:=[]
theorem Bpg (a0:Int) (a1:Int) (a2:Int):Eo (Au B68 L0) 9 111 [Af .i64 a0,Af .i64 a1,Af .i64 a2] 0 []=some (1,Aps a0 a1 a2,0,Apr a0 a1 a2,Agj a0 a1 a2):=by kernel_rfl
theorem Bvh (a0:Int) (a1:Int) (a2:Int) (hp:∀p∈Agj a0 a1 a2,p):CallOk Try.prog 111 [Af .i64 a0,Af .i64 a1,Af .i64 a2] 0 [] 1 (Aps a0 a1 a2) 0 (Apr a0 a1 a2):=Ax (Ap Br3 Av) (Bpg a0 a1 a2) hp
def Apt:List A→Nat→Objs→Option AV:=A7 [.t .i64,.t .i64,.t .i64] 0 Aps Apr Agj
theorem Ata:ET Try.prog 111 Apt:=Aq (ks:=[.t .i64,.t .i64,.t .i64]) Bvh
noncomputable def Bnq:=AU 111 Apt B68
theorem Ayo:CD Try.prog Bnq:=Ak Ata Br3
theorem Azj {n k m:Int} (hn:0≤n) (hk:0≤k∧k≤9223372036854775807) (hm:0≤m∧m≤1099511627776):(Ar n k m≤m→n+k≤m)∧0≤Ar n k m∧(n+k≤m→Ar n k m=n+k):=by
 unfold Ar
 rw[i64_in (n:=m - k) (by omega),i64_in (n:=m+1) (by omega)]
 by_cases h:n+k≤m
 ·have e:(decide (n >m)||decide (k >m)||decide (n >m - k))=false:=by
   rw[decide_eq_false (by omega),decide_eq_false (by omega),decide_eq_false (by omega)];rfl
  rw[e,cond_false,i64_in (by omega)]
  exact⟨fun _=>h,by omega,fun _=>rfl⟩
 ·have e:(decide (n >m)||decide (k >m)||decide (n >m - k))=true:=by
   rw[decide_eq_true (p:=n >m - k) (by omega),Bool.or_true]
  rw[e,cond_true]
  exact⟨fun h'=>by omega,by omega,fun h'=>absurd h' h⟩
theorem Aew {k:Nat} (h:Am k):(0:Int)≤(k:Int)∧(k:Int)≤9223372036854775807:=by unfold Am at h;omega
abbrev Ct:Type:=(List TRow)×Int×Int×Int
def Me (x:Ct):St:=⟨64,0,[(1,.sl .row x.1),(5,.v (.int .i64 x.2.1)),(6,.v (.int .i64 x.2.2.1)),(7,.v (.int .i64 x.2.2.2))],[]⟩
def Oy:St→Option Ct
 |⟨64,0,[(1,.sl .row z0),(5,.v (.int .i64 z1)),(6,.v (.int .i64 z2)),(7,.v (.int .i64 z3))],[]⟩=>some (z0,z1,z2,z3)
 |_=>none
theorem Aj2:∀s x,Oy s=some x→s=Me x:=fun s x h=>by
 unfold Oy at h
 split at h
 ·cases h;rfl
 ·cases h
def Yb:Co:=⟨0,0,[1,5,6,7],[],[],[],[5],[]⟩
def A06:CR:=⟨[],[],[1,5,6,7],[]⟩
def Ep (a0:List TRow) (a1:Int) (a2:Int) (a3:Int):Bool:=!!(decide (a3 <(↑(a0.getD a2.toNat (Ab TC.row)).2.length:Int))&&decide (a1≤(5000:Int)))
def M7 (a0:List TRow) (a1:Int) (a2:Int) (a3:Int):Int:=Ar a1 (↑((a0.getD a2.toNat (Ab TC.row)).2.getD a3.toNat (Ab TC.cell)).4.size:Int) (5000:Int)
def Aop (a0:List TRow) (a1:Int) (a2:Int) (a3:Int):Bool:=!(decide (a3 <(↑(a0.getD a2.toNat (Ab TC.row)).2.length:Int))&&decide (a1≤(5000:Int)))
def CU (x:Ct):Ct:=(x.1,M7 x.1 x.2.1 x.2.2.1 x.2.2.2,x.2.2.1,IntKind.i64.wrap (x.2.2.2+(1:Int)))
def CT (x:Ct):Cnd:=some ((Ep x.1 x.2.1 x.2.2.1 x.2.2.2))
def M8 (x:Ct):List Prop:=[((0:Int)≤x.2.2.1∧x.2.2.1 <(↑x.1.length:Int)),((Ep x.1 x.2.1 x.2.2.1 x.2.2.2)=true→(0:Int)≤x.2.2.1∧x.2.2.1 <(↑x.1.length:Int)),((Ep x.1 x.2.1 x.2.2.1 x.2.2.2)=true→(0:Int)≤x.2.2.2∧x.2.2.2 <(↑(x.1.getD x.2.2.1.toNat (Ab TC.row)).2.length:Int))]
abbrev EY:Ct→List Prop:=M8
def Ru (x:Ct):Bd:=[(some 2,some (Aop x.1 x.2.1 x.2.2.1 x.2.2.2),⟨64,0,[(5,.v (.int .i64 x.2.1))],[]⟩)]
def DC (x:Ct):Nat:=((↑(x.1.getD x.2.2.1.toNat (Ab TC.row)).2.length:Int) - x.2.2.2).toNat
def Ky (x:Ct):Ct:=A5 CU CT (DC x) x
theorem Av1 (a0:List TRow) (a1:Int) (a2:Int) (a3:Int):Bk (Au Bnq L0) 9 (Ae Try.prog 60 2) Yb (Me (a0,a1,a2,a3))=some (M8 (a0,a1,a2,a3),Ru (a0,a1,a2,a3),CT (a0,a1,a2,a3),Me (CU (a0,a1,a2,a3))):=by kernel_rfl
theorem Av2 (a0:List TRow) (a1:Int) (a2:Int) (a3:Int) (hp:∀p∈EY (a0,a1,a2,a3),p):∀p∈M8 (a0,a1,a2,a3),p:=hp
noncomputable def TN:=GH (Au Bnq L0) (Ae Try.prog 60 2) Yb A06 Oy DC CU CT EY Ru
theorem Aoq:∀s b ps outs,TN s=some (b,ps,outs)→Wf s ⟨ps,outs,none⟩∧Be (Au C0 L0) b s ps outs:=
 A6 (T:=Me) Ayo Av (u:=9) (by kernel_rfl) (by decide) (fun⟨a0,a1,a2,a3⟩=>Av1 a0 a1 a2 a3) (fun⟨a0,a1,a2,a3⟩=>Av2 a0 a1 a2 a3) Aj2 (fun _=>AI (n:=64) rfl) fun _ _=>rfl
noncomputable def Md:=CY 2 TN L0
theorem TM:Gf Md:=AP Aoq Av
abbrev Cr:Type:=(List TRow)×Int×Int
def Mc (x:Cr):St:=⟨64,0,[(1,.sl .row x.1),(5,.v (.int .i64 x.2.1)),(6,.v (.int .i64 x.2.2))],[]⟩
def Ox:St→Option Cr
 |⟨64,0,[(1,.sl .row z0),(5,.v (.int .i64 z1)),(6,.v (.int .i64 z2))],[]⟩=>some (z0,z1,z2)
 |_=>none
theorem Aj1:∀s x,Ox s=some x→s=Mc x:=fun s x h=>by
 unfold Ox at h
 split at h
 ·cases h;rfl
 ·cases h
def Ya:Co:=⟨0,0,[1,5,6],[],[],[],[5],[]⟩
def A05:CR:=⟨[],[],[1,5,6],[]⟩
def Bf (a0:List TRow) (a1:Int) (a2:Int):Bool:=!!(decide (a2 <(↑a0.length:Int))&&decide (a1≤(5000:Int)))
def GT (a0:List TRow) (a1:Int) (a2:Int):Int:=(Ky (a0,Ar (Ar a1 (↑(a0.getD a2.toNat (Ab TC.row)).1.size:Int) (5000:Int)) (↑(a0.getD a2.toNat (Ab TC.row)).2.length:Int) (5000:Int),a2,(0:Int))).snd.fst
def Aon (a0:List TRow) (a1:Int) (a2:Int):Bool:=!(decide (a2 <(↑a0.length:Int))&&decide (a1≤(5000:Int)))
def FT (x:Cr):Cr:=(x.1,GT x.1 x.2.1 x.2.2,IntKind.i64.wrap (x.2.2+(1:Int)))
def FS (x:Cr):Cnd:=some ((Bf x.1 x.2.1 x.2.2))
def TJ (x:Cr):List Prop:=[((Bf x.1 x.2.1 x.2.2)=true→(0:Int)≤x.2.2∧x.2.2 <(↑x.1.length:Int)),((Bf x.1 x.2.1 x.2.2)=true→(0:Int)≤x.2.2∧x.2.2 <(↑x.1.length:Int)),((Bf x.1 x.2.1 x.2.2)=true→Ae Try.prog (60:FuncId) (2:Nat)=Ae Try.prog (60:FuncId) (2:Nat)),((Bf x.1 x.2.1 x.2.2)=true→AB CU CT EY (DC (x.1,Ar (Ar x.2.1 (↑(x.1.getD x.2.2.toNat (Ab TC.row)).1.size:Int) (5000:Int)) (↑(x.1.getD x.2.2.toNat (Ab TC.row)).2.length:Int) (5000:Int),x.2.2,(0:Int))) (x.1,Ar (Ar x.2.1 (↑(x.1.getD x.2.2.toNat (Ab TC.row)).1.size:Int) (5000:Int)) (↑(x.1.getD x.2.2.toNat (Ab TC.row)).2.length:Int) (5000:Int),x.2.2,(0:Int)))]
def Jp (x:Cr):List Prop:=[((Bf x.1 x.2.1 x.2.2)=true→(0:Int)≤x.2.2∧x.2.2 <(↑x.1.length:Int)),((Bf x.1 x.2.1 x.2.2)=true→AB CU CT EY (DC (x.1,Ar (Ar x.2.1 (↑(x.1.getD x.2.2.toNat (Ab TC.row)).1.size:Int) (5000:Int)) (↑(x.1.getD x.2.2.toNat (Ab TC.row)).2.length:Int) (5000:Int),x.2.2,(0:Int))) (x.1,Ar (Ar x.2.1 (↑(x.1.getD x.2.2.toNat (Ab TC.row)).1.size:Int) (5000:Int)) (↑(x.1.getD x.2.2.toNat (Ab TC.row)).2.length:Int) (5000:Int),x.2.2,(0:Int)))]
def Rt (x:Cr):Bd:=[(some 0,some (Aon x.1 x.2.1 x.2.2),⟨64,0,[(5,.v (.int .i64 x.2.1))],[]⟩)]
def H5 (x:Cr):Nat:=((↑x.1.length:Int) - x.2.2).toNat
def TL (x:Cr):Cr:=A5 FT FS (H5 x) x
theorem Avz (a0:List TRow) (a1:Int) (a2:Int):Bk (Au Bnq Md) 9 (Ae Try.prog 60 0) Ya (Mc (a0,a1,a2))=some (TJ (a0,a1,a2),Rt (a0,a1,a2),FS (a0,a1,a2),Mc (FT (a0,a1,a2))):=by kernel_rfl
theorem Av0 (a0:List TRow) (a1:Int) (a2:Int) (hp:∀p∈Jp (a0,a1,a2),p):∀p∈TJ (a0,a1,a2),p:=by
 have n0:((Bf a0 a1 a2)=true→(0:Int)≤a2∧a2 <(↑a0.length:Int)):=N0 hp
 have n2:((Bf a0 a1 a2)=true→Ae Try.prog (60:FuncId) (2:Nat)=Ae Try.prog (60:FuncId) (2:Nat)):=by intros;rfl
 have n3:=N0 (N1 hp)
 exact(Aa n0 (Aa n0 (Aa n2 (Aa n3 Ad))))
noncomputable def TK:=GH (Au Bnq Md) (Ae Try.prog 60 0) Ya A05 Ox H5 FT FS Jp Rt
theorem Aoo:∀s b ps outs,TK s=some (b,ps,outs)→Wf s ⟨ps,outs,none⟩∧Be (Au C0 L0) b s ps outs:=
 A6 (T:=Mc) Ayo TM (u:=9) (by kernel_rfl) (by decide) (fun⟨a0,a1,a2⟩=>Avz a0 a1 a2) (fun⟨a0,a1,a2⟩=>Av0 a0 a1 a2) Aj1 (fun _=>AI (n:=64) rfl) fun _ _=>rfl
noncomputable def X9:=CY 0 TK Md
theorem Aom:Gf X9:=AP Aoo TM
def Rs (a0:List TGroup) (a1:List TRow):Bool:=decide ((TL (a1,Ar (0:Int) (↑a0.length:Int) (5000:Int),(0:Int))).snd.fst≤(5000:Int))
def Ash (a0:List TGroup) (a1:List TRow):A:=.v (.bool (Rs a0 a1))
def Asg (_a0:List TGroup) (_a1:List TRow):Objs:=[]
def Aj4 (a0:List TGroup) (a1:List TRow):List Prop:=[(AB FT FS Jp (H5 (a1,Ar (0:Int) (↑a0.length:Int) (5000:Int),(0:Int))) (a1,Ar (0:Int) (↑a0.length:Int) (5000:Int),(0:Int)))]
theorem Bdl (a0:List TGroup) (a1:List TRow):Eo (Au Bnq X9) 9 60 [.sl .group a0,Af .rows a1] 0 []=some (1,Ash a0 a1,0,Asg a0 a1,[(Ae Try.prog (60:FuncId) (0:Nat)=Ae Try.prog (60:FuncId) (0:Nat)),(AB FT FS Jp (H5 (a1,Ar (0:Int) (↑a0.length:Int) (5000:Int),(0:Int))) (a1,Ar (0:Int) (↑a0.length:Int) (5000:Int),(0:Int)))]):=by kernel_rfl
theorem Bj4 (a0:List TGroup) (a1:List TRow) (hp:∀p∈Aj4 a0 a1,p):CallOk Try.prog 60 [.sl .group a0,Af .rows a1] 0 [] 1 (Ash a0 a1) 0 (Asg a0 a1):=by
 have n1:=N0 hp
 exact Ax (Ap Ayo Aom) (Bdl a0 a1) (Aa rfl (Aa n1 Ad))
def Aj5 (a0:List TGroup) (a1:List TRow):A:=.v (.bool (Rs a0 a1))
def Aj3 (_a0:List TGroup) (_a1:List TRow):Objs:=[]
def Acg (a0:List TGroup) (a1:List TRow):List Prop:=[Am a0.length∧Am a1.length∧∀r∈a1,Am r.key.size∧Am r.cells.length∧∀c∈r.cells,Am c.value.size]
def S6 (m:Nat) (r:TRow):Prop:=r.key.size≤m∧r.cells.length≤m∧∀c∈r.cells,c.value.size≤m
def Xf (r:TRow):Prop:=Am r.key.size∧Am r.cells.length∧∀c∈r.cells,Am c.value.size
theorem getD_in {α:Type} (l:List α) (d:α) (i:Nat) (h:i <l.length):l.getD i d∈l:=by
 rw[List.getD_eq_getElem?_getD,List.getElem?_eq_getElem h]
 exact List.getElem_mem h
def nk (cs:List TCell) (n0:Int):Nat→Int
 |0=>n0
 |k+1=>Ar (nk cs n0 k) ((cs.getD k (Ab TC.cell)).4.size:Int) 5000
theorem B6b (cs:List TCell) (n0:Int) (h0:0≤n0) (hw:∀c∈cs,Am c.value.size):∀k,k≤cs.length→0≤nk cs n0 k∧(nk cs n0 k≤5000→n0≤5000∧∀j,j <k→(cs.getD j (Ab TC.cell)).value.size≤5000)
 |0,_=>⟨h0,fun h=>⟨h,fun j hj=>absurd hj (Nat.not_lt_zero _)⟩⟩
 | k+1,hk=>by
  obtain⟨g1,g2⟩:=B6b cs n0 h0 hw k (by omega)
  obtain⟨a1,a2,_⟩:=Azj g1 (Aew (hw _ (getD_in cs (Ab TC.cell) k (by omega)))) (m:=5000) (by omega)
  refine⟨a2,fun h=>?_⟩
  have h':=a1 h
  obtain⟨b1,b2⟩:=g2 (by omega)
  refine⟨b1,fun j hj=>?_⟩
  by_cases e:j <k
  ·exact b2 j e
  ·obtain rfl:j=k:=by omega
   show(cs.getD j (Ab TC.cell)).4.size≤5000
   omega
theorem Bki (rows:List TRow) (i:Nat) (hi:i <rows.length) (n0:Int) (h0:0≤n0) (hl:n0≤5000→(rows.getD i (Ab TC.row)).cells.length≤5000) (hw:∀c∈(rows.getD i (Ab TC.row)).cells,Am c.value.size):
  AB CU CT EY (DC (rows,n0,(i:Int),0)) (rows,n0,(i:Int),0)∧
  0≤(Ky (rows,n0,(i:Int),0)).snd.fst∧((Ky (rows,n0,(i:Int),0)).snd.fst≤5000→n0≤5000∧∀c∈(rows.getD i (Ab TC.row)).cells,c.value.size≤5000):=by
 generalize hcs:(rows.getD i (Ab TC.row)).cells=cs at*
 have hcs2:(rows.getD i (Ab TC.row)).2=cs:=hcs
 have hgo:∀k:Nat,Ep rows (nk cs n0 k) (i:Int) (k:Int)=(decide (k <cs.length)&&!!decide (nk cs n0 k≤5000)):=fun k=>by
  unfold Ep
  rw[Int.toNat_natCast,hcs2,nn,nn,LY]
 obtain⟨h1,k,hk,hx,hs,hst,_⟩:=Io (fun k=>((rows,nk cs n0 k,(i:Int),(k:Int)):Ct)) cs.length (fun k=>!decide (nk cs n0 k≤5000)) CU CT EY (DC (rows,n0,(i:Int),0)) (rows,n0,(i:Int),0) rfl
  (by show cs.length≤(((rows.getD ((i:Int)).toNat (Ab TC.row)).2.length:Int) - 0).toNat;rw[Int.toNat_natCast,hcs2];omega)
  (fun k _ _=>by
   show Ep rows (nk cs n0 k) (i:Int) (k:Int)=_
   rw[hgo])
  (fun k hk hs=>by
   have h5:n0≤5000:=by
    have:=hs 0 (Nat.succ_pos k)
    rw[Bool.not_eq_false'] at this
    exact of_decide_eq_true this
   have:=hl h5
   show(rows,M7 rows (nk cs n0 k) (i:Int) (k:Int),(i:Int),IntKind.i64.wrap ((k:Int)+1))=(rows,nk cs n0 (k+1),(i:Int),((k+1:Nat):Int))
   rw[DU (by omega)]
   unfold M7
   rw[Int.toNat_natCast,Int.toNat_natCast,hcs2]
   rfl)
  (fun k _ _=>Aa (by show(0:Int)≤(i:Int)∧(i:Int) <(rows.length:Int);omega) (Aa (fun _=>by show(0:Int)≤(i:Int)∧(i:Int) <(rows.length:Int);omega) (Aa (fun h=>by
   have h':Ep rows (nk cs n0 k) (i:Int) (k:Int)=true:=h
   rw[hgo,Bool.and_eq_true] at h'
   have:=of_decide_eq_true h'.1
   show(0:Int)≤(k:Int)∧(k:Int) <((rows.getD ((i:Int)).toNat (Ab TC.row)).2.length:Int)
   rw[Int.toNat_natCast,hcs2]
   omega) Ad)))
 have hr:Ky (rows,n0,(i:Int),0)=(rows,nk cs n0 k,(i:Int),(k:Int)):=hx
 obtain⟨g1,g2⟩:=B6b cs n0 h0 hw k hk
 rw[hr]
 refine⟨h1,g1,fun h=>?_⟩
 obtain⟨b1,b2⟩:=g2 h
 refine⟨b1,fun c hc=>?_⟩
 have hkn:k=cs.length:=by
  rcases Nat.lt_or_ge k cs.length with h'|h'
  ·have:=hst h'
   rw[decide_eq_true h] at this
   cases this
  ·omega
 obtain⟨j,hj,rfl⟩:=List.mem_iff_getElem.1 hc
 have:=b2 j (by omega)
 rw[List.getD_eq_getElem?_getD,List.getElem?_eq_getElem hj] at this
 exact this
def nr (rows:List TRow) (n0:Int):Nat→Int
 |0=>n0
 |i+1=>GT rows (nr rows n0 i) (i:Int)
theorem A1k (rows:List TRow) (i:Nat) (hi:i <rows.length) (n:Int) (hn:0≤n) (hw:Xf (rows.getD i (Ab TC.row))):
  AB CU CT EY (DC (rows,Ar (Ar n ((rows.getD i (Ab TC.row)).1.size:Int) 5000) ((rows.getD i (Ab TC.row)).2.length:Int) 5000,(i:Int),0)) (rows,Ar (Ar n ((rows.getD i (Ab TC.row)).1.size:Int) 5000) ((rows.getD i (Ab TC.row)).2.length:Int) 5000,(i:Int),0)∧
  0≤GT rows n (i:Int)∧(GT rows n (i:Int)≤5000→n≤5000∧S6 5000 (rows.getD i (Ab TC.row))):=by
 obtain⟨w1,w2,w3⟩:=hw
 obtain⟨a1,a2,_⟩:=Azj (k:=((rows.getD i (Ab TC.row)).1.size:Int)) hn (Aew w1) (m:=5000) (by omega)
 obtain⟨c1,c2,_⟩:=Azj (k:=((rows.getD i (Ab TC.row)).2.length:Int)) a2 (Aew w2) (m:=5000) (by omega)
 obtain⟨g1,g2,g3⟩:=Bki rows i hi _ c2 (fun h=>by have:=c1 h;show(rows.getD i (Ab TC.row)).2.length≤5000;omega) w3
 unfold GT
 rw[Int.toNat_natCast]
 refine⟨g1,g2,fun h=>?_⟩
 obtain⟨h1,h2⟩:=g3 h
 have q1:=c1 h1
 have q2:=a1 (by omega)
 exact⟨by omega,by show(rows.getD i (Ab TC.row)).1.size≤5000;omega,by show(rows.getD i (Ab TC.row)).2.length≤5000;omega,h2⟩
theorem B0e (rows:List TRow) (n0:Int) (h0:0≤n0) (hw:∀r∈rows,Xf r):∀k,k≤rows.length→0≤nr rows n0 k∧(nr rows n0 k≤5000→n0≤5000∧∀j,j <k→S6 5000 (rows.getD j (Ab TC.row)))
 |0,_=>⟨h0,fun h=>⟨h,fun j hj=>absurd hj (Nat.not_lt_zero _)⟩⟩
 | k+1,hk=>by
  obtain⟨g1,g2⟩:=B0e rows n0 h0 hw k (by omega)
  obtain⟨_,a2,a3⟩:=A1k rows k (by omega) (nr rows n0 k) g1 (hw _ (getD_in rows (Ab TC.row) k (by omega)))
  refine⟨a2,fun h=>?_⟩
  obtain⟨h1,h2⟩:=a3 h
  obtain⟨b1,b2⟩:=g2 h1
  refine⟨b1,fun j hj=>?_⟩
  by_cases e:j <k
  ·exact b2 j e
  ·obtain rfl:j=k:=by omega
   exact h2
theorem Bzy (l:List TGroup) (rows:List TRow) (hl:Am l.length) (hr:Am rows.length) (hw:∀r∈rows,Xf r):(∀p∈Aj4 l rows,p)∧(Rs l rows=true→l.length≤5000∧∀r∈rows,S6 5000 r):=by
 have hr':=hr
 unfold Am at hr'
 obtain⟨a1,a2,_⟩:=Azj (n:=0) (k:=(l.length:Int)) (Int.le_refl _) (Aew hl) (m:=5000) (by omega)
 generalize hn0:Ar 0 (l.length:Int) 5000=n0 at*
 have hgo:∀k:Nat,Bf rows (nr rows n0 k) (k:Int)=(decide (k <rows.length)&&!!decide (nr rows n0 k≤5000)):=fun k=>by
  unfold Bf
  rw[nn,nn,LY]
 obtain⟨h1,k,hk,hx,hs,hst,_⟩:=Io (fun k=>((rows,nr rows n0 k,(k:Int)):Cr)) rows.length (fun k=>!decide (nr rows n0 k≤5000)) FT FS Jp (H5 (rows,n0,0)) (rows,n0,0) rfl
  (by show rows.length≤((rows.length:Int) - 0).toNat;omega)
  (fun k _ _=>by
   show Bf rows (nr rows n0 k) (k:Int)=_
   rw[hgo])
  (fun k hk hs=>by
   show(rows,GT rows (nr rows n0 k) (k:Int),IntKind.i64.wrap ((k:Int)+1))=(rows,nr rows n0 (k+1),((k+1:Nat):Int))
   rw[DU (by omega)]
   rfl)
  (fun k hk _=>by
   have hin:Bf rows (nr rows n0 k) (k:Int)=true→k <rows.length:=fun h=>by
    rw[hgo,Bool.and_eq_true] at h
    exact of_decide_eq_true h.1
   refine Aa (fun h=>?_) (Aa (fun h=>?_) Ad)
   ·have:=hin h
    show(0:Int)≤(k:Int)∧(k:Int) <(rows.length:Int)
    omega
   ·have hk':=hin h
    have:=(A1k rows k hk' (nr rows n0 k) (B0e rows n0 a2 hw k hk).1 (hw _ (getD_in rows (Ab TC.row) k hk'))).1
    have e:((k:Int)).toNat=k:=Int.toNat_natCast k
    show AB CU CT EY (DC (rows,Ar (Ar (nr rows n0 k) ((rows.getD ((k:Int)).toNat (Ab TC.row)).1.size:Int) 5000) ((rows.getD ((k:Int)).toNat (Ab TC.row)).2.length:Int) 5000,(k:Int),0)) (rows,Ar (Ar (nr rows n0 k) ((rows.getD ((k:Int)).toNat (Ab TC.row)).1.size:Int) 5000) ((rows.getD ((k:Int)).toNat (Ab TC.row)).2.length:Int) 5000,(k:Int),0)
    rw[e]
    exact this)
 have hrun:TL (rows,n0,0)=(rows,nr rows n0 k,(k:Int)):=hx
 refine⟨Aa (by rw[hn0];exact h1) Ad,fun h=>?_⟩
 unfold Rs at h
 rw[hn0,hrun] at h
 have h5:nr rows n0 k≤5000:=of_decide_eq_true h
 obtain⟨b1,b2⟩:=(B0e rows n0 a2 hw k hk).2 h5
 have hkn:k=rows.length:=by
  rcases Nat.lt_or_ge k rows.length with h'|h'
  ·have:=hst h'
   rw[decide_eq_true h5] at this
   cases this
  ·omega
 refine⟨by have:=a1 b1;omega,fun r hr=>?_⟩
 obtain⟨j,hj,rfl⟩:=List.mem_iff_getElem.1 hr
 have:=b2 j (by omega)
 rw[List.getD_eq_getElem?_getD,List.getElem?_eq_getElem hj] at this
 exact this
theorem Bdk (a0:List TGroup) (a1:List TRow) (hp:∀p∈Acg a0 a1,p):CallOk Try.prog 60 [.sl .group a0,Af .rows a1] 0 [] 1 (Aj5 a0 a1) 0 (Aj3 a0 a1):=by
 obtain⟨h1,h2,h3⟩:=hp _ (List.mem_cons_self ..)
 exact Bj4 a0 a1 (Bzy a0 a1 h1 h2 h3).1
def Yc:List A→Nat→Objs→Option AV:=A7 [.l .group,.t .rows] 0 Aj5 Aj3 Acg
theorem Ach:ET Try.prog 60 Yc:=Aq (ks:=[.l .group,.t .rows]) Bdk
noncomputable def B69:=AU 60 Yc Bnq
theorem Br4:CD Try.prog B69:=Ak Ach Ayo
def Bdn:ByteArray:=ByteArray.mk #[(97:UInt8)]
def Bdo:ByteArray:=ByteArray.mk #[(98:UInt8)]
def Vf:A:=.sq 0
def Ve:Objs:=[(0,some (.arr 79 2 (.lst [[.v (.string Bdn),.v (.int .i64 ((1:Int)))],[.v (.string Bdo),.v (.int .i64 ((2:Int)))]])))]
def Sz:List Prop:=[]
theorem A7e:Eo (Au B69 L0) 9 127 [] 0 []=some (1,Vf,1,Ve,Sz):=by kernel_rfl
theorem Bdp (hp:∀p∈Sz,p):CallOk Try.prog 127 [] 0 [] 1 (Vf) 1 (Ve):=Ax (Ap Br4 Av) (A7e) hp
def Aj7:List A→Nat→Objs→Option AV:=A7 [] 1 Vf Ve Sz
theorem A07:ET Try.prog 127 Aj7:=Aq (ks:=[]) Bdp
noncomputable def B8s:=AU 127 Aj7 B69
theorem B2p:CD Try.prog B8s:=Ak A07 Br4
def Ye:A:=.v (.bool (true))
def Yd:Objs:=[]
def Aj6:List Prop:=[]
theorem Bdm:Eo (Au B8s L0) 1040 61 [] 0 []=some (1,Ye,0,Yd,[(Ag (2:Nat)),(true=true→Ag (2:Nat)),(true=true→Ag (1024:Nat)),(false=false),(true=true→false=false),(false=false),(true=true→false=false),(false=false),(true=true→false=false),(false=false)]):=by kernel_rfl
theorem Bj5 (_hp:∀p∈Aj6,p):CallOk Try.prog 61 [] 0 [] 1 (Ye) 0 (Yd):=by
 have n0:(Ag (2:Nat)):=by first|rfl|decide+kernel
 have n1:(true=true→Ag (2:Nat)):=by first|rfl|decide+kernel
 have n2:(true=true→Ag (1024:Nat)):=by first|rfl|decide+kernel
 have n3:(false=false):=by first|rfl|decide+kernel
 have n4:(true=true→false=false):=by first|rfl|decide+kernel
 exact Ax (Ap B2p Av) (Bdm) (Aa n0 (Aa n1 (Aa n2 (Aa n3 (Aa n4 (Aa n3 (Aa n4 (Aa n3 (Aa n4 (Aa n3 Ad))))))))))
def Asi:List A→Nat→Objs→Option AV:=A7 [] 0 Ye Yd Aj6
theorem A7d:ET Try.prog 61 Asi:=Aq (ks:=[]) Bj5
end Go.Proofs.Yteebobbhhgmeiaa
namespace Go.Proofs.Yteebobbhhgmeiaa
open Go.RowKit
def Ip (a b:ByteArray):Bool:=Op.bytesLess a.toList b.toList
theorem US:∀x:List UInt8,Op.bytesLess x x=false
 | []=>rfl
 |a::x=>by
  unfold Op.bytesLess
  rw[US x]
  simp
theorem Arq:∀{x y z:List UInt8},Op.bytesLess x y=true→Op.bytesLess y z=true→Op.bytesLess x z=true
 |x,[],_,h,_=>by cases x<;>cases h
 |_,_::_,[],_,h=>by cases h
 | [],_::_,_::_,_,_=>rfl
 |a::x,b::y,c::z,h,g=>by
  unfold Op.bytesLess at*
  simp only[Bool.or_eq_true,decide_eq_true_eq,Bool.and_eq_true,beq_iff_eq] at*
  rcases h with h|⟨rfl,h⟩<;>rcases g with g|⟨rfl,g⟩
  ·exact .inl (UInt8.lt_trans h g)
  ·exact .inl h
  ·exact .inl g
  ·exact .inr ⟨rfl,Arq h g⟩
theorem Arp:∀{x y:List UInt8},Op.bytesLess x y=false→x≠y→Op.bytesLess y x=true
 | [],[],_,h=>absurd rfl h
 | [],_::_,h,_=>by cases h
 |_::_,[],_,_=>rfl
 | a::x,b::y,h,g=>by
  unfold Op.bytesLess at*
  simp only[Bool.or_eq_true,Bool.or_eq_false_iff,decide_eq_true_eq,decide_eq_false_iff_not,Bool.and_eq_true,beq_iff_eq] at*
  obtain⟨h1,h2⟩:=h
  by_cases e:a=b
  ·subst e
   refine .inr ⟨rfl,Arp (by simpa using h2) fun e=>g (by rw[e])⟩
  ·left
   have h1':¬a.toNat <b.toNat:=h1
   have h3:a.toNat≠b.toNat:=fun h=>e (UInt8.toNat_inj.1 h)
   show b.toNat <a.toNat
   omega
theorem KD {a b c:ByteArray} (h:Ip a b=true) (g:Ip b c=true):Ip a c=true:=Arq h g
theorem P7 {a b:ByteArray} (h:Ip a b=true):a≠b:=by
 rintro rfl
 unfold Ip at h
 rw[US] at h
 cases h
theorem Py {a b:ByteArray} (h:Ip a b=false) (g:a≠b):Ip b a=true:=by
 refine Arp h fun e=>g ?_
 have:(a.toList==b.toList)=true:=beq_iff_eq.2 e
 rw[tlb] at this
 exact eq_of_beq this
def Agc (l:List TGroup) (i:Nat):Int:=(l.getD i (Ab TC.group)).policy
def HH (cs:List TCell) (i:Nat):TCell:=cs.getD i (Ab TC.cell)
def BA (rows:List TRow) (i:Nat):TRow:=rows.getD i (Ab TC.row)
def P6 (rows:List TRow):Nat→ByteArray
 |0=>⟨#[]⟩
 |i+1=>(BA rows i).key
def leS (a b:ByteArray):Bool:=Ip a b||a==b
def Xh (l:List TGroup) (rows:List TRow) (i:Nat):Int:=bif Ah l (BA rows i) !=0 then Ah l (BA rows i) else bif Cp (BA rows i)||leS (BA rows i).key (P6 rows i) then 100 else 0
def GG (l:List TGroup) (rows:List TRow):Nat→Int
 |0=>0
 |i+1=>bif GG l rows i !=0 then GG l rows i else Xh l rows i
def Bq (l:List TGroup) (rows:List TRow):Int:=bif AO l !=0 then AO l else GG l rows rows.length
theorem Ajp (l:List TGroup) (rows:List TRow):∀n,GG l rows n=0↔∀i,i <n→Xh l rows i=0
 |0=>⟨fun _ i h=>absurd h (Nat.not_lt_zero _),fun _=>rfl⟩
 | n +1=>by
  have ih:=Ajp l rows n
  unfold GG
  cases h:GG l rows n !=0 with
  |true=>
   rw[cond_true]
   have h':GG l rows n≠0:=by simpa using h
   exact⟨fun e=>absurd e h',fun e=>absurd (ih.2 fun i hi=>e i (by omega)) h'⟩
  | false=>
   rw[cond_false]
   have h':GG l rows n=0:=by simpa using h
   constructor
   ·intro e i hi
    rcases Nat.lt_or_ge i n with g|g
    ·exact ih.1 h' i g
    ·obtain rfl:i=n:=by omega
     exact e
   ·intro e
    exact e n (Nat.lt_succ_self n)
theorem XY {l:List TGroup} {rows:List TRow} {k:Nat} (h:GG l rows k≠0):∀n,k≤n→GG l rows n=GG l rows k
 |0,hn=>by
  obtain rfl:k=0:=by omega
  rfl
 | n+1,hn=>by
  rcases Nat.lt_or_ge n k with g|g
  ·obtain rfl:k=n+1:=by omega
   rfl
  ·have ih:=XY h n g
   have hb:(GG l rows k !=0)=true:=by simpa using h
   show(bif GG l rows n !=0 then GG l rows n else _)=_
   rw[ih,hb,cond_true]
theorem Ayt {l:List TGroup} {rows:List TRow}:Bq l rows=0↔AO l=0∧∀i,i <rows.length→Xh l rows i=0:=by
 unfold Bq
 cases h:AO l !=0 with
 |true=>
  rw[cond_true]
  have h':AO l≠0:=by simpa using h
  exact⟨fun e=>absurd e h',fun e=>absurd e.1 h'⟩
 |false=>
  rw[cond_false,Ajp]
  have h':AO l=0:=by simpa using h
  exact⟨fun e=>⟨h',e⟩,fun e=>e.2⟩
theorem Boj {l:List TGroup} {rows:List TRow} {i:Nat}:Xh l rows i=0↔Ah l (BA rows i)=0∧Cp (BA rows i)=false∧leS (BA rows i).key (P6 rows i)=false:=by
 unfold Xh
 cases h:Ah l (BA rows i) !=0 with
 |true=>
  rw[cond_true]
  have h':Ah l (BA rows i)≠0:=by simpa using h
  exact⟨fun e=>absurd e h',fun e=>absurd e.1 h'⟩
 |false=>
  rw[cond_false]
  have h':Ah l (BA rows i)=0:=by simpa using h
  cases Cp (BA rows i)<;>cases leS (BA rows i).key (P6 rows i)<;>simp[h']
def JI (rows:List TRow):Prop:=rows.Pairwise fun a b=>Ip a.key b.key=true
theorem UE {rows:List TRow} {i:Nat} (h:i <rows.length):BA rows i=rows[i]:=by
 unfold BA
 rw[List.getD_eq_getElem?_getD,List.getElem?_eq_getElem h]
 rfl
theorem B4l {l:List TGroup} {rows:List TRow} (h:∀i,i <rows.length→Xh l rows i=0):JI rows:=by
 unfold JI
 rw[List.pairwise_iff_getElem]
 have step:∀i,i+1 <rows.length→Ip (BA rows i).key (BA rows (i+1)).key=true:=fun i hi=>by
  have:=(Boj.1 (h (i+1) hi)).2.2
  have h2:leS (BA rows (i+1)).key (BA rows i).key=false:=this
  unfold leS at h2
  obtain⟨h3,h4⟩:=Bool.or_eq_false_iff.1 h2
  exact Py h3 (by simpa using h4)
 have far:∀d i,i+d+1 <rows.length→Ip (BA rows i).key (BA rows (i+d+1)).key=true:=fun d=>by
  induction d with
  |zero=>intro i hi;exact step i hi
  |succ d ih=>intro i hi;exact KD (ih i (by omega)) (step (i+d+1) (by omega))
 intro i j hi hj hij
 have:=far (j - i - 1) i (by omega)
 rw[show i+(j - i - 1)+1=j by omega,UE hi,UE hj] at this
 exact this
theorem Bc6 {l:List TGroup} {rows:List TRow} (hp:AO l=0) (hg:∀r∈rows,Ah l r=0∧Cp r=false) (hr:JI rows):Bq l rows=0:=by
 refine Ayt.2 ⟨hp,fun i hi=>Boj.2 ?_⟩
 have hm:BA rows i∈rows:=by rw[UE hi];exact List.getElem_mem hi
 obtain⟨g1,g2⟩:=hg _ hm
 refine⟨g1,g2,?_⟩
 unfold leS
 cases i with
 | zero=>
  have hk:(BA rows 0).key.size≠0:=(AK g1).2.2.1
  rw[Bool.or_eq_false_iff]
  constructor
  ·show Op.bytesLess (BA rows 0).key.toList (ByteArray.mk #[]).toList=false
   rw[show(ByteArray.mk #[]).toList=[] by decide+kernel]
   cases(BA rows 0).key.toList<;>rfl
  ·refine beq_eq_false_iff_ne.2 fun e=>hk ?_
   rw[e]
   rfl
 | succ i=>
  have hlt:Ip (BA rows i).key (BA rows (i+1)).key=true:=by
   rw[UE hi,UE (show i <rows.length by omega)]
   exact List.pairwise_iff_getElem.1 hr i (i+1) _ _ (by omega)
  rw[Bool.or_eq_false_iff]
  constructor
  ·cases h:Ip (BA rows (i+1)).key (P6 rows (i+1)) with
   |false=>rfl
   |true=>exact absurd rfl (P7 (KD hlt h))
  ·exact beq_eq_false_iff_ne.2 fun e=>P7 hlt e.symm
def B76 (p:Int) (st:TVec) (c:TCell):Bool:=!eqC c zeroC&&(Bw p c&&(Bi9 st (Afq c)&&!UK p c))
theorem A0r {l:List TGroup} {r:TRow} (h1:AO l=0) (h2:r.key.size≠0) (h3:r.key.size≤32) (h4:r.cells.length=l.length) (h5:(l.zip r.cells).all (fun x=>Bw x.1.policy x.2)=true):Ah l r=0:=by
 unfold Ah
 have g1:(AO l !=0)=false:=by rw[h1];rfl
 have g2:(r.key.size==0)=false:=by simpa using h2
 have g4:(r.cells.length !=l.length)=false:=by rw[h4];simp
 rw[g1,g2,decide_eq_false (by omega),g4,h5]
 rfl
theorem Bc5 {l:List TGroup} {cs:List TCell} (hl:cs.length=l.length):(l.zip cs).all (fun x=>Bw x.1.policy x.2)=true↔∀i,i <l.length→Bw (Agc l i) (HH cs i)=true:=by
 rw[B6g l cs (Ab TC.group) (Ab TC.cell) (fun g c=>Bw g.policy c) hl,JY]
 exact Iff.rfl
end Go.Proofs.Yteebobbhhgmeiaa
namespace Go.Proofs.Yteebobbhhgmeiaa
open Go.RowKit
def Lex (r e s:Prop):Prop:=r∨(e∧s)
theorem T6 {r1 r2 r3 e1 e2 e3 s1 s2 s3:Prop} (hr:r1→r2→r3) (hre:r1→e2→r3) (her:e1→r2→r3) (hee:e1→e2→e3) (hs:s1→s2→s3):Lex r1 e1 s1→Lex r2 e2 s2→Lex r3 e3 s3
 | .inl a,.inl b=> .inl (hr a b)
 | .inl a,.inr b=> .inl (hre a b.1)
 | .inr a,.inl b=> .inl (her a.1 b)
 | .inr a,.inr b=> .inr ⟨hee a.1 b.1,hs a.2 b.2⟩
theorem T5 {r1 r2 e1 e2 s1 s2 t e:Prop} (h:r1∨e∨r2) (h1:e→e1) (h2:e→e2) (hs:s1∨t∨s2):Lex r1 e1 s1∨(e∧t)∨Lex r2 e2 s2:=by
 rcases h with h|h|h
 ·exact .inl (.inl h)
 ·rcases hs with g|g|g
  ·exact .inl (.inr ⟨h1 h,g⟩)
  ·exact .inr (.inl ⟨h,g⟩)
  ·exact .inr (.inr (.inr ⟨h2 h,g⟩))
 ·exact .inr (.inr (.inl h))
def V6 (a b:TCell):Prop:=
 Lex (a.stamp.n <b.stamp.n) (a.stamp.n=b.stamp.n) (Lex (a.stamp.site <b.stamp.site) (a.stamp.site=b.stamp.site) (Lex (a.gone=false∧b.gone=true) (a.gone=b.gone) (Lex (Ip a.value b.value=true) (a.value=b.value) (Lex (a.vec.a <b.vec.a) (a.vec.a=b.vec.a) (a.vec.b <b.vec.b)))))
theorem Afw {a b c:TCell}:V6 a b→V6 b c→V6 a c:=
 T6 (by omega) (by omega) (by omega) (by omega) (T6 (by omega) (by omega) (by omega) (by omega)
  (T6 (fun h g=>by rw[h.2] at g;exact absurd g.1 (by decide)) (fun h g=>⟨h.1,g▸h.2⟩) (fun h g=>⟨h▸g.1,g.2⟩) (fun h g=>h.trans g)
   (T6 KD (fun h g=>g▸h) (fun h g=>h▸g) (fun h g=>h.trans g) (T6 (by omega) (by omega) (by omega) (by omega) (by omega)))))
theorem Bke {a:TCell} (h:V6 a a):False:=by
 rcases h with h|⟨_,h|⟨_,h|⟨_,h|⟨_,h|⟨_,h⟩⟩⟩⟩⟩
 ·omega
 ·omega
 ·rw[h.1] at h;exact absurd h.2 (by decide)
 ·exact P7 h rfl
 ·omega
 ·omega
def B6e (a b:TCell):Prop:=a.stamp.n=b.stamp.n∧a.stamp.site=b.stamp.site∧a.gone=b.gone∧a.value=b.value∧a.vec.a=b.vec.a∧a.vec.b=b.vec.b
theorem A1h (a b:TCell):V6 a b∨B6e a b∨V6 b a:=by
 refine T5 (by omega) id Eq.symm (T5 (by omega) id Eq.symm (T5 ?_ id Eq.symm (T5 ?_ id Eq.symm (T5 (by omega) id Eq.symm (by omega)))))
 ·cases a.gone<;>cases b.gone<;>simp
 ·by_cases h:a.value=b.value
  ·exact .inr (.inl h)
  ·cases h1:Ip a.value b.value with
   |true=>exact .inl rfl
   |false=>exact .inr (.inr (Py h1 h))
def J9 (a b:TCell):Bool:=
 bif !(a.stamp.n==b.stamp.n&&a.stamp.site==b.stamp.site) then decide (a.stamp.n <b.stamp.n)||(a.stamp.n==b.stamp.n&&decide (a.stamp.site <b.stamp.site))
 else bif a.gone !=b.gone then b.gone
 else bif !(a.value==b.value) then Ip a.value b.value
 else bif a.vec.a !=b.vec.a then decide (a.vec.a <b.vec.a)
 else decide (a.vec.b <b.vec.b)
theorem Bai {a b:TCell}:J9 a b=true↔V6 a b:=by
 unfold J9 V6 Lex
 by_cases h1:a.stamp.n=b.stamp.n
 ·by_cases h2:a.stamp.site=b.stamp.site
  ·have e:(a.stamp.n==b.stamp.n&&a.stamp.site==b.stamp.site)=true:=by rw[h1,h2];simp
   rw[e,Bool.not_true,cond_false]
   simp only[h1,h2,false_or,true_and,Int.lt_irrefl]
   by_cases h3:a.gone=b.gone
   ·have e3:(a.gone !=b.gone)=false:=by rw[h3];simp
    have n3:¬(a.gone=false∧b.gone=true):=by rw[h3];rintro⟨x,y⟩;rw[x] at y;cases y
    rw[e3,cond_false]
    have n3':¬(b.gone=false∧b.gone=true):=by rintro⟨x,y⟩;rw[x] at y;cases y
    simp only[h3,n3',false_or,true_and]
    by_cases h4:a.value=b.value
    ·have e4:(a.value==b.value)=true:=beq_iff_eq.2 h4
     rw[e4,Bool.not_true,cond_false]
     simp only[h4,true_and]
     have n4':¬Ip b.value b.value=true:=fun h=>P7 h rfl
     simp only[n4',Bool.false_eq_true,false_or]
     by_cases h5:a.vec.a=b.vec.a
     ·have e5:(a.vec.a !=b.vec.a)=false:=by rw[h5];simp
      rw[e5,cond_false,decide_eq_true_eq]
      omega
     ·have e5:(a.vec.a !=b.vec.a)=true:=by simpa using h5
      rw[e5,cond_true,decide_eq_true_eq]
      omega
    ·have e4:(a.value==b.value)=false:=beq_eq_false_iff_ne.2 h4
     rw[e4,Bool.not_false,cond_true]
     simp only[h4,false_and,or_false]
   ·have e3:(a.gone !=b.gone)=true:=by simpa using h3
    rw[e3,cond_true]
    simp only[h3,false_and,or_false]
    revert h3
    cases a.gone<;>cases b.gone<;>simp
  ·have e:(a.stamp.n==b.stamp.n&&a.stamp.site==b.stamp.site)=false:=by rw[beq_eq_false_iff_ne.2 h2,Bool.and_false]
   rw[e,Bool.not_false,cond_true]
   simp[h1,h2]
 ·have e:(a.stamp.n==b.stamp.n&&a.stamp.site==b.stamp.site)=false:=by rw[beq_eq_false_iff_ne.2 h1,Bool.false_and]
  rw[e,Bool.not_false,cond_true]
  simp[h1]
def H9 (a b:TCell):TCell:=bif J9 a b then b else a
def KR (a b:TCell):TCell:=⟨(H9 a b).stamp,(H9 a b).vec,(H9 a b).gone,(H9 a b).value,Om a.dead b.dead⟩
def Pu (a:TCell):TCell:=⟨a.stamp,a.vec,a.gone,a.value,⟨0,0⟩⟩
theorem Bg0 {a b:TCell} (h:B6e a b):Pu a=Pu b:=by
 obtain⟨⟨an,asi⟩,⟨ava,avb⟩,ag,av,ad⟩:=a
 obtain⟨⟨bn,bsi⟩,⟨bva,bvb⟩,bg,bv,bd⟩:=b
 obtain⟨h1,h2,h3,h4,h5,h6⟩:=h
 simp only at h1 h2 h3 h4 h5 h6
 subst h1 h2 h3 h4 h5 h6
 rfl
def mkC (w:TCell) (d:TVec):TCell:=⟨w.stamp,w.vec,w.gone,w.value,d⟩
theorem A6m (a b:TCell):KR a b=mkC (Pu (H9 a b)) (Om a.dead b.dead):=rfl
theorem Bkf {a b:TCell}:V6 a (Pu b)↔V6 a b:=Iff.rfl
theorem JB (a b:TCell):(V6 a b∧H9 a b=b)∨(¬V6 a b∧H9 a b=a):=by
 unfold H9
 cases h:J9 a b with
 |true=>exact .inl ⟨Bai.1 h,rfl⟩
 |false=>exact .inr ⟨fun g=>(by rw[Bai.2 g] at h;cases h),rfl⟩
theorem Bz3 (a b:TCell):Pu (H9 a b)=Pu (H9 b a):=by
 rcases JB a b with⟨h,e⟩|⟨h,e⟩<;>rcases JB b a with⟨g,f⟩|⟨g,f⟩<;>rw[e,f]
 ·exact(Bke (Afw h g)).elim
 ·rcases A1h a b with q|q|q
  ·exact absurd q h
  ·exact Bg0 q
  ·exact absurd q g
theorem Ao6 (a b:TCell):Pu (H9 a b)=H9 (Pu a) (Pu b):=by
 have:J9 (Pu a) (Pu b)=J9 a b:=rfl
 unfold H9
 rw[this]
 cases J9 a b<;>rfl
theorem max_assoc (a b c:TCell):Pu (H9 (H9 a b) c)=Pu (H9 a (H9 b c)):=by
 rcases JB a b with⟨h,e⟩|⟨h,e⟩<;>rcases JB b c with⟨g,f⟩|⟨g,f⟩
 ·rw[e,f]
  rcases JB a c with⟨_,q⟩|⟨r,_⟩
  ·rw[q]
  ·exact absurd (Afw h g) r
 ·rw[e,f,e]
 ·rw[e,f]
 ·rw[e,f,e]
  rcases JB a c with⟨r,q⟩|⟨_,q⟩
  ·rcases A1h b c with t|t|t
   ·exact absurd t g
   ·have:=Bg0 t
    rw[←Bkf (b:=c),←this] at r
    exact absurd (Bkf.1 r) h
   ·exact absurd (Afw r t) h
  ·rw[q]
theorem Bwj (a b:TVec):Om a b=Om b a:=by
 unfold Om
 congr 1<;>omega
theorem Bq8 (a b c:TVec):Om (Om a b) c=Om a (Om b c):=by
 unfold Om
 congr 1<;>simp only<;>omega
theorem B10 (a b:TCell):KR a b=KR b a:=by
 rw[A6m,A6m b a,Bz3,Bwj]
theorem B13 (a b:TCell):Pu (KR a b)=Pu (H9 a b):=rfl
theorem Bwg (a b c:TCell):KR (KR a b) c=KR a (KR b c):=by
 have l:Pu (H9 (KR a b) c)=Pu (H9 (H9 a b) c):=by rw[Ao6,Ao6 (H9 a b) c,B13]
 have r:Pu (H9 a (KR b c))=Pu (H9 a (H9 b c)):=by rw[Ao6,Ao6 a (H9 b c),B13]
 have h:=l.trans ((max_assoc a b c).trans r.symm)
 show mkC (Pu (H9 (KR a b) c)) (Om (Om a.dead b.dead) c.dead)=mkC (Pu (H9 a (KR b c))) (Om a.dead (Om b.dead c.dead))
 rw[h,Bq8]
theorem Bz4 (a:TCell):H9 a a=a:=by
 rcases JB a a with⟨_,e⟩|⟨_,e⟩<;>exact e
def Bnm (c:TCell):Bool:=bif !BY c then true else In c.stamp&&decide (0 <c.stamp.n)&&CM c.vec&&decide ((c.value.size:Int)≤64)&&!(c.gone&&!(c.value.size==0))
theorem A0p {p:Int} {c:TCell}:Bw p c=true↔((p=1∧c.dead=⟨0,0⟩)∨(p=2∧c.gone=false∧CM c.dead=true))∧Bnm c=true:=by
 unfold Bw
 show(bif p==1&&!HG c.dead||(p==2&&(c.gone||!CM c.dead)||!(p==1||p==2)) then false else Bnm c)=true↔_
 by_cases h1:p=1
 ·subst h1
  have e:((1:Int)==1&&!HG c.dead||((1:Int)==2&&(c.gone||!CM c.dead)||!((1:Int)==1||(1:Int)==2)))=!HG c.dead:=by
   cases HG c.dead<;>rfl
  rw[e,←Bbv]
  cases HG c.dead<;>simp
 ·by_cases h2:p=2
  ·subst h2
   have e:((2:Int)==1&&!HG c.dead||((2:Int)==2&&(c.gone||!CM c.dead)||!((2:Int)==1||(2:Int)==2)))=(c.gone||!CM c.dead):=by
    cases c.gone<;>cases CM c.dead<;>rfl
   rw[e]
   cases c.gone<;>cases CM c.dead<;>simp
  ·have e1:(p==1)=false:=beq_eq_false_iff_ne.2 h1
   have e2:(p==2)=false:=beq_eq_false_iff_ne.2 h2
   rw[e1,e2]
   simp[h1,h2]
theorem Bwk {a b:TVec} (h:CM a=true) (g:CM b=true):CM (Om a b)=true:=by
 unfold CM Om at*
 simp only[Bool.and_eq_true,decide_eq_true_eq] at*
 omega
theorem Bwl {a:TVec} (h:CM a=true):Om a a=a:=by
 unfold CM at h
 unfold Om
 simp only[Bool.and_eq_true,decide_eq_true_eq] at h
 exact Bgw (by show max (max 0 a.a) a.a=a.a;omega) (by show max (max 0 a.b) a.b=a.b;omega)
theorem B11 {p:Int} {a b:TCell} (h:Bw p a=true) (g:Bw p b=true):Bw p (KR a b)=true:=by
 rw[A0p] at h g⊢
 obtain⟨h1,h2⟩:=h
 obtain⟨g1,g2⟩:=g
 have hw:Bnm (KR a b)=true:=by
  show Bnm (H9 a b)=true
  rcases JB a b with⟨_,e⟩|⟨_,e⟩<;>rw[e]
  ·exact g2
  ·exact h2
 refine⟨?_,hw⟩
 rcases h1 with⟨hp,h1⟩|⟨hp,h1,h3⟩
 ·rcases g1 with⟨_,g1⟩|⟨gp,_⟩
  ·refine .inl ⟨hp,?_⟩
   show Om a.dead b.dead=_
   rw[h1,g1]
   rfl
  ·omega
 ·rcases g1 with⟨gp,_⟩|⟨_,g1,g3⟩
  ·omega
  ·refine .inr ⟨hp,?_,Bwk h3 g3⟩
   show(H9 a b).gone=false
   rcases JB a b with⟨_,e⟩|⟨_,e⟩<;>rw[e]
   ·exact g1
   ·exact h1
theorem A94 {p:Int} {a:TCell} (h:Bw p a=true):CM a.dead=true:=by
 rcases(A0p.1 h).1 with⟨_,h1⟩|⟨_,_,h1⟩
 ·rw[h1];rfl
 ·exact h1
theorem B12 {p:Int} {a:TCell} (h:Bw p a=true):KR a a=a:=by
 rw[A6m,Bz4,Bwl (A94 h)]
 rfl
theorem Bkm {p:Int} {a:TCell} (h:Bw p a=true):Pu (H9 zeroC a)=Pu a:=by
 rcases JB zeroC a with⟨_,e⟩|⟨q,e⟩
 ·rw[e]
 ·rw[e]
  have hw:=(A0p.1 h).2
  cases hwr:BY a with
  |true=>
   unfold Bnm at hw
   rw[hwr] at hw
   simp only[Bool.not_true,cond_false,Bool.and_eq_true,decide_eq_true_eq] at hw
   exact absurd (.inl hw.1.1.1.2) q
  |false=>
   unfold BY at hwr
   simp only[Bool.not_eq_false',Bool.and_eq_true,beq_iff_eq,Bool.not_eq_true'] at hwr
   obtain⟨⟨⟨h1,h2⟩,h3,h4⟩,h5,h6⟩:=hwr
   exact Bg0 ⟨h1.symm,h2.symm,h5.symm,(B9v h6).symm,h3.symm,h4.symm⟩
def Mb (a b:TCell):TCell:=mkC (Pu (H9 (H9 zeroC a) b)) (Om a.dead b.dead)
theorem Bag {p:Int} {a b:TCell} (h:Bw p a=true):Mb a b=KR a b:=by
 unfold Mb
 rw[A6m,Ao6 (H9 zeroC a),Bkm h,←Ao6]
def jnN (us ws:List TCell):Nat→List TCell
 |0=>us
 |i+1=>(jnN us ws i).set i (Mb (HH (jnN us ws i) i) (HH ws i))
theorem Aax (us ws:List TCell):∀i,(jnN us ws i).length=us.length
 |0=>rfl
 |i+1=>by
  unfold jnN
  rw[List.length_set,Aax us ws i]
theorem Bot (us ws:List TCell) (j:Nat) (hj:j <us.length):∀i,HH (jnN us ws i) j=bif decide (j <i) then Mb (HH us j) (HH ws j) else HH us j
 |0=>rfl
 | i+1=>by
  have ih:=Bot us ws j hj i
  unfold jnN
  unfold HH at ih⊢
  rw[List.getD_eq_getElem?_getD,List.getElem?_set,Aax]
  by_cases e:i=j
  ·subst e
   rw[if_pos rfl,if_pos hj,decide_eq_true (by omega)]
   rw[decide_eq_false (Nat.lt_irrefl _),cond_false] at ih
   show Mb ((jnN us ws i).getD i (Ab TC.cell)) _=_
   rw[ih]
   rfl
  ·rw[if_neg e,←List.getD_eq_getElem?_getD,ih]
   congr 1
   exact decide_eq_decide.2 (by omega)
def jnR (a b:TRow):TRow:=⟨a.key,jnN a.cells b.cells b.cells.length⟩
def jnE (l:List TGroup) (a b:TRow):Int:=bif Ah l a !=0 then Ah l a else bif Ah l b !=0 then Ah l b else bif !(a.key==b.key) then 100 else 0
theorem A0w {l:List TGroup} {a b:TRow}:jnE l a b=0↔Ah l a=0∧Ah l b=0∧a.key=b.key:=by
 unfold jnE
 cases h:Ah l a !=0 with
 |true=>
  rw[cond_true]
  have h':Ah l a≠0:=by simpa using h
  exact⟨fun e=>absurd e h',fun e=>absurd e.1 h'⟩
 | false=>
  rw[cond_false]
  have h':Ah l a=0:=by simpa using h
  cases g:Ah l b !=0 with
  |true=>
   rw[cond_true]
   have g':Ah l b≠0:=by simpa using g
   exact⟨fun e=>absurd e g',fun e=>absurd e.2.1 g'⟩
  | false=>
   rw[cond_false]
   have g':Ah l b=0:=by simpa using g
   by_cases k:a.key=b.key
   ·rw[beq_iff_eq.2 k]
    exact⟨fun _=>⟨h',g',k⟩,fun _=>rfl⟩
   ·rw[beq_eq_false_iff_ne.2 k]
    exact⟨fun e=>(by cases e),fun e=>absurd e.2.2 k⟩
theorem J6 {l:List TGroup} {r:TRow} (h:Ah l r=0) {i:Nat} (hi:i <l.length):Bw (Agc l i) (HH r.cells i)=true:=
 (Bc5 (AK h).2.1).1 (AK h).2.2.2.2 i hi
theorem Bzw {l:List TGroup} {a b:TRow} (ha:Ah l a=0) (hb:Ah l b=0) {i:Nat} (hi:i <l.length):HH (jnR a b).cells i=KR (HH a.cells i) (HH b.cells i):=by
 have h1:=(AK ha).2.1
 have h2:=(AK hb).2.1
 show HH (jnN a.cells b.cells b.cells.length) i=_
 rw[Bot _ _ i (by omega),decide_eq_true (by omega),cond_true,Bag (J6 ha hi)]
theorem Bc9 {l:List TGroup} {a b:TRow} (ha:Ah l a=0):(jnR a b).cells.length=l.length:=by
 show(jnN a.cells b.cells b.cells.length).length=_
 rw[Aax]
 exact(AK ha).2.1
theorem Bjz {l:List TGroup} {a b:TRow} (ha:Ah l a=0) (hb:Ah l b=0):Ah l (jnR a b)=0:=by
 obtain⟨h1,h2,h3,h4,_⟩:=AK ha
 refine A0r h1 h3 h4 (Bc9 ha) ((Bc5 (Bc9 ha)).2 fun i hi=>?_)
 rw[Bzw ha hb hi]
 exact B11 (J6 ha hi) (J6 hb hi)
end Go.Proofs.Yteebobbhhgmeiaa
