/- made by a program (rowgen.py): ModelAsks: for every input the law returns true, and each argument reads behind the call as it read before. -/
import Derived.Test.YteebobbhhgmeiaaKMad

set_option maxRecDepth 100000
namespace Go.Proofs.Yteebobbhhgmeiaa
open Go.RowKit Go.Shelf
attribute [local go_sem] Oper.semAt_some
def gV (g:TGroup):Value:=.agg #[.string g.name,.int .i64 g.policy]
def cV (c:TCell):Value:=.agg #[.int .i64 c.stamp.n,.int .i64 c.stamp.site,.int .i64 c.vec.a,.int .i64 c.vec.b,.bool c.gone,.string c.value,.int .i64 c.dead.a,.int .i64 c.dead.b]
structure KB (n₀ X:Nat) (W W':World):Prop where
 os:W'.os=W.os
 tape:W'.tape=W.tape
 output:W'.output=W.output
 size:W.heap.size≤W'.heap.size
 block:∀k,k <n₀→k≠X→W'.heap[k]?=W.heap[k]?
theorem KB.refl (n₀ X:Nat) (W:World):KB n₀ X W W:=⟨rfl,rfl,rfl,Nat.le_refl _,fun _ _ _=>rfl⟩
theorem KB.trans {n₀ X:Nat} {A B C:World} (h:KB n₀ X A B) (k:KB n₀ X B C):KB n₀ X A C:=
 ⟨k.os.trans h.os,k.tape.trans h.tape,k.output.trans h.output,Nat.le_trans h.size k.size,fun i h1 h2=>(k.block i h1 h2).trans (h.block i h1 h2)⟩
theorem KB.of_below {n₀ X:Nat} {A B:World} (h:Below n₀ A B):KB n₀ X A B:=⟨h.os,h.tape,h.output,h.size,fun k hk _=>h.block k hk⟩
theorem KB.cell {n₀ X:Nat} {A B:World} {p:Addr} (h:KB n₀ X A B) (hp:p.block <n₀) (hx:p.block≠X):B.cell? p=A.cell? p:=World.cell?_of_block (h.block _ hp hx)
theorem KB.putObj {n₀ X:Nat} {w:World} (hn:n₀≤w.heap.size) (W:World) (l:Nat) (o o':Obj) (hl:w.heap.size≤l) (h:W.heap[l]?=some o) (h1:o.isCells=false) (h2:o.isWalk=false):KB n₀ X W (W.putObj l o'):=
 KB.of_below (belowK_b hn W l o o' hl h h1 h2)
def GsAt (n₀ X:Nat) (W:World) (b off:Nat) (l:List TGroup):Prop:=(b <n₀∧b≠X)∧∀j g,l[j]?=some g→W.cell? ⟨b,off+j*2,none⟩=some (.string g.name)∧W.cell? ⟨b,off+j*2+1,none⟩=some (.int .i64 g.policy)
def CsAt (n₀ X:Nat) (W:World) (b off:Nat) (l:List TCell):Prop:=(b <n₀∧b≠X)∧∀j c,l[j]?=some c→W.cell? ⟨b,off+j*8,none⟩=some (.int .i64 c.stamp.n)∧W.cell? ⟨b,off+j*8+1,none⟩=some (.int .i64 c.stamp.site)∧W.cell? ⟨b,off+j*8+2,none⟩=some (.int .i64 c.vec.a)∧W.cell? ⟨b,off+j*8+3,none⟩=some (.int .i64 c.vec.b)∧W.cell? ⟨b,off+j*8+4,none⟩=some (.bool c.gone)∧W.cell? ⟨b,off+j*8+5,none⟩=some (.string c.value)∧W.cell? ⟨b,off+j*8+6,none⟩=some (.int .i64 c.dead.a)∧W.cell? ⟨b,off+j*8+7,none⟩=some (.int .i64 c.dead.b)
theorem GsAt.kept {n₀ X:Nat} {W W':World} {b off:Nat} {l:List TGroup} (h:GsAt n₀ X W b off l) (hb:KB n₀ X W W'):GsAt n₀ X W' b off l:=
 ⟨h.1,fun j g hg=>⟨(hb.cell (p:=⟨b,_,none⟩) h.1.1 h.1.2).trans (h.2 j g hg).1,(hb.cell (p:=⟨b,_,none⟩) h.1.1 h.1.2).trans (h.2 j g hg).2⟩⟩
theorem CsAt.kept {n₀ X:Nat} {W W':World} {b off:Nat} {l:List TCell} (h:CsAt n₀ X W b off l) (hb:KB n₀ X W W'):CsAt n₀ X W' b off l:=by
 refine⟨h.1,fun j c hc=>?_⟩
 obtain⟨h0,h1,h2,h3,h4,h5,h6,h7⟩:=h.2 j c hc
 have k:∀o,W'.cell? ⟨b,o,none⟩=W.cell? ⟨b,o,none⟩:=fun o=>hb.cell (p:=⟨b,o,none⟩) h.1.1 h.1.2
 exact⟨(k _).trans h0,(k _).trans h1,(k _).trans h2,(k _).trans h3,(k _).trans h4,(k _).trans h5,(k _).trans h6,(k _).trans h7⟩
theorem Bi9 {W W':World} (h:Below W.heap.size W W'):W.grownBy W' none:=⟨h.os,h.tape,h.output,h.size,fun k hk _=>h.block k hk⟩
def Bte (x:TGroup×TCell):Array Value:=#[gV x.1,cV x.2]
theorem Bwq {α β:Type} (l:List α) (r:List β) (k:Nat) (x:α) (y:β) (hx:l[k]?=some x) (hy:r[k]?=some y):(l.zip r).take (k+1)=(l.zip r).take k++[(x,y)]:=by
 rw[List.take_add_one,(List.getElem?_zip_eq_some (z:=(x,y))).2 ⟨hx,hy⟩]
 rfl
set_option maxHeartbeats 4000000 in
theorem Bpq (n:Nat) (hn:1≤n) (l B2 B3 n₀ b off cap b' off' cap' X:Nat) (gs:List TGroup) (cs:List TCell) (hlen:cs.length=gs.length) (hl4:gs.length≤4)
    (J Jx:List (TGroup×TCell)→World→Prop) (n1:Nat) (hn1:n₀≤n1)
    (hJa:AbidesFrom n1 J)
    (hY:∀pre x W,J pre W→pre.length <gs.length→YieldAt Fence.wide (n - 1) Try.prog l (Bte x) W fun e W'=>
      (e=.returned (.bool true)∧J (pre++[x]) W'∧KB n₀ X W W')∨(e=.returned (.bool false)∧Jx (pre++[x]) W'))
    (W:World) (hW1:n1=W.heap.size) (h2:W.cell? ⟨B2,0,none⟩=some (.slice (some ⟨b,off,none⟩) gs.length cap)) (h3:W.cell? ⟨B3,1,none⟩=some (.slice (some ⟨b',off',none⟩) cs.length cap')) (hB2:B2 <n₀∧B2≠X) (hB3:B3 <n₀∧B3≠X)
    (hg:GsAt n₀ X W b off gs) (hc:CsAt n₀ X W b' off' cs) (h0:J [] W):
    CallsIn Fence.wide n Try.prog 165 #[.func (.yield l) #[] #[],.pointer (some ⟨B2,0,none⟩),.pointer (some ⟨B3,0,none⟩)] W fun e W'=>(∃v,e=.returned v)∧
      ((∃ys,ys=gs.zip cs∧J ys W')∨(∃pre,(∃k,k≤gs.length∧pre=(gs.zip cs).take k)∧Jx pre W')):=by
  refine callsIn_of_wp Try.func165 rfl trivial ?_ rfl
  simp only[Try.ntmps165,List.size_toArray,List.length_cons,List.length_nil,Nat.reduceAdd,Nat.reduceSub,Array.replicate_succ,Array.replicate_zero,List.push_toArray,List.append_toArray,List.nil_append,List.cons_append]
  gi_wp2
  gi_loopw [8] (fun i wr=>∃k:Nat,k≤gs.length∧i=.int .i64 k∧J ((gs.zip cs).take k) wr∧KB n₀ X W wr∧W.heap.size≤wr.heap.size) (fun i _=>gs.length - (intOf i).toNat)
  case atStart=>exact⟨0,Nat.zero_le _,rfl,h0,KB.refl _ _ _,Nat.le_refl _⟩
  case round=>
    obtain⟨k,hk,rfl,hJs,hnx,hsz⟩:=hrel
    by_cases hlt:k <gs.length
    · have hlt':k <cs.length:=by omega
      obtain⟨hg1,hg2⟩:=(hg.kept hnx).2 k gs[k] (List.getElem?_eq_getElem hlt)
      have h2':=(hnx.cell (p:=⟨B2,0,none⟩) hB2.1 hB2.2).trans h2
      gi_wp2
      have hb3:Below wr.heap.size wr (wr.alloc (.cells #[.string gs[k].name,.int .i64 gs[k].policy] 79)):=(Below.refl _ wr).alloc (Nat.le_refl _) _
      have hv:wr.heap.size=wr.heap.size:=rfl
      have hn:=World.alloc_heap_new wr (.cells #[.string gs[k].name,.int .i64 gs[k].policy] 79)
      generalize wr.alloc (.cells #[.string gs[k].name,.int .i64 gs[k].policy] 79)=W3 at hb3 hn⊢
      have hb4:KB n₀ X wr W3:=KB.of_below (hb3.mono (Nat.le_trans hn1 (by rw[hW1];exact hsz)))
      have hb5:KB n₀ X W3 W3.drew:=KB.of_below ((Below.refl _ W3).drew)
      obtain⟨hc0,hc1,hc2,hc3,hc4,hc5,hc6,hc7⟩:=((hc.kept hnx).kept hb4).2 k cs[k] (List.getElem?_eq_getElem hlt')
      have h3':=((hnx.trans hb4).cell (p:=⟨B3,1,none⟩) hB3.1 hB3.2).trans h3
      have hz:((gs.zip cs).take k).length <gs.length:=by rw[List.length_take,List.length_zip];omega
      have hJ3:J ((gs.zip cs).take k) W3.drew:=hJa _ wr _ none hJs (Bi9 hb3.drew) (fun r e=>by cases e)
      obtain⟨fn,tmps,assign,body,hy,hR⟩:=hY _ (gs[k],cs[k]) _ hJ3 hz
      have hR2:RoundIn Fence.wide (n - 1) Try.prog l fn tmps assign body W3.drew fun e W'=>∃q:Bool,e=.returned (.bool q)∧(q=true→J ((gs.zip cs).take (k+1)) W'∧KB n₀ X wr W')∧(q=false→Jx ((gs.zip cs).take (k+1)) W'):=by
        refine hR.mono ?_
        rw[←Bwq gs cs k gs[k] cs[k] (List.getElem?_eq_getElem hlt) (List.getElem?_eq_getElem hlt')]
        rintro e W' (⟨rfl,h1,h2⟩|⟨rfl,h1⟩)
        ·exact⟨true,rfl,⟨fun _=>⟨h1,(hb4.trans hb5).trans h2⟩,fun h=>by cases h⟩⟩
        ·exact⟨false,rfl,⟨fun h=>(by cases h),fun _=>h1⟩⟩
      clear hR
      have hm:Try.prog.follows .mixedOrders=true:=by kernel_rfl
      dsimp only[Bte,gV,cV] at hy
      obtain⟨hn0,hn1'⟩:=cb2 hn
      gi_region_with_o (refine hR2.mono ?_;rintro e W4 ⟨q,rfl,hq1,hq2⟩)
      all_goals (cases q)
      all_goals gi_wp2
      all_goals first
        |(refine bodyPost_ret (results_none rfl _ _ _) rfl ?_;exact⟨⟨_,rfl⟩,.inr ⟨_,⟨k+1,by omega,rfl⟩,hq2 (by trivial)⟩⟩)
        | (obtain⟨q1,q2⟩:=hq1 (by trivial)
           exact⟨⟨k+1,by omega,rfl,q1,hnx.trans q2,Nat.le_trans hsz q2.size⟩,by simp[intOf];omega⟩)
    · obtain rfl:k=gs.length:=by omega
      gi_wp2
      go_end0
      exact⟨⟨_,rfl⟩,.inl ⟨_,rfl,by rw[List.take_of_length_le (by rw[List.length_zip];omega)] at hJs;exact hJs⟩⟩
set_option maxHeartbeats 1000000 in
theorem Bfn (n:Nat) (a:Option Addr) (len cap:Nat) (v1:Value) (key:ByteArray) (w:World):
  CallsIn Fence.wide n Try.prog 132 #[.slice a len cap,.agg #[.string key,v1]] w fun e w'=>e=.returned (.func (.func 165) #[] #[.pointer (some ⟨w.heap.size,0,none⟩),.pointer (some ⟨w.heap.size+1,0,none⟩)])∧w'=(w.alloc (.cells #[.slice a len cap] 66)).alloc (.cells #[.string key,v1] 71):=by
 refine callsIn_of_wp Try.func132 rfl trivial ?_ rfl
 simp only[Try.ntmps132,List.size_toArray,List.length_cons,List.length_nil,Nat.reduceAdd,Nat.reduceSub,Array.replicate_succ,Array.replicate_zero,List.push_toArray,List.append_toArray,List.nil_append,List.cons_append]
 gi_wp2
 go_ret
 exact⟨rfl,rfl⟩
theorem Ao3 (n:Nat) (hn:1≤n) (B2 B3 n₀ X b off cap b' off' cap':Nat) (gs:List TGroup) (cs:List TCell) (hlen:cs.length=gs.length) (hl4:gs.length≤4) (w:World) (hn₀:n₀≤w.heap.size)
  (h2:w.cell? ⟨B2,0,none⟩=some (.slice (some ⟨b,off,none⟩) gs.length cap)) (h3:w.cell? ⟨B3,1,none⟩=some (.slice (some ⟨b',off',none⟩) cs.length cap')) (hB2:B2 <n₀∧B2≠X) (hB3:B3 <n₀∧B3≠X)
  (hg:GsAt n₀ X w b off gs) (hc:CsAt n₀ X w b' off' cs):
  SeqStopsK Fence.wide n Try.prog 165 #[.pointer (some ⟨B2,0,none⟩),.pointer (some ⟨B3,0,none⟩)] Bte (KB n₀ X) (fun ys=>ys=gs.zip cs) (fun pre=>∃k,k≤gs.length∧pre=(gs.zip cs).take k) gs.length w:=fun l J Jx W hW hJ _ hY h0=>by
 have hk:KB n₀ X w W:=KB.of_below (hW.mono hn₀)
 exact Bpq n hn l B2 B3 n₀ b off cap b' off' cap' X gs cs hlen hl4 J Jx W.heap.size (Nat.le_trans hn₀ hW.size) hJ hY W rfl ((hk.cell (p:=⟨B2,0,none⟩) hB2.1 hB2.2).trans h2) ((hk.cell (p:=⟨B3,1,none⟩) hB3.1 hB3.2).trans h3) hB2 hB3 (hg.kept hk) (hc.kept hk) h0
def Sj (p:Int) (G:Int→TCell→Bool) (gs:List TGroup) (key:ByteArray) (cs:List TCell):Int:=
 if(p !=0)=true then p else if key.toList.isEmpty=true then 2 else if 32 <(key.size:Int) then 3 else if((cs.length:Int) !=(gs.length:Int))=true then 100 else bif(gs.zip cs).all (fun x=>G x.1.policy x.2) then 0 else 80
theorem Yq {β:Type} (B:Nat) (cs:Array Value) (t:TypeId):Own (fun(_:β) W=>W.heap[B]?=some (.cells cs t (0,0))):=fun s W W' row hs hg hr=>by
 refine(hg.block B (HK hs) fun e=>?_).trans hs
 obtain⟨o,h1,h2⟩:=hr B e.symm
 rw[hs] at h1
 cases h1
 cases h2
theorem IE (B:Nat) {W W':World} (h:Below W.heap.size W W'):KeepsFrom B W W':=⟨h.size,fun k _ _ hk _=>(h.block k (HK hk)).trans hk⟩
theorem T8 {β:Type} (B n:Nat):OwnFrom B (fun(_:β) W=>n≤W.heap.size):=fun _ _ _ _ hs hg _=>Nat.le_trans hs hg.size
set_option maxHeartbeats 4000000 in
theorem Bg5 (w:World) (a0 a1:Option Addr) (gs:List TGroup) (cs:List TCell) (key:ByteArray) (cap0 cap1:Nat) (p:Int) (G:Int→TCell→Bool)
    (hP:∀W,Below w.heap.size w W→Calls Try.prog 131 #[.slice a0 gs.length cap0] W fun e W'=>e=.returned (.int .i64 p)∧Below W.heap.size W W')
    (hp0:p=0→1≤gs.length∧gs.length≤4)
    (hC:∀(q:Int) (c:TCell) W,Calls Try.prog 38 #[.int .i64 q,cV c] W fun e W'=>e=.returned (.bool (G q c))∧Below W.heap.size W W')
    (hG:0 <gs.length→∃b off,a0=some ⟨b,off,none⟩∧GsAt w.heap.size w.heap.size w b off gs)
    (hS:0 <cs.length→∃b off,a1=some ⟨b,off,none⟩∧CsAt w.heap.size w.heap.size w b off cs):
    Calls Try.prog 65 #[.slice a0 gs.length cap0,.agg #[.string key,.slice a1 cs.length cap1]] w fun e W'=>e=.returned (.int .i64 (Sj p G gs key cs))∧Below w.heap.size w W':=by
  refine(callsIn_wide (n:=5)).1 ?_
  refine callsIn_of_wp_marks Try.func65 rfl trivial ?_ rfl
  simp only[Try.ntmps65,List.size_toArray,List.length_cons,List.length_nil,Nat.reduceAdd,Nat.reduceSub,Array.replicate_succ,Array.replicate_zero,List.push_toArray,List.append_toArray,List.nil_append,List.cons_append]
  have hw2:Below w.heap.size w ((w.alloc (.cells #[.string key,.slice a1 cs.length cap1] 71)).alloc (.cells #[.int .i64 0] 26)):=((Below.refl _ w).alloc (Nat.le_refl _) _).alloc (by simp) _
  have hr1:=Oh (.cells #[.int .i64 0] 26) (G5 (w:=w) (.cells #[.string key,.slice a1 cs.length cap1] 71) rfl)
  have hr2:=G5 (w:=w.alloc (.cells #[.string key,.slice a1 cs.length cap1] 71)) (.cells #[.int .i64 0] 26) (n:=w.heap.size+1) (by simp)
  gi_wp2_with (first
    |(refine⟨trivial,?_⟩;gi_at_call 131;refine(callsIn_wide.2 (hP _ hw2)).mono ?_;rintro e W1 ⟨rfl,hb1⟩;have hx1:=E5 hr1 hb1;have hx2:=E5 hr2 hb1;obtain⟨c0,c1⟩:=cb2 hx1;have d0:=cb1 hx2;have f0:=fb1 hx2;have hB1:Below w.heap.size w W1:=hw2.trans (hb1.mono (by simp;omega));clear hr1 hr2 hb1)
    |(refine⟨trivial,?_⟩;gi_at_call 132;refine(Bfn _ _ _ _ _ _ _).mono ?_;rintro e W2 ⟨rfl,rfl⟩))
  · have h1:(p !=0)=true:=by assumption
    have e:Sj p G gs key cs=p:=by unfold Sj;rw[if_pos h1]
    have hc:=cb1 (PJ (i:=0) hx2 (.int .i64 p))
    exact⟨.int .i64 p,by simp[results,Try.f65,go_sem,hc],by rw[e],hB1.setCell (p:=⟨w.heap.size+1,0,none⟩) (by simp) _⟩
  · have h1:(p !=0)=false:=by assumption
    have h2:key.toList.isEmpty=true:=by assumption
    have e:Sj p G gs key cs=2:=by unfold Sj;rw[if_neg (by rw[h1];simp),if_pos h2]
    have hc:=cb1 (PJ (i:=0) hx2 (.int .i64 2))
    exact⟨.int .i64 2,by simp[results,Try.f65,go_sem,hc],by rw[e],hB1.setCell (p:=⟨w.heap.size+1,0,none⟩) (by simp) _⟩
  · have h1:(p !=0)=false:=by assumption
    have h2:key.toList.isEmpty=false:=by assumption
    have h3:32 <(key.size:Int):=by assumption
    have e:Sj p G gs key cs=3:=by unfold Sj;rw[if_neg (by rw[h1];simp),if_neg (by rw[h2];simp),if_pos h3]
    have hc:=cb1 (PJ (i:=0) hx2 (.int .i64 3))
    exact⟨.int .i64 3,by simp[results,Try.f65,go_sem,hc],by rw[e],hB1.setCell (p:=⟨w.heap.size+1,0,none⟩) (by simp) _⟩
  · have h1:(p !=0)=false:=by assumption
    have h2:key.toList.isEmpty=false:=by assumption
    have h3:(key.size:Int)≤32:=by assumption
    have h4:((cs.length:Int) !=(gs.length:Int))=true:=by assumption
    have e:Sj p G gs key cs=100:=by unfold Sj;rw[if_neg (by rw[h1];simp),if_neg (by rw[h2];simp),if_neg (by omega),if_pos h4]
    have hc:=cb1 (PJ (i:=0) hx2 (.int .i64 100))
    exact⟨.int .i64 100,by simp[results,Try.f65,go_sem,hc],by rw[e],hB1.setCell (p:=⟨w.heap.size+1,0,none⟩) (by simp) _⟩
  have h1:(p !=0)=false:=by assumption
  have h2:key.toList.isEmpty=false:=by assumption
  have h3:(key.size:Int)≤32:=by assumption
  have h4:((cs.length:Int) !=(gs.length:Int))=false:=by assumption
  have e:Sj p G gs key cs=bif(gs.zip cs).all (fun x=>G x.1.policy x.2) then 0 else 80:=by unfold Sj;rw[if_neg (by rw[h1];simp),if_neg (by rw[h2];simp),if_neg (by omega),if_neg (by rw[h4];simp)]
  have hp:p=0:=by simpa using h1
  clear h1
  subst hp
  have hlen : cs.length = gs.length := by have:(cs.length:Int)=gs.length:=by simpa using h4
                                          omega
  obtain⟨hl1,hl4⟩:=hp0 rfl
  obtain⟨b,off,rfl,hg⟩:=hG (by omega)
  obtain⟨b',off',rfl,hc⟩:=hS (by omega)
  have hW2:Below W1.heap.size W1 ((W1.alloc (.cells #[.slice (some ⟨b,off,none⟩) gs.length cap0] 66)).alloc (.cells #[.string key,.slice (some ⟨b',off',none⟩) cs.length cap1] 71)):=((Below.refl _ W1).alloc (Nat.le_refl _) _).alloc (by simp) _
  have hy2:=Oh (.cells #[.string key,.slice (some ⟨b',off',none⟩) cs.length cap1] 71) (G5 (w:=W1) (.cells #[.slice (some ⟨b,off,none⟩) gs.length cap0] 66) rfl)
  have hy3:=G5 (w:=W1.alloc (.cells #[.slice (some ⟨b,off,none⟩) gs.length cap0] 66)) (.cells #[.string key,.slice (some ⟨b',off',none⟩) cs.length cap1] 71) (n:=W1.heap.size+1) (by simp)
  have hz2:=E5 hx2 hW2
  have hs1:=HK hx2
  have hs2:=HK hy3
  have hB2:=hB1.trans (hW2.mono hB1.size)
  generalize (W1.alloc (.cells #[.slice (some ⟨b,off,none⟩) gs.length cap0] 66)).alloc (.cells #[.string key,.slice (some ⟨b',off',none⟩) cs.length cap1] 71)=W2 at hW2 hy2 hy3 hz2 hs2 hB2⊢
  have hg2:GsAt W2.heap.size W2.heap.size W2 b off gs:=⟨⟨by have:=hg.1.1;omega,by have:=hg.1.1;omega⟩,fun j g hj=>⟨(hB2.cell (p:=⟨b,_,none⟩) hg.1.1).trans (hg.2 j g hj).1,(hB2.cell (p:=⟨b,_,none⟩) hg.1.1).trans (hg.2 j g hj).2⟩⟩
  have hc2:CsAt W2.heap.size W2.heap.size W2 b' off' cs:=by
    refine⟨⟨by have:=hc.1.1;omega,by have:=hc.1.1;omega⟩,fun j c hj=>?_⟩
    have k:∀o,W2.cell? ⟨b',o,none⟩=w.cell? ⟨b',o,none⟩:=fun o=>hB2.cell (p:=⟨b',o,none⟩) hc.1.1
    simp only[k]
    exact hc.2 j c hj
  refine wpIn_rangeFunc_ownH (F:=Fence.wide) rfl (by omega) (gf:=165) (lb:=#[.pointer (some ⟨W1.heap.size,0,none⟩),.pointer (some ⟨W1.heap.size+1,0,none⟩)]) rfl trivial (enters_of Try.func165 (by kernel_rfl) rfl)
    (Ao3 _ (by omega) W1.heap.size (W1.heap.size+1) W2.heap.size W2.heap.size b off cap0 b' off' cap1 gs cs hlen hl4 W2 (Nat.le_refl _) (cb1 hy2) (cb2 hy3).2 ⟨by omega,by omega⟩ ⟨by omega,by omega⟩ hg2 hc2)
    KB.trans (KB.putObj (Nat.le_refl _)) (Below.refl _ _) (fun _=>rfl)
    (fun pre W=>((∀x∈pre,G x.1.policy x.2=true)∧W.heap[w.heap.size+1]?=some (.cells #[.int .i64 0] 26 (0,0)))∧Below w.heap.size w W∧W2.heap.size≤W.heap.size)
    (fun c pre W=>((c=.ret∧∃x∈pre,G x.1.policy x.2=false)∧W.heap[w.heap.size+1]?=some (.cells #[.int .i64 80] 26 (0,0)))∧Below w.heap.size w W∧W2.heap.size≤W.heap.size)
    (OwnFrom.and (OwnFrom.and (ownFrom_pure _ _) (Own.from (Yq _ _ _) _)) (OwnFrom.and (ownFrom_below (Nat.le_refl _) hB2.size) (T8 _ _)))
    (fun c=>OwnFrom.and (OwnFrom.and (ownFrom_pure _ _) (Own.from (Yq _ _ _) _)) (OwnFrom.and (ownFrom_below (Nat.le_refl _) hB2.size) (T8 _ _)))
    ⟨⟨by simp,hz2⟩,hB2,Nat.le_refl _⟩
    (fun x a' W=>(∃B6 B7,a'={tmps:=#[Value.slice (some ⟨b,off,none⟩) gs.length cap0,Value.agg #[Value.string key,Value.slice (some ⟨b',off',none⟩) cs.length cap1],undef,
          Value.pointer (some {block:=w.heap.size,off:=0}),
          Value.pointer (some {block:=w.heap.size+1,off:=0}),Value.int IntKind.i64 0,Value.pointer (some ⟨B6,0,none⟩),Value.pointer (some ⟨B7,0,none⟩),
          Value.slice (some ⟨b,off,none⟩) gs.length cap0,Value.int IntKind.i64 0,Value.int IntKind.i64 0,Value.bool false,undef,
          Value.bool false,Value.pointer (some {block:=w.heap.size,off:=0}),Value.string key,Value.bool false,
          Value.bool (decide (32 <(key.size:Int))),Value.pointer (some {block:=w.heap.size,off:=0}),
          Value.string key,Value.int IntKind.i64 key.size,Value.bool (decide (32 <(key.size:Int))),Value.bool false,
          Value.pointer (some {block:=w.heap.size,off:=1}),Value.slice (some ⟨b',off',none⟩) cs.length cap1,
          Value.int IntKind.i64 cs.length,Value.slice (some ⟨b,off,none⟩) gs.length cap0,Value.int IntKind.i64 gs.length,
          Value.bool false,Value.slice (some ⟨b,off,none⟩) gs.length cap0,Value.agg #[Value.string key,Value.slice (some ⟨b',off',none⟩) cs.length cap1],
          Value.func (Fn.func 165) #[] #[Value.pointer (some {block:=W1.heap.size,off:=0}),Value.pointer (some {block:=W1.heap.size+1,off:=0})],
          gV x.1,cV x.2,undef,undef,undef,undef,undef],defers:=[]}∧
        (W.heap[B6]?=some (.cells #[.string x.1.name,.int .i64 x.1.policy] 79 (0,0))∧W.heap[B7]?=some (.cells #[.int .i64 x.2.stamp.n,.int .i64 x.2.stamp.site,.int .i64 x.2.vec.a,.int .i64 x.2.vec.b,.bool x.2.gone,.string x.2.value,.int .i64 x.2.dead.a,.int .i64 x.2.dead.b] 55 (0,0)))))
    (fun x a'=>Own.from (fun s X Y row hs hgr hr=>by
      obtain⟨B6,B7,e1,e2,e3⟩:=hs
      exact⟨B6,B7,e1,Yq B6 _ _ s X Y row e2 hgr hr,Yq B7 _ _ s X Y row e3 hgr hr⟩) _) ?assign ?body ?done ?stop
  case assign=>
    rintro l pre x W K ⟨⟨i1,i2⟩,i3,i4⟩ hK
    clear hlen h4
    dsimp only[Bte,gV,cV] at hK⊢
    gi_wp2
    have hb:Below W.heap.size W ((W.alloc (.cells #[.string x.1.name,.int .i64 x.1.policy] 79)).alloc (.cells #[.int .i64 x.2.stamp.n,.int .i64 x.2.stamp.site,.int .i64 x.2.vec.a,.int .i64 x.2.vec.b,.bool x.2.gone,.string x.2.value,.int .i64 x.2.dead.a,.int .i64 x.2.dead.b] 55)):=((Below.refl _ W).alloc (Nat.le_refl _) _).alloc (by simp) _
    exact hK _ _ (IE _ hb) (KB.of_below (hb.mono i4)) ⟨⟨i1,E5 i2 hb⟩,i3.trans (hb.mono i3.size),Nat.le_trans i4 hb.size⟩ ⟨W.heap.size,W.heap.size+1,rfl,Oh _ (G5 _ rfl),G5 _ (by simp)⟩
  case body=>
    rintro l pre x a' W hl hr ⟨⟨i1,i2⟩,i3,i5⟩ ⟨B6,B7,rfl,e6,e7⟩ hlt
    obtain⟨k0,k1⟩:=cb2 e6
    obtain⟨m0,m1,m2,m3,m4,m5,m6,m7⟩:=cb8 e7
    have d0:=cb1 i2
    have f0:=fb1 i2
    cases hGx:G x.1.policy x.2 with
    | true=>
      gi_wp2_with (refine⟨trivial,?_⟩;gi_at_call 38;refine(CallsIn.inRound l (callsIn_wide.2 (hC x.1.policy x.2 _))).mono ?_;rw[hGx];rintro e W' ⟨rfl,hb⟩)
      exact⟨IE _ hb,KB.of_below (hb.mono i5),⟨fun y hy=>(List.mem_append.1 hy).elim (i1 y) (fun e=>by simp at e;subst e;exact hGx),E5 i2 hb⟩,i3.trans (hb.mono i3.size),Nat.le_trans i5 hb.size⟩
    | false=>
      gi_wp2_with (refine⟨trivial,?_⟩;gi_at_call 38;refine(CallsIn.inRound l (callsIn_wide.2 (hC x.1.policy x.2 _))).mono ?_;rw[hGx];rintro e W' ⟨rfl,hb⟩;have i4:=E5 i2 hb;have d4:=cb1 i4;have f4:=fb1 i4)
      exact⟨(IE _ hb).trans ((KeepsOthers.setCell _ _ _).from _),⟨⟨rfl,x,by simp,hGx⟩,PJ (i:=0) i4 (.int .i64 80)⟩,(i3.trans (hb.mono i3.size)).setCell (p:=⟨w.heap.size+1,0,none⟩) (by simp) _,Nat.le_trans i5 (by rw[Ai8];exact hb.size)⟩
  case done=>
    rintro D ys W hD rfl ⟨⟨i1,i2⟩,i3,i5⟩ hK
    have d0:=cb1 i2
    have f0:=fb1 i2
    gi_wp2
    have hK':=(KeepsOthers.setCell W ⟨w.heap.size+1,0,none⟩ (.int .i64 0)).same D _ hK rfl
    refine⟨by simp,.inl ⟨_,_,rfl,run_takeDeferred hK',?_⟩⟩
    have hc5:=cell_kept (World.cell?_setCell_same' W ⟨w.heap.size+1,0,none⟩ (.int .i64 0) (by rw[d0];rfl)) (grownBy_putObj' _ D (.deferred none)) (fun r e=>by cases e;exact⟨_,hK',rfl⟩)
    refine⟨.int .i64 0,?_,?_,(i3.setCell (p:=⟨w.heap.size+1,0,none⟩) (by simp) _).trans (belowK_b (w:=w) (Nat.le_refl _) _ D _ _ (by have:=hB2.size;omega) hK' rfl rfl)⟩
    ·simp[results,Try.f65,go_sem,hc5]
    ·rw[List.all_eq_true.2 (fun x hx=>i1 x hx)];rfl
  case stop=>
    rintro D c pre W hD ⟨k,hk,rfl⟩ ⟨⟨⟨rfl,x,hx,hGx⟩,i2⟩,i3,i5⟩ hK
    gi_wp2
    refine⟨by simp,.inl ⟨_,_,rfl,run_takeDeferred hK,?_⟩⟩
    have hc5:=cell_kept (cb1 i2) (grownBy_putObj' _ D (.deferred none)) (fun r e=>by cases e;exact⟨_,hK,rfl⟩)
    refine⟨.int .i64 80,?_,?_,i3.trans (belowK_b (w:=w) (Nat.le_refl _) W D _ _ (by have:=hB2.size;omega) hK rfl rfl)⟩
    ·simp[results,Try.f65,go_sem,hc5]
    · have:(gs.zip cs).all (fun x=>G x.1.policy x.2)=false:=by
        cases ha:(gs.zip cs).all (fun x=>G x.1.policy x.2) with
        |false=>rfl
        |true=>have:=(List.all_eq_true.1 ha) x (List.mem_of_mem_take hx);rw[hGx] at this;cases this
      rw[this];rfl
end Go.Proofs.Yteebobbhhgmeiaa
namespace Go.Proofs.Yteebobbhhgmeiaa
open Go.RowKit
def Ai (l:List TGroup) (r:TRow):Int:=bif AP l !=0 then AP l else bif r.key.size==0 then 2 else bif decide (32 <r.key.size) then 3 else bif r.cells.length !=l.length then 100 else bif(l.zip r.cells).all (fun x=>Bo x.1.policy x.2) then 0 else 80
def Aqz (a0:List TGroup) (a1:TRow):A:=.v (.int .i64 (Ai a0 a1))
def Aqy (_a0:List TGroup) (_a1:TRow):Objs:=[]
def Aiu (_a0:List TGroup) (_a1:TRow):List Prop:=[]
theorem A8f (k:ByteArray):k.toList.isEmpty=(k.size==0):=by
 rw[ByteArray.toList_eq,Bool.eq_iff_iff,List.isEmpty_iff,beq_iff_eq,←KR]
 exact⟨fun h=>by rw[h];rfl,fun h=>List.eq_nil_of_length_eq_zero h⟩
theorem Bts (l:List TGroup) (key:ByteArray) (cs:List TCell):Sj (AP l) Bo l key cs=Ai l ⟨key,cs⟩:=by
 unfold Sj Ai
 rw[A8f]
 have e3:decide (32 <((key.size:Nat):Int))=decide (32 <key.size):=decide_eq_decide.2 (by omega)
 have e4:(((cs.length:Nat):Int) !=(l.length:Int))=(cs.length !=l.length):=by
  rw[Bool.eq_iff_iff,bne_iff_ne,bne_iff_ne];omega
 simp only[Bool.cond_eq_ite,e4,decide_eq_true_eq,show(32 <((key.size:Nat):Int))=(32 <key.size) from propext (by omega)]
theorem A6o {R:World} {ad:Addr} {v:Value} (h:R.cell? ad=some v):ad=⟨ad.block,ad.off,none⟩:=by
 cases ad with|mk b o s=>
 cases s with
 |none=>rfl
 |some q=>
  exfalso
  unfold World.cell? at h
  cases hb:R.heap[b]? with
  |none=>simp only[hb] at h;cases h
  |some ob=>cases ob<;>simp[hb] at h
theorem Bxa (b o k j:Nat):((⟨b,o,none⟩:Addr).add k).add j=⟨b,o+k+j,none⟩:=by
 rw[E4,E4]
section
variable {F:Nat→Prop} {N:Nm} {nx:Nat} {R:World}
theorem HC.at0 {l:List A} {b o k j:Nat} {x:Value} (h:HC F N nx R l ((⟨b,o,none⟩:Addr).add k)) (hx:l[j]?=some (.v x)):R.cell? ⟨b,o+k+j,none⟩=some x:=by
 obtain⟨y,h1,h2⟩:=h j _ hx
 rw[Bxa] at h1
 rw[h1,h2.v_inv]
theorem B0k {gs:List TGroup} {v:Value} (hF:∀g,F g→g <R.heap.size) (h:Hv F N nx R (.sl .group gs) v):
  ∃a cap,v=.slice a gs.length cap∧(0 <gs.length→∃b off,a=some ⟨b,off,none⟩∧GsAt R.heap.size R.heap.size R b off gs):=by
 obtain⟨a,cap,e,_,h2⟩:=h.sl_inv
 refine⟨a,cap,e,fun hn=>?_⟩
 obtain⟨ad,rfl,hb,h3⟩:=h2 hn
 have hlt:=hF _ hb
 obtain⟨y,hy,_⟩:=h3 0 gs[0] (List.getElem?_eq_getElem hn) 0 (.v (.string gs[0].name)) rfl
 rw[Nat.zero_mul,add_zero,add_zero] at hy
 have hs:=A6o hy
 rw[hs] at h3⊢
 refine⟨ad.block,ad.off,rfl,⟨hlt,Nat.ne_of_lt hlt⟩,fun j g hj=>?_⟩
 have h4:=h3 j g hj
 exact⟨h4.at0 (j:=0) (x:=.string g.name) rfl,h4.at0 (j:=1) (x:=.int .i64 g.policy) rfl⟩
theorem B0i {cs:List TCell} {v:Value} (hF:∀g,F g→g <R.heap.size) (h:Hv F N nx R (.sl .cell cs) v):
  ∃a cap,v=.slice a cs.length cap∧(0 <cs.length→∃b off,a=some ⟨b,off,none⟩∧CsAt R.heap.size R.heap.size R b off cs):=by
 obtain⟨a,cap,e,_,h2⟩:=h.sl_inv
 refine⟨a,cap,e,fun hn=>?_⟩
 obtain⟨ad,rfl,hb,h3⟩:=h2 hn
 have hlt:=hF _ hb
 obtain⟨y,hy,_⟩:=h3 0 cs[0] (List.getElem?_eq_getElem hn) 0 (.v (.int .i64 cs[0].stamp.n)) rfl
 rw[Nat.zero_mul,add_zero,add_zero] at hy
 have hs:=A6o hy
 rw[hs] at h3⊢
 refine⟨ad.block,ad.off,rfl,⟨hlt,Nat.ne_of_lt hlt⟩,fun j c hj=>?_⟩
 have h4:=h3 j c hj
 exact⟨h4.at0 (j:=0) (x:=.int .i64 c.stamp.n) rfl,h4.at0 (j:=1) (x:=.int .i64 c.stamp.site) rfl,h4.at0 (j:=2) (x:=.int .i64 c.vec.a) rfl,h4.at0 (j:=3) (x:=.int .i64 c.vec.b) rfl,h4.at0 (j:=4) (x:=.bool c.gone) rfl,h4.at0 (j:=5) (x:=.string c.value) rfl,h4.at0 (j:=6) (x:=.int .i64 c.dead.a) rfl,h4.at0 (j:=7) (x:=.int .i64 c.dead.b) rfl⟩
theorem HRel.bare (hF:∀g,F g→g <R.heap.size):HRel F N 0 [] R:=⟨hF,fun _ _ h=>(by cases h),fun _ _ _ h=>(by cases h),fun _ _ _ _ _ h=>(by cases h)⟩
end
theorem CallOk.plain {P:Program} {f:FuncId} {args:List A} {x:Value} (h:CallOk P f args 0 [] 1 (.v x) 0 []) {F:Nat→Prop} {N:Nm} {R:World} {vs:List Value} (hF:∀g,F g→g <R.heap.size) (hv:HL F N 0 R args vs):
  Calls P f vs.toArray R fun e R'=>e=.returned x∧Below R.heap.size R R':=
 (h F N R vs (HRel.bare hF) hv).mono fun e R' ⟨y,F',N',e1,_,_,h4,h5⟩=>⟨by rw[e1,h4.v_inv],h5 (Nat.le_refl _)⟩
theorem Aqx (a0:List TGroup) (a1:TRow) (_hp:∀p∈Aiu a0 a1,p):CallOk Try.prog 65 [.sl .group a0,Ae .row a1] 0 [] 1 (Aqz a0 a1) 0 (Aqy a0 a1):=by
 intro F N R vs hR hv
 obtain⟨v0,vs,rfl,h0,hv⟩:=hv.inv
 obtain⟨v1,vs,rfl,h1,hv⟩:=hv.inv
 rw[hv.inv0]
 obtain⟨us,rfl,h2⟩:=Hv.agg_inv (xs:=[.v (.string a1.key),.sl .cell a1.cells]) h1
 clear h1
 have h1:=h2
 obtain⟨u0,us,rfl,k0,h1⟩:=h1.inv
 obtain⟨u1,us,rfl,k1,h1⟩:=h1.inv
 rw[h1.inv0]
 rw[k0.v_inv]
 obtain⟨aa,cap0,rfl,g0⟩:=B0k hR.flt h0
 obtain⟨ab,cap1,rfl,g1⟩:=B0i hR.flt k1
 refine(Bg5 R aa ab a0 a1.cells a1.key cap0 cap1 (AP a0) Bo ?_ G0 ?_ g0 g1).mono ?_
 ·intro W hW
  exact(Xg a0 (fun _ h=>by cases h)).plain (F:=F) (N:=N) (vs:=[_]) (fun g hg=>Nat.lt_of_lt_of_le (hR.flt g hg) hW.size) (HL.cons (h0.step (hR.grow hW).2) HL.nil)
 ·intro q c W
  have h:=(Any q c (fun _ h=>by cases h)).plain (F:=fun _=>False) (N:=N) (R:=W) (vs:=[.int .i64 q,cV c]) (fun g hg=>hg.elim) (HL.cons (.v _) (HL.cons (.v _) HL.nil))
  rw[Iv] at h
  exact h
 ·rintro e W ⟨rfl,hb⟩
  rw[Bts]
  exact⟨_,F,N,rfl,(hR.grow hb).1,Step.of_below hb,.v _,fun _=>hb⟩
def A08:List A→Nat→Objs→Option AU:=A5 [.l .group,.t .row] 0 Aqz Aqy Aiu
theorem Ba0:Ev Try.prog 65 A08:=As (ks:=[.l .group,.t .row]) Aqx
noncomputable def B20:=AQ 65 A08 Ch
theorem Bwv:Cp Try.prog B20:=Ak Ba0 B2z
noncomputable def Ci:=B20
theorem Bzx:Cp Try.prog Ci:=Bwv
end Go.Proofs.Yteebobbhhgmeiaa
namespace Go.Proofs.Yteebobbhhgmeiaa
open Go.RowKit
def Sl (k:ByteArray):Int:=bif k.size==0 then 2 else bif decide (32 <k.size) then 3 else 0
def eqC (a b:TCell):Bool:=a.stamp.n==b.stamp.n&&a.stamp.site==b.stamp.site&&(a.vec.a==b.vec.a&&a.vec.b==b.vec.b)&&a.gone==b.gone&&a.value==b.value&&(a.dead.a==b.dead.a&&a.dead.b==b.dead.b)
def Afl:List TCell→List TCell→Bool
 | [],[]=>true
 |x::xs,y::ys=>eqC x y&&Afl xs ys
 |_,_=>false
def Bpb (a b:TRow):Bool:=a.key==b.key&&Afl a.cells b.cells
def G2 (r:TRow):Bool:=r.cells.all fun c=>eqC c zeroC
def Al8 (a0:ByteArray):Int:=bif a0.toList==(ByteArray.mk #[]).toList then(2:Int) else bif decide ((↑a0.size:Int) >(32:Int)) then(3:Int) else(0:Int)
def Al9 (a0:ByteArray):A:=.v (.int .i64 (Al8 a0))
def A6b (_a0:ByteArray):Objs:=[]
def Az0 (_a0:ByteArray):List Prop:=[]
theorem Bko (a0:ByteArray):Er (Au Ci L0) 9 129 [Ae .str a0] 0 []=some (1,Al9 a0,0,A6b a0,Az0 a0):=by kernel_rfl
theorem Bp1 (a0:ByteArray) (hp:∀p∈Az0 a0,p):CallOk Try.prog 129 [Ae .str a0] 0 [] 1 (Al9 a0) 0 (A6b a0):=Az (Ap Bzx Ay) (Bko a0) hp
def Az1 (a0:ByteArray):A:=.v (.int .i64 (Sl a0))
def Azz (_a0:ByteArray):Objs:=[]
def Ap0 (_a0:ByteArray):List Prop:=[]
theorem Afk {a b:TCell}:eqC a b=true↔a=b:=by
 unfold eqC
 simp only[Bool.and_eq_true,beq_iff_eq]
 constructor
 ·rintro⟨⟨⟨⟨⟨h1,h2⟩,h3,h4⟩,h5⟩,h6⟩,h7,h8⟩
  cases a with|mk s v g t d=>cases b with|mk s' v' g' t' d'=>
  cases s;cases s';cases v;cases v';cases d;cases d'
  cases h1;cases h2;cases h3;cases h4;cases h5;cases h6;cases h7;cases h8
  rfl
 ·rintro rfl
  exact⟨⟨⟨⟨⟨rfl,rfl⟩,rfl,rfl⟩,rfl⟩,rfl⟩,rfl,rfl⟩
theorem Afm:∀{a b:List TCell},Afl a b=true↔a=b
 | [],[]=>by simp[Afl]
 | [],_::_=>by simp[Afl]
 |_::_,[]=>by simp[Afl]
 |x::xs,y::ys=>by
  unfold Afl
  rw[Bool.and_eq_true,Afk,Afm]
  simp
theorem Btf:∀(a b:List TCell),a.length=b.length→Afl a b=KU a.length (fun i=>eqC (a.getD i (Ac TC.cell)) (b.getD i (Ac TC.cell))):=fun a b h=>by
 rw[Bool.eq_iff_iff,Afm,I7]
 constructor
 ·rintro rfl i _
  exact Afk.2 rfl
 ·intro g
  refine List.ext_getElem h fun i h1 h2=>?_
  have:=Afk.1 (g i h1)
  rw[List.getD_eq_getElem?_getD,List.getD_eq_getElem?_getD,List.getElem?_eq_getElem h1,List.getElem?_eq_getElem h2] at this
  exact this
theorem Bkn (k:ByteArray):Al8 k=Sl k:=by
 unfold Al8 Sl
 rw[Ru]
 congr 2
 exact dgt k.size 32
theorem Bkm (a0:ByteArray) (_hp:∀p∈Ap0 a0,p):CallOk Try.prog 129 [Ae .str a0] 0 [] 1 (Az1 a0) 0 (Azz a0):=by
 have h:=Bp1 a0 (fun _ h=>by cases h)
 unfold Al9 at h
 rw[Bkn] at h
 exact h
def A6c:List A→Nat→Objs→Option AU:=A5 [.t .str] 0 Az1 Azz Ap0
theorem Bgm:Ev Try.prog 129 A6c:=As (ks:=[.t .str]) Bkm
noncomputable def Brv:=AQ 129 A6c Ci
theorem A67:Cp Try.prog Brv:=Ak Bgm Bzx
abbrev Ce:Type:=(List TGroup)×Int×TRow
def MA (x:Ce):St:=⟨42,1,[(0,.sl .group x.1),(3,.own 0 0),(6,.v (.int .i64 x.2.1))],[(0,some (.box 71 [.v (.string x.2.2.key),.sl .cell x.2.2.cells]))]⟩
def Po:St→Option Ce
 |⟨42,1,[(0,.sl .group z0),(3,.own 0 0),(6,.v (.int .i64 z1))],[(0,some (.box 71 [.v (.string z2),.sl .cell z3]))]⟩=>some (z0,z1,⟨z2,z3⟩)
 |_=>none
theorem Al6:∀s x,Po s=some x→s=MA x:=fun s x h=>by
 unfold Po at h
 split at h
 ·cases h;rfl
 ·cases h
def Aae:CU:=⟨1,1,[0,3,6],[],[(0,0)],[0],[4],[0]⟩
def A3w:C9:=⟨[],[(0,0)],[0,3,6],[0]⟩
def H4 (a0:List TGroup) (a1:Int) (_a2:TRow):Bool:=!!decide (a1 <(↑a0.length:Int))
def DF (a0:List TGroup) (a1:Int) (a2:TRow):Bool:=(H4 a0 a1 a2)&&!Pj (a0.getD a1.toNat (Ac TC.group)).2 (a2.2.getD a1.toNat (Ac TC.cell))
def As8 (a0:List TGroup) (a1:Int) (a2:TRow):Bool:=(H4 a0 a1 a2)&&!(DF a0 a1 a2)
def EL (x:Ce):Ce:=(x.1,IntKind.i64.wrap (x.2.1+(1:Int)),x.2.2)
def EJ (x:Ce):Cnd:=some (As8 x.1 x.2.1 x.2.2)
def Nt (x:Ce):List Prop:=[((H4 x.1 x.2.1 x.2.2)=true→(0:Int)≤x.2.1∧x.2.1 <(↑x.1.length:Int)),((H4 x.1 x.2.1 x.2.2)=true→(0:Int)≤x.2.1∧x.2.1 <(↑x.2.2.2.length:Int))]
abbrev H5:Ce→List Prop:=Nt
def S4 (x:Ce):Bb:=[(some 0,some (!decide (x.2.1 <(↑x.1.length:Int))),⟨42,1,[(4,.dead)],[(0,some (.box 71 [.v (.string x.2.2.1),.sl .cell x.2.2.2]))]⟩),(none,some ((DF x.1 x.2.1 x.2.2)),⟨42,1,[(4,.v (.int .i64 ((80:Int))))],[(0,some (.box 71 [.v (.string x.2.2.1),.sl .cell x.2.2.2]))]⟩)]
def Gt (x:Ce):Nat:=((↑x.1.length:Int) - x.2.1).toNat
def Ata (x:Ce):Ce:=AZ EL EJ (Gt x) x
theorem Azs (a0:List TGroup) (a1:Int) (a2:TRow):Bl (Au Brv L0) 9 (Af Try.prog 66 0) Aae (MA (a0,a1,a2))=some (Nt (a0,a1,a2),S4 (a0,a1,a2),EJ (a0,a1,a2),MA (EL (a0,a1,a2))):=by kernel_rfl
theorem Azt (a0:List TGroup) (a1:Int) (a2:TRow) (hp:∀p∈H5 (a0,a1,a2),p):∀p∈Nt (a0,a1,a2),p:=hp
noncomputable def Vb:=Hw (Au Brv L0) (Af Try.prog 66 0) Aae A3w Po Gt EL EJ H5 S4
theorem As9:∀s b ps outs,Vb s=some (b,ps,outs)→Wf s ⟨ps,outs,none⟩∧Bh (Au C0 L0) b s ps outs:=
 A9 (T:=MA) A67 Ay (u:=9) (by kernel_rfl) (by decide) (fun⟨a0,a1,a2⟩=>Azs a0 a1 a2) (fun⟨a0,a1,a2⟩=>Azt a0 a1 a2) Al6 (fun _=>AH (n:=42) rfl) fun _ _=>rfl
noncomputable def Aad:=Di 0 Vb L0
theorem As7:G1 Aad:=AS As9 Ay
def Jo (_a0:List TGroup) (a1:TRow):Bool:=Sl a1.1 !=(0:Int)
def Io (a0:List TGroup) (_a1:TRow):Bool:=AP a0 !=(0:Int)
def Jn (a0:List TGroup) (a1:TRow):Ce:=Ata (a0,(0:Int),a1)
def In (a0:List TGroup) (a1:TRow):Bool:=(↑a1.2.length:Int) !=(↑a0.length:Int)
def Adj (a0:List TGroup) (a1:TRow):Int:=bif(Io a0 a1) then AP a0 else bif(Jo a0 a1) then Sl a1.1 else bif(In a0 a1) then(100:Int) else bif DF (Jn a0 a1).fst (Jn a0 a1).snd.fst (Jn a0 a1).snd.snd then(80:Int) else(0:Int)
def Adk (a0:List TGroup) (a1:TRow):A:=.v (.int .i64 (Adj a0 a1))
def Azu (_a0:List TGroup) (_a1:TRow):Objs:=[]
def Apw (a0:List TGroup) (a1:TRow):List Prop:=[(∀(g:TGroup),g∈a0→Ao g.1.size),((!(Io a0 a1))=true→(!(Jo a0 a1))=true→(!(In a0 a1))=true→AD EL EJ H5 (Gt (a0,(0:Int),a1)) (a0,(0:Int),a1))]
theorem Bgi (a0:List TGroup) (a1:TRow):Er (Au Brv Aad) 9 66 [.sl .group a0,Ae .row a1] 0 []=some (1,Adk a0 a1,0,Azu a0 a1,[(∀(g:TGroup),g∈a0→Ao g.1.size),((!(Io a0 a1))=true→(!(Jo a0 a1))=true→(!(In a0 a1))=true→Af Try.prog (66:FuncId) (0:Nat)=Af Try.prog (66:FuncId) (0:Nat)),((!(Io a0 a1))=true→(!(Jo a0 a1))=true→(!(In a0 a1))=true→AD EL EJ H5 (Gt (a0,(0:Int),a1)) (a0,(0:Int),a1))]):=by kernel_rfl
theorem Bkk (a0:List TGroup) (a1:TRow) (hp:∀p∈Apw a0 a1,p):CallOk Try.prog 66 [.sl .group a0,Ae .row a1] 0 [] 1 (Adk a0 a1) 0 (Azu a0 a1):=by
 have n0:=N0 hp
 have n1:((!(Io a0 a1))=true→(!(Jo a0 a1))=true→(!(In a0 a1))=true→Af Try.prog (66:FuncId) (0:Nat)=Af Try.prog (66:FuncId) (0:Nat)):=by intros;rfl
 have n2:=N0 (N1 hp)
 exact Az (Ap A67 As7) (Bgi a0 a1) (Aa n0 (Aa n1 (Aa n2 Ad)))
def Apx (a0:List TGroup) (a1:TRow):A:=.v (.int .i64 (Ai a0 a1))
def Apv (_a0:List TGroup) (_a1:TRow):Objs:=[]
def Ah5 (a0:List TGroup) (_a1:TRow):List Prop:=[∀g∈a0,Ao g.name.size]
theorem Apu (l:List TGroup) (r:TRow) (hb:∀g∈l,Ao g.name.size):(∀p∈Apw l r,p)∧Adj l r=Ai l r:=by
 have hk2:Io l r=(AP l !=0):=rfl
 have hk3:Jo l r=(Sl r.key !=0):=rfl
 have hk0:In l r=(r.cells.length !=l.length):=by
  show((r.cells.length:Int) !=(l.length:Int))=_
  rw[Bool.eq_iff_iff,bne_iff_ne,bne_iff_ne];omega
 have main:Io l r=false→In l r=false→AD EL EJ H5 (Gt (l,0,r)) (l,0,r)∧DF (Jn l r).fst (Jn l r).snd.fst (Jn l r).snd.snd=!(l.zip r.cells).all (fun x=>Bo x.1.policy x.2):=fun h2 h0=>by
  rw[hk0] at h0
  have hlen:r.cells.length=l.length:=by simpa using h0
  have hl4:l.length≤4:=(G0 (by rw[hk2] at h2;simpa using h2)).2
  have hf:∀i:Nat,DF l (i:Int) r=(decide (i <l.length)&&!Bo (l.getD i (Ac TC.group)).2 (r.2.getD i (Ac TC.cell))):=fun i=>by
   unfold DF H4
   rw[nn,Mp,Int.toNat_natCast,Aph]
  obtain⟨h1,k,hk,hx,_,_,hb'⟩:=Ij (fun i=>((l,(i:Int),r):Ce)) l.length (fun i=>!Bo (l.getD i (Ac TC.group)).2 (r.2.getD i (Ac TC.cell))) EL EJ H5 (Gt (l,0,r)) (l,0,r) rfl (by show l.length≤((l.length:Int) - 0).toNat;omega)
   (fun i _ _=>by
    show((!!decide ((i:Int) <(l.length:Int)))&&!DF l i r)=_
    rw[hf,nn,Mp]
    cases decide (i <l.length)<;>rfl)
   (fun i hi _=>by
    show(l,IntKind.i64.wrap ((i:Int)+1),r)=(l,((i+1:Nat):Int),r)
    rw[Eu (by omega)])
   (fun i _ _=>by
    have hin:(!!decide ((i:Int) <(l.length:Int)))=true→(i:Int) <(l.length:Int):=fun h=>by rw[nn] at h;exact of_decide_eq_true h
    exact Aa (fun h=>⟨by show(0:Int)≤(i:Int);omega,hin h⟩) (Aa (fun h=>⟨by show(0:Int)≤(i:Int);omega,by have:=hin h;show(i:Int) <(r.cells.length:Int);omega⟩) Ad))
  refine⟨h1,?_⟩
  have hr:Jn l r=(l,(k:Int),r):=hx
  rw[hr]
  show DF l (k:Int) r=_
  rw[hf,hb',B0r l r.cells (Ac TC.group) (Ac TC.cell) (fun g c=>Bo g.policy c) hlen]
  congr 1
  exact Iu fun i _=>Bool.not_not _
 refine⟨Aa hb (Aa (fun h1 _ h3=>(main (by simpa using h1) (by simpa using h3)).1) Ad),?_⟩
 unfold Adj Ai
 have ek:Sl r.key=bif r.key.size==0 then 2 else bif decide (32 <r.key.size) then 3 else 0:=rfl
 cases h2:Io l r with
 |true=>rw[hk2] at h2;rw[h2];rfl
 | false=>
  rw[hk2] at h2
  rw[h2,cond_false,cond_false]
  cases h3:Jo l r with
  | true=>
   rw[cond_true]
   rw[hk3,ek] at h3
   rw[ek]
   cases h5:r.key.size==0 with
   |true=>rfl
   |false=>
    rw[h5] at h3
    cases h6:decide (32 <r.key.size) with
    |true=>rfl
    |false=>rw[h6] at h3;cases h3
  | false=>
   rw[hk3,ek] at h3
   have h5:(r.key.size==0)=false:=by
    cases h5:r.key.size==0 with
    |false=>rfl
    |true=>rw[h5] at h3;cases h3
   rw[h5] at h3
   have h6:decide (32 <r.key.size)=false:=by
    cases h6:decide (32 <r.key.size) with
    |false=>rfl
    |true=>rw[h6] at h3;cases h3
   rw[h5,h6,cond_false,cond_false,cond_false]
   cases h0:In l r with
   |true=>rw[hk0] at h0;rw[h0];rfl
   |false=>
    rw[cond_false,(main (by rw[hk2];exact h2) h0).2]
    rw[hk0] at h0
    rw[h0,cond_false]
    cases(l.zip r.cells).all (fun x=>Bo x.1.policy x.2)<;>rfl
theorem Bgh (a0:List TGroup) (a1:TRow) (hp:∀p∈Ah5 a0 a1,p):CallOk Try.prog 66 [.sl .group a0,Ae .row a1] 0 [] 1 (Apx a0 a1) 0 (Apv a0 a1):=by
 have hb:∀g∈a0,Ao g.name.size:=hp _ (List.mem_cons_self ..)
 have h:=Bkk a0 a1 (Apu a0 a1 hb).1
 unfold Adk at h
 rw[(Apu a0 a1 hb).2] at h
 exact h
def Azv:List A→Nat→Objs→Option AU:=A5 [.l .group,.t .row] 0 Apx Apv Ah5
theorem Bai:Ev Try.prog 66 Azv:=As (ks:=[.l .group,.t .row]) Bgh
noncomputable def B1c:=AQ 66 Azv Brv
theorem Bmf:Cp Try.prog B1c:=Ak Bai A67
def Ac6 (a0:TCell) (a1:TCell):Bool:=a0.1.1==a1.1.1&&a0.1.2==a1.1.2&&(a0.2.1==a1.2.1&&a0.2.2==a1.2.2)&&a0.3==a1.3&&a0.4.toList==a1.4.toList&&(a0.5.1==a1.5.1&&a0.5.2==a1.5.2)
def Ac7 (a0:TCell) (a1:TCell):A:=.v (.bool (Ac6 a0 a1))
def Azd (_a0:TCell) (_a1:TCell):Objs:=[]
def Apk (_a0:TCell) (_a1:TCell):List Prop:=[]
theorem Bf6 (a0:TCell) (a1:TCell):Er (Au B1c L0) 9 76 [Ae .cell a0,Ae .cell a1] 0 []=some (1,Ac7 a0 a1,0,Azd a0 a1,Apk a0 a1):=by kernel_rfl
theorem Bkb (a0:TCell) (a1:TCell) (hp:∀p∈Apk a0 a1,p):CallOk Try.prog 76 [Ae .cell a0,Ae .cell a1] 0 [] 1 (Ac7 a0 a1) 0 (Azd a0 a1):=Az (Ap Bmf Ay) (Bf6 a0 a1) hp
def Apl (a0:TCell) (a1:TCell):A:=.v (.bool (eqC a0 a1))
def Apj (_a0:TCell) (_a1:TCell):Objs:=[]
def Ahz (_a0:TCell) (_a1:TCell):List Prop:=[]
theorem Bf5 (a0:TCell) (a1:TCell) (_hp:∀p∈Ahz a0 a1,p):CallOk Try.prog 76 [Ae .cell a0,Ae .cell a1] 0 [] 1 (Apl a0 a1) 0 (Apj a0 a1):=by
 have h:=Bkb a0 a1 (fun _ h=>by cases h)
 have e:Ac6 a0 a1=eqC a0 a1:=by unfold Ac6;rw[tlb];rfl
 unfold Ac7 at h
 rw[e] at h
 exact h
def Aze:List A→Nat→Objs→Option AU:=A5 [.t .cell,.t .cell] 0 Apl Apj Ahz
theorem A99:Ev Try.prog 76 Aze:=As (ks:=[.t .cell,.t .cell]) Bf5
noncomputable def Brw:=AQ 76 Aze B1c
theorem A68:Cp Try.prog Brw:=Ak A99 Bmf
abbrev Cg:Type:=Int×TRow×TRow
def MC (x:Cg):St:=⟨39,2,[(2,.own 0 0),(3,.own 1 0),(5,.v (.int .i64 x.1))],[(0,some (.box 71 [.v (.string x.2.1.key),.sl .cell x.2.1.cells])),(1,some (.box 71 [.v (.string x.2.2.key),.sl .cell x.2.2.cells]))]⟩
def Ps:St→Option Cg
 |⟨39,2,[(2,.own 0 0),(3,.own 1 0),(5,.v (.int .i64 z0))],[(0,some (.box 71 [.v (.string z1),.sl .cell z2])),(1,some (.box 71 [.v (.string z3),.sl .cell z4]))]⟩=>some (z0,⟨z1,z2⟩,⟨z3,z4⟩)
 |_=>none
theorem Ami:∀s x,Ps s=some x→s=MC x:=fun s x h=>by
 unfold Ps at h
 split at h
 ·cases h;rfl
 ·cases h
def Aaj:CU:=⟨2,2,[2,3,5],[],[(0,0),(1,1)],[0,1],[4],[0,1]⟩
def A3z:C9:=⟨[],[(0,0),(1,1)],[2,3,5],[0,1]⟩
def H7 (a0:Int) (a1:TRow) (_a2:TRow):Bool:=!!decide (a0 <(↑a1.2.length:Int))
def DI (a0:Int) (a1:TRow) (a2:TRow):Bool:=(H7 a0 a1 a2)&&!eqC (a1.2.getD a0.toNat (Ac TC.cell)) (a2.2.getD a0.toNat (Ac TC.cell))
def Ati (a0:Int) (a1:TRow) (a2:TRow):Bool:=(H7 a0 a1 a2)&&!(DI a0 a1 a2)
def EQ (x:Cg):Cg:=(IntKind.i64.wrap (x.1+(1:Int)),x.2.1,x.2.2)
def EP (x:Cg):Cnd:=some (Ati x.1 x.2.1 x.2.2)
def Nw (x:Cg):List Prop:=[((H7 x.1 x.2.1 x.2.2)=true→(0:Int)≤x.1∧x.1 <(↑x.2.1.2.length:Int)),((H7 x.1 x.2.1 x.2.2)=true→(0:Int)≤x.1∧x.1 <(↑x.2.2.2.length:Int))]
abbrev H8:Cg→List Prop:=Nw
def S8 (x:Cg):Bb:=[(some 0,some (!decide (x.1 <(↑x.2.1.2.length:Int))),⟨39,2,[(4,.dead)],[(0,some (.box 71 [.v (.string x.2.1.1),.sl .cell x.2.1.2])),(1,some (.box 71 [.v (.string x.2.2.1),.sl .cell x.2.2.2]))]⟩),(none,some ((DI x.1 x.2.1 x.2.2)),⟨39,2,[(4,.v (.bool (false)))],[(0,some (.box 71 [.v (.string x.2.1.1),.sl .cell x.2.1.2])),(1,some (.box 71 [.v (.string x.2.2.1),.sl .cell x.2.2.2]))]⟩)]
def Gv (x:Cg):Nat:=((↑x.2.1.2.length:Int) - x.1).toNat
def Atk (x:Cg):Cg:=AZ EQ EP (Gv x) x
theorem Az7 (a0:Int) (a1:TRow) (a2:TRow):Bl (Au Brw L0) 9 (Af Try.prog 67 0) Aaj (MC (a0,a1,a2))=some (Nw (a0,a1,a2),S8 (a0,a1,a2),EP (a0,a1,a2),MC (EQ (a0,a1,a2))):=by kernel_rfl
theorem Az8 (a0:Int) (a1:TRow) (a2:TRow) (hp:∀p∈H8 (a0,a1,a2),p):∀p∈Nw (a0,a1,a2),p:=hp
noncomputable def Vi:=Hw (Au Brw L0) (Af Try.prog 67 0) Aaj A3z Ps Gv EQ EP H8 S8
theorem Atj:∀s b ps outs,Vi s=some (b,ps,outs)→Wf s ⟨ps,outs,none⟩∧Bh (Au C0 L0) b s ps outs:=
 A9 (T:=MC) A68 Ay (u:=9) (by kernel_rfl) (by decide) (fun⟨a0,a1,a2⟩=>Az7 a0 a1 a2) (fun⟨a0,a1,a2⟩=>Az8 a0 a1 a2) Ami (fun _=>AH (n:=39) rfl) fun _ _=>rfl
noncomputable def Aai:=Di 0 Vi L0
theorem Ath:G1 Aai:=AS Atj Ay
def Jp (a0:TRow) (a1:TRow):Cg:=Atk ((0:Int),a0,a1)
def Ip (a0:TRow) (a1:TRow):Bool:=!a0.1.toList==a1.1.toList||(↑a0.2.length:Int) !=(↑a1.2.length:Int)
def Adr (a0:TRow) (a1:TRow):Bool:=bif(Ip a0 a1) then false else bif DI (Jp a0 a1).fst (Jp a0 a1).snd.fst (Jp a0 a1).snd.snd then false else true
def Ads (a0:TRow) (a1:TRow):A:=.v (.bool (Adr a0 a1))
def Az9 (_a0:TRow) (_a1:TRow):Objs:=[]
def Ap6 (a0:TRow) (a1:TRow):List Prop:=[((!(Ip a0 a1))=true→AD EQ EP H8 (Gv ((0:Int),a0,a1)) ((0:Int),a0,a1))]
theorem Bgq (a0:TRow) (a1:TRow):Er (Au Brw Aai) 9 67 [Ae .row a0,Ae .row a1] 0 []=some (1,Ads a0 a1,0,Az9 a0 a1,[((!(Ip a0 a1))=true→Af Try.prog (67:FuncId) (0:Nat)=Af Try.prog (67:FuncId) (0:Nat)),((!(Ip a0 a1))=true→AD EQ EP H8 (Gv ((0:Int),a0,a1)) ((0:Int),a0,a1))]):=by kernel_rfl
theorem Bkr (a0:TRow) (a1:TRow) (hp:∀p∈Ap6 a0 a1,p):CallOk Try.prog 67 [Ae .row a0,Ae .row a1] 0 [] 1 (Ads a0 a1) 0 (Az9 a0 a1):=by
 have n0:((!(Ip a0 a1))=true→Af Try.prog (67:FuncId) (0:Nat)=Af Try.prog (67:FuncId) (0:Nat)):=by intros;rfl
 have n1:=N0 hp
 exact Az (Ap A68 Ath) (Bgq a0 a1) (Aa n0 (Aa n1 Ad))
def Ap7 (a0:TRow) (a1:TRow):A:=.v (.bool (Bpb a0 a1))
def Ap5 (_a0:TRow) (_a1:TRow):Objs:=[]
def Aid (a0:TRow) (_a1:TRow):List Prop:=[Ag a0.cells.length]
theorem Ap4 (a b:TRow) (hb:Ag a.cells.length):(∀p∈Ap6 a b,p)∧Adr a b=Bpb a b:=by
 unfold Ag at hb
 have hk0:Ip a b=(!(a.key==b.key)||a.cells.length !=b.cells.length):=by
  show(!(a.key.toList==b.key.toList)||((a.cells.length:Int) !=(b.cells.length:Int)))=_
  rw[tlb]
  congr 1
  rw[Bool.eq_iff_iff,bne_iff_ne,bne_iff_ne];omega
 have main:Ip a b=false→AD EQ EP H8 (Gv (0,a,b)) (0,a,b)∧DI (Jp a b).fst (Jp a b).snd.fst (Jp a b).snd.snd=!Afl a.cells b.cells:=fun h0=>by
  rw[hk0] at h0
  have hlen:a.cells.length=b.cells.length:=by simpa using(Bool.or_eq_false_iff.1 h0).2
  have hf:∀i:Nat,DI (i:Int) a b=(decide (i <a.cells.length)&&!eqC (a.2.getD i (Ac TC.cell)) (b.2.getD i (Ac TC.cell))):=fun i=>by
   unfold DI H7
   rw[nn,Mp,Int.toNat_natCast]
  obtain⟨h1,k,hk,hx,_,_,hb'⟩:=Ij (fun i=>(((i:Int),a,b):Cg)) a.cells.length (fun i=>!eqC (a.2.getD i (Ac TC.cell)) (b.2.getD i (Ac TC.cell))) EQ EP H8 (Gv (0,a,b)) (0,a,b) rfl (by show a.cells.length≤((a.cells.length:Int) - 0).toNat;omega)
   (fun i _ _=>by
    show((!!decide ((i:Int) <(a.cells.length:Int)))&&!DI i a b)=_
    rw[hf,nn,Mp]
    cases decide (i <a.cells.length)<;>rfl)
   (fun i hi _=>by
    show(IntKind.i64.wrap ((i:Int)+1),a,b)=(((i+1:Nat):Int),a,b)
    rw[Eu (by omega)])
   (fun i _ _=>by
    have hin:(!!decide ((i:Int) <(a.cells.length:Int)))=true→(i:Int) <(a.cells.length:Int):=fun h=>by rw[nn] at h;exact of_decide_eq_true h
    exact Aa (fun h=>⟨by show(0:Int)≤(i:Int);omega,hin h⟩) (Aa (fun h=>⟨by show(0:Int)≤(i:Int);omega,by have:=hin h;show(i:Int) <(b.cells.length:Int);omega⟩) Ad))
  refine⟨h1,?_⟩
  have hr:Jp a b=((k:Int),a,b):=hx
  rw[hr]
  show DI (k:Int) a b=_
  rw[hf,hb',Btf _ _ hlen]
  congr 1
  exact Iu fun i _=>Bool.not_not _
 refine⟨Aa (fun h=>(main (by simpa using h)).1) Ad,?_⟩
 unfold Adr Bpb
 cases h0:Ip a b with
 | true=>
  rw[hk0] at h0
  rw[cond_true]
  cases hk:a.key==b.key with
  |false=>rfl
  |true=>
   rw[hk] at h0
   have hne:a.cells.length≠b.cells.length:=by simpa using h0
   cases he:Afl a.cells b.cells with
   |false=>rfl
   |true=>exact absurd (congrArg List.length (Afm.1 he)) hne
 |false=>
  rw[cond_false,(main h0).2]
  rw[hk0] at h0
  have:(a.key==b.key)=true:=by simpa using(Bool.or_eq_false_iff.1 h0).1
  rw[this,Bool.true_and]
  cases Afl a.cells b.cells<;>rfl
theorem Bgp (a0:TRow) (a1:TRow) (hp:∀p∈Aid a0 a1,p):CallOk Try.prog 67 [Ae .row a0,Ae .row a1] 0 [] 1 (Ap7 a0 a1) 0 (Ap5 a0 a1):=by
 have hb:Ag a0.cells.length:=hp _ (List.mem_cons_self ..)
 have h:=Bkr a0 a1 (Ap4 a0 a1 hb).1
 unfold Ads at h
 rw[(Ap4 a0 a1 hb).2] at h
 exact h
def A0a:List A→Nat→Objs→Option AU:=A5 [.t .row,.t .row] 0 Ap7 Ap5 Aid
theorem Bam:Ev Try.prog 67 A0a:=As (ks:=[.t .row,.t .row]) Bgp
noncomputable def Brx:=AQ 67 A0a Brw
theorem A69:Cp Try.prog Brx:=Ak Bam A68
abbrev CN:Type:=Int×TRow
def Mz (x:CN):St:=⟨19,1,[(1,.own 0 0),(3,.v (.int .i64 x.1))],[(0,some (.box 71 [.v (.string x.2.key),.sl .cell x.2.cells]))]⟩
def Pn:St→Option CN
 |⟨19,1,[(1,.own 0 0),(3,.v (.int .i64 z0))],[(0,some (.box 71 [.v (.string z1),.sl .cell z2]))]⟩=>some (z0,⟨z1,z2⟩)
 |_=>none
theorem Al2:∀s x,Pn s=some x→s=Mz x:=fun s x h=>by
 unfold Pn at h
 split at h
 ·cases h;rfl
 ·cases h
def Aab:CU:=⟨1,1,[1,3],[],[(0,0)],[0],[2],[0]⟩
def A3u:C9:=⟨[],[(0,0)],[1,3],[0]⟩
def JO (a0:Int) (a1:TRow):Bool:=!!decide (a0 <(↑a1.2.length:Int))
def EI (a0:Int) (a1:TRow):Bool:=(JO a0 a1)&&!eqC (a1.2.getD a0.toNat (Ac TC.cell)) (TCell.mk (TStamp.mk (0:Int) (0:Int)) (TVec.mk (0:Int) (0:Int)) false (ByteArray.mk #[]) (TVec.mk (0:Int) (0:Int)))
def As3 (a0:Int) (a1:TRow):Bool:=(JO a0 a1)&&!(EI a0 a1)
def Gs (x:CN):CN:=(IntKind.i64.wrap (x.1+(1:Int)),x.2)
def Gr (x:CN):Cnd:=some (As3 x.1 x.2)
def Nq (x:CN):List Prop:=[((JO x.1 x.2)=true→(0:Int)≤x.1∧x.1 <(↑x.2.2.length:Int))]
abbrev Jm:CN→List Prop:=Nq
def S2 (x:CN):Bb:=[(some 0,some (!decide (x.1 <(↑x.2.2.length:Int))),⟨19,1,[(2,.dead)],[(0,some (.box 71 [.v (.string x.2.1),.sl .cell x.2.2]))]⟩),(none,some ((EI x.1 x.2)),⟨19,1,[(2,.v (.bool (false)))],[(0,some (.box 71 [.v (.string x.2.1),.sl .cell x.2.2]))]⟩)]
def H2 (x:CN):Nat:=((↑x.2.2.length:Int) - x.1).toNat
def Nr (x:CN):CN:=AZ Gs Gr (H2 x) x
theorem Azm (a0:Int) (a1:TRow):Bl (Au Brx L0) 9 (Af Try.prog 68 0) Aab (Mz (a0,a1))=some (Nq (a0,a1),S2 (a0,a1),Gr (a0,a1),Mz (Gs (a0,a1))):=by kernel_rfl
theorem Azn (a0:Int) (a1:TRow) (hp:∀p∈Jm (a0,a1),p):∀p∈Nq (a0,a1),p:=hp
noncomputable def Va:=Hw (Au Brx L0) (Af Try.prog 68 0) Aab A3u Pn H2 Gs Gr Jm S2
theorem As4:∀s b ps outs,Va s=some (b,ps,outs)→Wf s ⟨ps,outs,none⟩∧Bh (Au C0 L0) b s ps outs:=
 A9 (T:=Mz) A69 Ay (u:=9) (by kernel_rfl) (by decide) (fun⟨a0,a1⟩=>Azm a0 a1) (fun⟨a0,a1⟩=>Azn a0 a1) Al2 (fun _=>AH (n:=19) rfl) fun _ _=>rfl
noncomputable def Aaa:=Di 0 Va L0
theorem As2:G1 Aaa:=AS As4 Ay
def Adf (a0:TRow):Bool:=bif EI (Nr ((0:Int),a0)).fst (Nr ((0:Int),a0)).snd then false else true
def Adg (a0:TRow):A:=.v (.bool (Adf a0))
def Azo (_a0:TRow):Objs:=[]
def App (a0:TRow):List Prop:=[(AD Gs Gr Jm (H2 ((0:Int),a0)) ((0:Int),a0))]
theorem Bge (a0:TRow):Er (Au Brx Aaa) 9 68 [Ae .row a0] 0 []=some (1,Adg a0,0,Azo a0,[(Af Try.prog (68:FuncId) (0:Nat)=Af Try.prog (68:FuncId) (0:Nat)),(AD Gs Gr Jm (H2 ((0:Int),a0)) ((0:Int),a0))]):=by kernel_rfl
theorem Bki (a0:TRow) (hp:∀p∈App a0,p):CallOk Try.prog 68 [Ae .row a0] 0 [] 1 (Adg a0) 0 (Azo a0):=by
 have n1:=N0 hp
 exact Az (Ap A69 As2) (Bge a0) (Aa rfl (Aa n1 Ad))
def Apq (a0:TRow):A:=.v (.bool (G2 a0))
def Apo (_a0:TRow):Objs:=[]
def Ah0 (a0:TRow):List Prop:=[Ag a0.cells.length]
theorem Apn (a:TRow) (hb:Ag a.cells.length):(∀p∈App a,p)∧Adf a=G2 a:=by
 unfold Ag at hb
 have hf:∀i:Nat,EI (i:Int) a=(decide (i <a.cells.length)&&!eqC (a.2.getD i (Ac TC.cell)) zeroC):=fun i=>by
  unfold EI JO
  rw[nn,Mp,Int.toNat_natCast]
  rfl
 obtain⟨h1,k,hk,hx,_,_,hb'⟩:=Ij (fun i=>(((i:Int),a):CN)) a.cells.length (fun i=>!eqC (a.2.getD i (Ac TC.cell)) zeroC) Gs Gr Jm (H2 (0,a)) (0,a) rfl (by show a.cells.length≤((a.cells.length:Int) - 0).toNat;omega)
  (fun i _ _=>by
   show((!!decide ((i:Int) <(a.cells.length:Int)))&&!EI i a)=_
   rw[hf,nn,Mp]
   cases decide (i <a.cells.length)<;>rfl)
  (fun i hi _=>by
   show(IntKind.i64.wrap ((i:Int)+1),a)=(((i+1:Nat):Int),a)
   rw[Eu (by omega)])
  (fun i _ _=>Aa (fun h=>⟨by show(0:Int)≤(i:Int);omega,by
   have h':(!!decide ((i:Int) <(a.cells.length:Int)))=true:=h
   rw[nn] at h';exact of_decide_eq_true h'⟩) Ad)
 refine⟨Aa h1 Ad,?_⟩
 have hr:Nr (0,a)=((k:Int),a):=hx
 unfold Adf
 rw[hr]
 show(bif EI (k:Int) a then false else true)=_
 rw[hf,hb']
 unfold G2
 rw[Bsw a.cells (Ac TC.cell)]
 rw[show KU a.cells.length (fun i=>!!eqC (a.2.getD i (Ac TC.cell)) zeroC)=KU a.cells.length (fun i=>eqC (a.cells.getD i (Ac TC.cell)) zeroC) from Iu fun i _=>Bool.not_not _]
 cases KU a.cells.length (fun i=>eqC (a.cells.getD i (Ac TC.cell)) zeroC)<;>rfl
theorem Bgd (a0:TRow) (hp:∀p∈Ah0 a0,p):CallOk Try.prog 68 [Ae .row a0] 0 [] 1 (Apq a0) 0 (Apo a0):=by
 have hb:Ag a0.cells.length:=hp _ (List.mem_cons_self ..)
 have h:=Bki a0 (Apn a0 hb).1
 unfold Adg at h
 rw[(Apn a0 hb).2] at h
 exact h
def Azp:List A→Nat→Objs→Option AU:=A5 [.t .row] 0 Apq Apo Ah0
theorem Bad:Ev Try.prog 68 Azp:=As (ks:=[.t .row]) Bgd
noncomputable def Bry:=AQ 68 Azp Brx
theorem A7a:Cp Try.prog Bry:=Ak Bad A69
abbrev Co:Type:=(List TCell)×Int×Int
def MH (x:Co):St:=⟨16,1,[(6,.sl .cell x.1),(7,.v (.int .i64 x.2.1)),(8,.v (.int .i64 x.2.2))],[]⟩
def PE:St→Option Co
 |⟨16,1,[(6,.sl .cell z0),(7,.v (.int .i64 z1)),(8,.v (.int .i64 z2))],[]⟩=>some (z0,z1,z2)
 |_=>none
theorem Am9:∀s x,PE s=some x→s=MH x:=fun s x h=>by
 unfold PE at h
 split at h
 ·cases h;rfl
 ·cases h
def Aax:CU:=⟨1,1,[6,7,8],[],[],[],[2],[]⟩
def A4b:C9:=⟨[],[],[6,7,8],[]⟩
def EW (a0:List TCell) (a1:Int) (a2:Int):Bool:=!!decide (a2 <a1)&&!((a0.getD a2.toNat (Ac TC.cell)).1.1==(0:Int)&&(a0.getD a2.toNat (Ac TC.cell)).1.2==(0:Int)&&((a0.getD a2.toNat (Ac TC.cell)).2.1==(0:Int)&&(a0.getD a2.toNat (Ac TC.cell)).2.2==(0:Int)&&((a0.getD a2.toNat (Ac TC.cell)).3==false&&((a0.getD a2.toNat (Ac TC.cell)).4.toList==(ByteArray.mk #[]).toList&&((a0.getD a2.toNat (Ac TC.cell)).5.1==(0:Int)&&(a0.getD a2.toNat (Ac TC.cell)).5.2==(0:Int))))))
def At3 (a0:List TCell) (a1:Int) (a2:Int):Bool:=!!decide (a2 <a1)&&!(EW a0 a1 a2)
def GE (x:Co):Co:=(x.1,x.2.1,IntKind.i64.wrap (x.2.2+(1:Int)))
def GD (x:Co):Cnd:=some (At3 x.1 x.2.1 x.2.2)
def NF (x:Co):List Prop:=[((!!decide (x.2.2 <x.2.1))=true→(0:Int)≤x.2.2∧x.2.2 <(↑x.1.length:Int))]
abbrev Ju:Co→List Prop:=NF
def Th (x:Co):Bb:=[(some 0,some (!decide (x.2.2 <x.2.1)),⟨16,1,[(2,.dead)],[]⟩),(none,some ((EW x.1 x.2.1 x.2.2)),⟨16,2,[(2,.v (.bool (false)))],[]⟩)]
def Ig (x:Co):Nat:=(x.2.1 - x.2.2).toNat
def At5 (x:Co):Co:=AZ GE GD (Ig x) x
theorem A04 (a0:List TCell) (a1:Int) (a2:Int):Bl (Au Bry L0) 9 (Af Try.prog 52 0) Aax (MH (a0,a1,a2))=some (NF (a0,a1,a2),Th (a0,a1,a2),GD (a0,a1,a2),MH (GE (a0,a1,a2))):=by kernel_rfl
theorem A05 (a0:List TCell) (a1:Int) (a2:Int) (hp:∀p∈Ju (a0,a1,a2),p):∀p∈NF (a0,a1,a2),p:=hp
noncomputable def Vp:=Hw (Au Bry L0) (Af Try.prog 52 0) Aax A4b PE Ig GE GD Ju Th
theorem At4:∀s b ps outs,Vp s=some (b,ps,outs)→Wf s ⟨ps,outs,none⟩∧Bh (Au C0 L0) b s ps outs:=
 A9 (T:=MH) A7a Ay (u:=9) (by kernel_rfl) (by decide) (fun⟨a0,a1,a2⟩=>A04 a0 a1 a2) (fun⟨a0,a1,a2⟩=>A05 a0 a1 a2) Am9 (fun _=>AH (n:=16) rfl) fun _ _=>rfl
noncomputable def Aaw:=Di 0 Vp L0
theorem At2:G1 Aaw:=AS At4 Ay
def QL (a0:TRow):Co:=At5 (a0.2,(↑a0.2.length:Int),(0:Int))
def Ad7 (a0:TRow):Bool:=bif EW (QL a0).fst (QL a0).snd.fst (QL a0).snd.snd then false else true
def Ad8 (a0:TRow):A:=.v (.bool (Ad7 a0))
def A06 (_a0:TRow):Objs:=[]
def Aqv (a0:TRow):List Prop:=[(AD GE GD Ju (Ig (a0.2,(↑a0.2.length:Int),(0:Int))) (a0.2,(↑a0.2.length:Int),(0:Int)))]
theorem Bg8 (a0:TRow):Er (Au Bry Aaw) 9 52 [Ae .row a0] 0 []=some (1,Ad8 a0,0,A06 a0,[(Af Try.prog (52:FuncId) (0:Nat)=Af Try.prog (52:FuncId) (0:Nat)),(AD GE GD Ju (Ig (a0.2,(↑a0.2.length:Int),(0:Int))) (a0.2,(↑a0.2.length:Int),(0:Int)))]):=by kernel_rfl
theorem Bk5 (a0:TRow) (hp:∀p∈Aqv a0,p):CallOk Try.prog 52 [Ae .row a0] 0 [] 1 (Ad8 a0) 0 (A06 a0):=by
 have n1:=N0 hp
 exact Az (Ap A7a At2) (Bg8 a0) (Aa rfl (Aa n1 Ad))
def Aqw (a0:TRow):A:=.v (.bool (G2 a0))
def Aqu (_a0:TRow):Objs:=[]
def Ait (a0:TRow):List Prop:=[Ag a0.cells.length]
theorem Aqt (a:TRow) (hb:Ag a.cells.length):(∀p∈Aqv a,p)∧Ad7 a=G2 a:=by
 unfold Ag at hb
 have hz:∀c:TCell,(c.1.1==(0:Int)&&c.1.2==(0:Int)&&(c.2.1==(0:Int)&&c.2.2==(0:Int)&&(c.3==false&&(c.4.toList==(ByteArray.mk #[]).toList&&(c.5.1==(0:Int)&&c.5.2==(0:Int))))))=eqC c zeroC:=fun c=>by
  rw[tlb]
  unfold eqC zeroC
  simp only[Bool.and_assoc]
 have hf:∀i:Nat,EW a.2 (a.2.length:Int) (i:Int)=(decide (i <a.cells.length)&&!eqC (a.2.getD i (Ac TC.cell)) zeroC):=fun i=>by
  unfold EW
  rw[nn,Mp,Int.toNat_natCast,hz]
 obtain⟨h1,k,hk,hx,_,_,hb'⟩:=Ij (fun i=>((a.2,(a.2.length:Int),(i:Int)):Co)) a.cells.length (fun i=>!eqC (a.2.getD i (Ac TC.cell)) zeroC) GE GD Ju (Ig (a.2,(a.2.length:Int),0)) (a.2,(a.2.length:Int),0) rfl (by show a.cells.length≤((a.cells.length:Int) - 0).toNat;omega)
  (fun i _ _=>by
   show((!!decide ((i:Int) <(a.cells.length:Int)))&&!EW a.2 (a.2.length:Int) i)=_
   rw[hf,nn,Mp]
   cases decide (i <a.cells.length)<;>rfl)
  (fun i hi _=>by
   show(a.2,(a.2.length:Int),IntKind.i64.wrap ((i:Int)+1))=(a.2,(a.2.length:Int),((i+1:Nat):Int))
   rw[Eu (by omega)])
  (fun i _ _=>Aa (fun h=>⟨by show(0:Int)≤(i:Int);omega,by
   have h':(!!decide ((i:Int) <(a.cells.length:Int)))=true:=h
   rw[nn] at h';exact of_decide_eq_true h'⟩) Ad)
 refine⟨Aa h1 Ad,?_⟩
 have hr:QL a=(a.2,(a.2.length:Int),(k:Int)):=hx
 unfold Ad7
 rw[hr]
 show(bif EW a.2 (a.2.length:Int) (k:Int) then false else true)=_
 rw[hf,hb']
 unfold G2
 rw[Bsw a.cells (Ac TC.cell)]
 rw[show KU a.cells.length (fun i=>!!eqC (a.2.getD i (Ac TC.cell)) zeroC)=KU a.cells.length (fun i=>eqC (a.cells.getD i (Ac TC.cell)) zeroC) from Iu fun i _=>Bool.not_not _]
 cases KU a.cells.length (fun i=>eqC (a.cells.getD i (Ac TC.cell)) zeroC)<;>rfl
theorem Bg7 (a0:TRow) (hp:∀p∈Ait a0,p):CallOk Try.prog 52 [Ae .row a0] 0 [] 1 (Aqw a0) 0 (Aqu a0):=by
 have hb:Ag a0.cells.length:=hp _ (List.mem_cons_self ..)
 have h:=Bk5 a0 (Aqt a0 hb).1
 unfold Ad8 at h
 rw[(Aqt a0 hb).2] at h
 exact h
def A07:List A→Nat→Objs→Option AU:=A5 [.t .row] 0 Aqw Aqu Ait
theorem Baz:Ev Try.prog 52 A07:=As (ks:=[.t .row]) Bg7
noncomputable def B21:=AQ 52 A07 Bry
theorem Bww:Cp Try.prog B21:=Ak Baz A7a
noncomputable def Cj:=B21
theorem Bzy:Cp Try.prog Cj:=Bww
end Go.Proofs.Yteebobbhhgmeiaa
namespace Go.Proofs.Yteebobbhhgmeiaa
open Go.RowKit
def M3 (a b:TVec):TVec:=⟨max (max 0 a.a) b.a,max (max 0 a.b) b.b⟩
def Ab5 (c:TCell):TVec:=M3 c.vec c.dead
def Jf (cs:List TCell):TVec:=cs.foldl (fun v c=>M3 v (Ab5 c)) ⟨0,0⟩
def VB (l:List TGroup) (k:ByteArray):Int:=bif AP l !=0 then AP l else Sl k
def Ahl (l:List TGroup) (k:ByteArray):TRow:=⟨bif VB l k !=0 then⟨#[]⟩ else k,bif VB l k !=0 then[] else List.replicate l.length zeroC⟩
noncomputable def B1d:=AQ 155 (inl (Au Cj L0) 4 155) Cj
theorem Bmg:Cp Try.prog B1d:=Ak (TL (Ap Bzy Ay) 4 155) Bzy
noncomputable def B1e:=AQ 109 (inl (Au B1d L0) 4 109) B1d
theorem Bmh:Cp Try.prog B1e:=Ak (TL (Ap Bmg Ay) 4 109) Bmg
def SY (a0:TVec) (a1:TVec):TVec:=TVec.mk (max (max (0:Int) a0.1) a1.1) (max (max (0:Int) a0.2) a1.2)
def Alw (a0:TVec) (a1:TVec):A:=.v (.agg ⟨[.int .i64 ((SY a0 a1).a),.int .i64 ((SY a0 a1).b)]⟩)
def Alv (_a0:TVec) (_a1:TVec):Objs:=[]
def Ayz (_a0:TVec) (_a1:TVec):List Prop:=[]
theorem Bj6 (a0:TVec) (a1:TVec):Er (Au B1e L0) 9 110 [Ae .vec a0,Ae .vec a1] 0 []=some (1,Alw a0 a1,0,Alv a0 a1,[((0:Int)≤(0:Int)∧(0:Int) <(↑(2:Nat):Int)),((0:Nat) <(2:Nat)),((0:Int)≤(0:Int)∧(0:Int) <(↑(2:Nat):Int)),((0:Nat) <(2:Nat)),((0:Int)≤(1:Int)∧(1:Int) <(↑(2:Nat):Int)),((1:Nat) <(2:Nat)),((0:Int)≤(1:Int)∧(1:Int) <(↑(2:Nat):Int)),((1:Nat) <(2:Nat))]):=by kernel_rfl
theorem Bpy (a0:TVec) (a1:TVec) (_hp:∀p∈Ayz a0 a1,p):CallOk Try.prog 110 [Ae .vec a0,Ae .vec a1] 0 [] 1 (Alw a0 a1) 0 (Alv a0 a1):=by
 have n0:((0:Int)≤(0:Int)∧(0:Int) <(↑(2:Nat):Int)):=by first|rfl|decide+kernel
 have n1:((0:Nat) <(2:Nat)):=by first|rfl|decide+kernel
 have n4:((0:Int)≤(1:Int)∧(1:Int) <(↑(2:Nat):Int)):=by first|rfl|decide+kernel
 have n5:((1:Nat) <(2:Nat)):=by first|rfl|decide+kernel
 exact Az (Ap Bmh Ay) (Bj6 a0 a1) (Aa n0 (Aa n1 (Aa n0 (Aa n1 (Aa n4 (Aa n5 (Aa n4 (Aa n5 Ad))))))))
def A57:List A→Nat→Objs→Option AU:=A5 [.t .vec,.t .vec] 0 Alw Alv Ayz
theorem Bfx:Ev Try.prog 110 A57:=As (ks:=[.t .vec,.t .vec]) Bpy
noncomputable def B1f:=AQ 110 A57 B1e
theorem Bmi:Cp Try.prog B1f:=Ak Bfx Bmh
def XB (a0:TCell):TVec:=SY a0.2 a0.5
def XD (a0:TCell):A:=.v (.agg ⟨[.int .i64 ((XB a0).a),.int .i64 ((XB a0).b)]⟩)
def XC (_a0:TCell):Objs:=[]
def Ue (_a0:TCell):List Prop:=[]
theorem A98 (a0:TCell):Er (Au B1f L0) 9 44 [Ae .cell a0] 0 []=some (1,XD a0,0,XC a0,Ue a0):=by kernel_rfl
theorem Bf3 (a0:TCell) (hp:∀p∈Ue a0,p):CallOk Try.prog 44 [Ae .cell a0] 0 [] 1 (XD a0) 0 (XC a0):=Az (Ap Bmi Ay) (A98 a0) hp
def Api:List A→Nat→Objs→Option AU:=A5 [.t .cell] 0 XD XC Ue
theorem A3s:Ev Try.prog 44 Api:=As (ks:=[.t .cell]) Bf3
noncomputable def B1g:=AQ 44 Api B1f
theorem Bmj:Cp Try.prog B1g:=Ak A3s Bmi
def KW (a0:TCell):TVec:=TVec.mk (max (max (0:Int) a0.2.1) a0.5.1) (max (max (0:Int) a0.2.2) a0.5.2)
def Ty (a0:TCell):A:=.v (.agg ⟨[.int .i64 ((KW a0).a),.int .i64 ((KW a0).b)]⟩)
def Tx (_a0:TCell):Objs:=[]
def Zl (_a0:TCell):List Prop:=[]
theorem A2f (a0:TCell):Er (Au B1g L0) 9 43 [Ae .cell a0] 0 []=some (1,Ty a0,0,Tx a0,[((0:Int)≤(0:Int)∧(0:Int) <(↑(2:Nat):Int)),((0:Nat) <(2:Nat)),((0:Int)≤(0:Int)∧(0:Int) <(2:Int)),((0:Nat) <(2:Nat)),((0:Int)≤(0:Int)∧(0:Int) <(2:Int)),((0:Nat) <(2:Nat)),((0:Int)≤(0:Int)∧(0:Int) <(2:Int)),((0:Nat) <(2:Nat)),((0:Int)≤(1:Int)∧(1:Int) <(2:Int)),((1:Nat) <(2:Nat)),((0:Int)≤(1:Int)∧(1:Int) <(2:Int)),((1:Nat) <(2:Nat)),((0:Int)≤(1:Int)∧(1:Int) <(2:Int)),((1:Nat) <(2:Nat)),((0:Int)≤(1:Int)∧(1:Int) <(↑(2:Nat):Int)),((1:Nat) <(2:Nat)),((0:Int)≤(0:Int)∧(0:Int) <(2:Int)),((0:Nat) <(2:Nat)),((0:Int)≤(0:Int)∧(0:Int) <(2:Int)),((0:Nat) <(2:Nat)),((0:Int)≤(0:Int)∧(0:Int) <(2:Int)),((0:Nat) <(2:Nat)),((0:Int)≤(1:Int)∧(1:Int) <(2:Int)),((1:Nat) <(2:Nat)),((0:Int)≤(1:Int)∧(1:Int) <(2:Int)),((1:Nat) <(2:Nat)),((0:Int)≤(1:Int)∧(1:Int) <(2:Int)),((1:Nat) <(2:Nat))]):=by kernel_rfl
theorem A7u (a0:TCell) (_hp:∀p∈Zl a0,p):CallOk Try.prog 43 [Ae .cell a0] 0 [] 1 (Ty a0) 0 (Tx a0):=by
 have n0:((0:Int)≤(0:Int)∧(0:Int) <(↑(2:Nat):Int)):=by first|rfl|decide+kernel
 have n1:((0:Nat) <(2:Nat)):=by first|rfl|decide+kernel
 have n2:((0:Int)≤(0:Int)∧(0:Int) <(2:Int)):=by first|rfl|decide+kernel
 have n8:((0:Int)≤(1:Int)∧(1:Int) <(2:Int)):=by first|rfl|decide+kernel
 have n9:((1:Nat) <(2:Nat)):=by first|rfl|decide+kernel
 have n14:((0:Int)≤(1:Int)∧(1:Int) <(↑(2:Nat):Int)):=by first|rfl|decide+kernel
 exact Az (Ap Bmj Ay) (A2f a0) (Aa n0 (Aa n1 (Aa n2 (Aa n1 (Aa n2 (Aa n1 (Aa n2 (Aa n1 (Aa n8 (Aa n9 (Aa n8 (Aa n9 (Aa n8 (Aa n9 (Aa n14 (Aa n9 (Aa n2 (Aa n1 (Aa n2 (Aa n1 (Aa n2 (Aa n1 (Aa n8 (Aa n9 (Aa n8 (Aa n9 (Aa n8 (Aa n9 Ad))))))))))))))))))))))))))))
def Ae5:List A→Nat→Objs→Option AU:=A5 [.t .cell] 0 Ty Tx Zl
theorem Avn:Ev Try.prog 43 Ae5:=As (ks:=[.t .cell]) A7u
noncomputable def Br0:=AQ 43 Ae5 B1g
theorem A7b:Cp Try.prog Br0:=Ak Avn Bmj
abbrev BZ:Type:=Int×TRow×TVec
def LA (x:BZ):St:=⟨21,3,[(1,.own 0 0),(3,.own 2 0),(4,.v (.int .i64 x.1))],[(0,some (.box 71 [.v (.string x.2.1.key),.sl .cell x.2.1.cells])),(2,some (.box 31 [.v (.int .i64 x.2.2.a),.v (.int .i64 x.2.2.b)]))]⟩
def Nv:St→Option BZ
 |⟨21,3,[(1,.own 0 0),(3,.own 2 0),(4,.v (.int .i64 z0))],[(0,some (.box 71 [.v (.string z1),.sl .cell z2])),(2,some (.box 31 [.v (.int .i64 z3),.v (.int .i64 z4)]))]⟩=>some (z0,⟨z1,z2⟩,⟨z3,z4⟩)
 |_=>none
theorem Ah8:∀s x,Nv s=some x→s=LA x:=fun s x h=>by
 unfold Nv at h
 split at h
 ·cases h;rfl
 ·cases h
def XP:CU:=⟨3,3,[1,3,4],[],[(0,0),(2,2)],[0,2],[],[0,2]⟩
def Az2:C9:=⟨[],[(0,0),(2,2)],[1,3,4],[0,2]⟩
def QC (a0:Int) (a1:TRow) (_a2:TVec):Bool:=!!decide (a0 <(↑a1.2.length:Int))
def Amb (a0:Int) (a1:TRow) (a2:TVec):TVec:=SY a2 (XB (a1.2.getD a0.toNat (Ac TC.cell)))
def Fu (x:BZ):BZ:=(IntKind.i64.wrap (x.1+(1:Int)),x.2.1,Amb x.1 x.2.1 x.2.2)
def Ft (x:BZ):Cnd:=some ((QC x.1 x.2.1 x.2.2))
def Mg (x:BZ):List Prop:=[((QC x.1 x.2.1 x.2.2)=true→(0:Int)≤x.1∧x.1 <(↑x.2.1.2.length:Int))]
abbrev IJ:BZ→List Prop:=Mg
def QD (x:BZ):Bb:=[(some 0,some (!decide (x.1 <(↑x.2.1.2.length:Int))),⟨21,3,[],[(0,some (.box 71 [.v (.string x.2.1.1),.sl .cell x.2.1.2])),(2,some (.box 31 [.v (.int .i64 x.2.2.1),.v (.int .i64 x.2.2.2)]))]⟩)]
def Ht (x:BZ):Nat:=((↑x.2.1.2.length:Int) - x.1).toNat
def Mh (x:BZ):BZ:=AZ Fu Ft (Ht x) x
theorem Atd (a0:Int) (a1:TRow) (a2:TVec):Bl (Au Br0 L0) 9 (Af Try.prog 70 0) XP (LA (a0,a1,a2))=some (Mg (a0,a1,a2),QD (a0,a1,a2),Ft (a0,a1,a2),LA (Fu (a0,a1,a2))):=by kernel_rfl
theorem Ate (a0:Int) (a1:TRow) (a2:TVec) (hp:∀p∈IJ (a0,a1,a2),p):∀p∈Mg (a0,a1,a2),p:=hp
noncomputable def S6:=Hw (Au Br0 L0) (Af Try.prog 70 0) XP Az2 Nv Ht Fu Ft IJ QD
theorem Amc:∀s b ps outs,S6 s=some (b,ps,outs)→Wf s ⟨ps,outs,none⟩∧Bh (Au C0 L0) b s ps outs:=
 A9 (T:=LA) A7b Ay (u:=9) (by kernel_rfl) (by decide) (fun⟨a0,a1,a2⟩=>Atd a0 a1 a2) (fun⟨a0,a1,a2⟩=>Ate a0 a1 a2) Ah8 (fun _=>AH (n:=21) rfl) fun _ _=>rfl
noncomputable def XO:=Di 0 S6 L0
theorem Ama:G1 XO:=AS Amc Ay
def XN (a0:TRow):TVec:=(Mh ((0:Int),a0,TVec.mk (0:Int) (0:Int))).snd.snd
def XQ (a0:TRow):A:=.v (.agg ⟨[.int .i64 ((XN a0).a),.int .i64 ((XN a0).b)]⟩)
def Ap1 (_a0:TRow):Objs:=[]
def Aia (a0:TRow):List Prop:=[(AD Fu Ft IJ (Ht ((0:Int),a0,TVec.mk (0:Int) (0:Int))) ((0:Int),a0,TVec.mk (0:Int) (0:Int)))]
theorem Bal (a0:TRow):Er (Au Br0 XO) 9 70 [Ae .row a0] 0 []=some (1,XQ a0,0,Ap1 a0,[(Af Try.prog (70:FuncId) (0:Nat)=Af Try.prog (70:FuncId) (0:Nat)),(AD Fu Ft IJ (Ht ((0:Int),a0,TVec.mk (0:Int) (0:Int))) ((0:Int),a0,TVec.mk (0:Int) (0:Int)))]):=by kernel_rfl
theorem Bgn (a0:TRow) (hp:∀p∈Aia a0,p):CallOk Try.prog 70 [Ae .row a0] 0 [] 1 (XQ a0) 0 (Ap1 a0):=by
 have n1:=N0 hp
 exact Az (Ap A7b Ama) (Bal a0) (Aa rfl (Aa n1 Ad))
def Aib (a0:TRow):A:=.v (.agg ⟨[.int .i64 (Jf a0.cells).a,.int .i64 (Jf a0.cells).b]⟩)
def Ah9 (_a0:TRow):Objs:=[]
def Aah (a0:TRow):List Prop:=[Ao a0.cells.length]
theorem Aog (cs:List TCell) (i:Nat) (h:i <cs.length):Jf (cs.take (i+1))=M3 (Jf (cs.take i)) (Ab5 (cs.getD i (Ac TC.cell))):=by
 unfold Jf
 rw[List.take_add_one,List.getElem?_eq_getElem h,List.getD_eq_getElem?_getD,List.getElem?_eq_getElem h,List.foldl_append]
 rfl
theorem Ah7 (a:TRow) (hb:Ao a.cells.length):(∀p∈Aia a,p)∧XN a=Jf a.cells:=by
 unfold Ao at hb
 obtain⟨h1,k,hk,hx,_,hst,_⟩:=Ij (fun i=>(((i:Int),a,Jf (a.cells.take i)):BZ)) a.cells.length (fun _=>false) Fu Ft IJ (Ht (0,a,⟨0,0⟩)) (0,a,⟨0,0⟩) rfl (by show a.cells.length≤((a.cells.length:Int) - 0).toNat;omega)
  (fun i _ _=>by
   show(!!decide ((i:Int) <(a.cells.length:Int)))=_
   rw[nn,Mp,Bool.not_false,Bool.and_true])
  (fun i hi _=>by
   show(IntKind.i64.wrap ((i:Int)+1),a,M3 (Jf (a.cells.take i)) (Ab5 (a.cells.getD ((i:Int)).toNat (Ac TC.cell))))=(((i+1:Nat):Int),a,Jf (a.cells.take (i+1)))
   rw[Eu (by omega),Int.toNat_natCast,Aog _ _ hi])
  (fun i _ _=>Aa (fun h=>⟨by show(0:Int)≤(i:Int);omega,by
   have h':(!!decide ((i:Int) <(a.cells.length:Int)))=true:=h
   rw[nn] at h';exact of_decide_eq_true h'⟩) Ad)
 refine⟨Aa h1 Ad,?_⟩
 have hkn:k=a.cells.length:=by
  rcases Nat.lt_or_ge k a.cells.length with h|h
  ·exact absurd (hst h) (by decide)
  ·omega
 have hr:Mh (0,a,⟨0,0⟩)=((k:Int),a,Jf (a.cells.take k)):=hx
 show(Mh (0,a,⟨0,0⟩)).snd.snd=_
 rw[hr,hkn,List.take_length]
theorem Bak (a0:TRow) (hp:∀p∈Aah a0,p):CallOk Try.prog 70 [Ae .row a0] 0 [] 1 (Aib a0) 0 (Ah9 a0):=by
 have hb:Ao a0.cells.length:=hp _ (List.mem_cons_self ..)
 have h:=Bgn a0 (Ah7 a0 hb).1
 unfold XQ at h
 rw[(Ah7 a0 hb).2] at h
 exact h
def Ap2:List A→Nat→Objs→Option AU:=A5 [.t .row] 0 Aib Ah9 Aah
theorem A3y:Ev Try.prog 70 Ap2:=As (ks:=[.t .row]) Bak
noncomputable def Br1:=AQ 70 Ap2 Br0
theorem A7c:Cp Try.prog Br1:=Ak A3y A7b
abbrev B5:Type:=(List TCell)×Int×Int×TVec
def LG (x:B5):St:=⟨19,2,[(2,.own 1 0),(6,.sl .cell x.1),(7,.v (.int .i64 x.2.1)),(8,.v (.int .i64 x.2.2.1))],[(1,some (.box 31 [.v (.int .i64 x.2.2.2.a),.v (.int .i64 x.2.2.2.b)]))]⟩
def NI:St→Option B5
 |⟨19,2,[(2,.own 1 0),(6,.sl .cell z0),(7,.v (.int .i64 z1)),(8,.v (.int .i64 z2))],[(1,some (.box 31 [.v (.int .i64 z3),.v (.int .i64 z4)]))]⟩=>some (z0,z1,z2,⟨z3,z4⟩)
 |_=>none
theorem Aix:∀s x,NI s=some x→s=LG x:=fun s x h=>by
 unfold NI at h
 split at h
 ·cases h;rfl
 ·cases h
def X8:CU:=⟨2,2,[2,6,7,8],[],[(1,1)],[1],[],[1]⟩
def A1c:C9:=⟨[],[(1,1)],[2,6,7,8],[1]⟩
def Anc (a0:List TCell) (_a1:Int) (a2:Int) (a3:TVec):TVec:=TVec.mk (max (max (0:Int) a3.1) (KW (a0.getD a2.toNat (Ac TC.cell))).1) (max (max (0:Int) a3.2) (KW (a0.getD a2.toNat (Ac TC.cell))).2)
def Fx (x:B5):B5:=(x.1,x.2.1,IntKind.i64.wrap (x.2.2.1+(1:Int)),Anc x.1 x.2.1 x.2.2.1 x.2.2.2)
def Fw (x:B5):Cnd:=some (!!decide (x.2.2.1 <x.2.1))
def Tj (x:B5):List Prop:=[((!!decide (x.2.2.1 <x.2.1))=true→(0:Int)≤x.2.2.1∧x.2.2.1 <(↑x.1.length:Int)),((!!decide (x.2.2.1 <x.2.1))=true→(0:Int)≤(0:Int)∧(0:Int) <(↑(2:Nat):Int)),((!!decide (x.2.2.1 <x.2.1))=true→(0:Nat) <(2:Nat)),((!!decide (x.2.2.1 <x.2.1))=true→(0:Int)≤(0:Int)∧(0:Int) <(2:Int)),((!!decide (x.2.2.1 <x.2.1))=true→(0:Nat) <(2:Nat)),((!!decide (x.2.2.1 <x.2.1))=true→(0:Int)≤(0:Int)∧(0:Int) <(2:Int)),((!!decide (x.2.2.1 <x.2.1))=true→(0:Nat) <(2:Nat)),((!!decide (x.2.2.1 <x.2.1))=true→(0:Int)≤(0:Int)∧(0:Int) <(2:Int)),((!!decide (x.2.2.1 <x.2.1))=true→(0:Nat) <(2:Nat)),((!!decide (x.2.2.1 <x.2.1))=true→(0:Int)≤(1:Int)∧(1:Int) <(2:Int)),((!!decide (x.2.2.1 <x.2.1))=true→(1:Nat) <(2:Nat)),((!!decide (x.2.2.1 <x.2.1))=true→(0:Int)≤(1:Int)∧(1:Int) <(2:Int)),((!!decide (x.2.2.1 <x.2.1))=true→(1:Nat) <(2:Nat)),((!!decide (x.2.2.1 <x.2.1))=true→(0:Int)≤(1:Int)∧(1:Int) <(2:Int)),((!!decide (x.2.2.1 <x.2.1))=true→(1:Nat) <(2:Nat)),((!!decide (x.2.2.1 <x.2.1))=true→(0:Int)≤(1:Int)∧(1:Int) <(↑(2:Nat):Int)),((!!decide (x.2.2.1 <x.2.1))=true→(1:Nat) <(2:Nat)),((!!decide (x.2.2.1 <x.2.1))=true→(0:Int)≤(0:Int)∧(0:Int) <(2:Int)),((!!decide (x.2.2.1 <x.2.1))=true→(0:Nat) <(2:Nat)),((!!decide (x.2.2.1 <x.2.1))=true→(0:Int)≤(0:Int)∧(0:Int) <(2:Int)),((!!decide (x.2.2.1 <x.2.1))=true→(0:Nat) <(2:Nat)),((!!decide (x.2.2.1 <x.2.1))=true→(0:Int)≤(0:Int)∧(0:Int) <(2:Int)),((!!decide (x.2.2.1 <x.2.1))=true→(0:Nat) <(2:Nat)),((!!decide (x.2.2.1 <x.2.1))=true→(0:Int)≤(1:Int)∧(1:Int) <(2:Int)),((!!decide (x.2.2.1 <x.2.1))=true→(1:Nat) <(2:Nat)),((!!decide (x.2.2.1 <x.2.1))=true→(0:Int)≤(1:Int)∧(1:Int) <(2:Int)),((!!decide (x.2.2.1 <x.2.1))=true→(1:Nat) <(2:Nat)),((!!decide (x.2.2.1 <x.2.1))=true→(0:Int)≤(1:Int)∧(1:Int) <(2:Int)),((!!decide (x.2.2.1 <x.2.1))=true→(1:Nat) <(2:Nat))]
def IN (x:B5):List Prop:=[((!!decide (x.2.2.1 <x.2.1))=true→(0:Int)≤x.2.2.1∧x.2.2.1 <(↑x.1.length:Int))]
def QM (x:B5):Bb:=[(some 0,some (!decide (x.2.2.1 <x.2.1)),⟨19,2,[],[(1,some (.box 31 [.v (.int .i64 x.2.2.2.1),.v (.int .i64 x.2.2.2.2)]))]⟩)]
def Hx (x:B5):Nat:=(x.2.1 - x.2.2.1).toNat
def Mm (x:B5):B5:=AZ Fx Fw (Hx x) x
theorem At8 (a0:List TCell) (a1:Int) (a2:Int) (a3:TVec):Bl (Au Br1 L0) 9 (Af Try.prog 69 0) X8 (LG (a0,a1,a2,a3))=some (Tj (a0,a1,a2,a3),QM (a0,a1,a2,a3),Fw (a0,a1,a2,a3),LG (Fx (a0,a1,a2,a3))):=by kernel_rfl
theorem At9 (a0:List TCell) (a1:Int) (a2:Int) (a3:TVec) (hp:∀p∈IN (a0,a1,a2,a3),p):∀p∈Tj (a0,a1,a2,a3),p:=by
 have n0:=N0 hp
 have n1:((!!decide (a2 <a1))=true→(0:Int)≤(0:Int)∧(0:Int) <(↑(2:Nat):Int)):=by omega
 have n2:((!!decide (a2 <a1))=true→(0:Nat) <(2:Nat)):=by omega
 have n3:((!!decide (a2 <a1))=true→(0:Int)≤(0:Int)∧(0:Int) <(2:Int)):=by omega
 have n9:((!!decide (a2 <a1))=true→(0:Int)≤(1:Int)∧(1:Int) <(2:Int)):=by omega
 have n10:((!!decide (a2 <a1))=true→(1:Nat) <(2:Nat)):=by omega
 have n15:((!!decide (a2 <a1))=true→(0:Int)≤(1:Int)∧(1:Int) <(↑(2:Nat):Int)):=by omega
 exact(Aa n0 (Aa n1 (Aa n2 (Aa n3 (Aa n2 (Aa n3 (Aa n2 (Aa n3 (Aa n2 (Aa n9 (Aa n10 (Aa n9 (Aa n10 (Aa n9 (Aa n10 (Aa n15 (Aa n10 (Aa n3 (Aa n2 (Aa n3 (Aa n2 (Aa n3 (Aa n2 (Aa n9 (Aa n10 (Aa n9 (Aa n10 (Aa n9 (Aa n10 Ad)))))))))))))))))))))))))))))
noncomputable def Tk:=Hw (Au Br1 L0) (Af Try.prog 69 0) X8 A1c NI Hx Fx Fw IN QM
theorem Ane:∀s b ps outs,Tk s=some (b,ps,outs)→Wf s ⟨ps,outs,none⟩∧Bh (Au C0 L0) b s ps outs:=
 A9 (T:=LG) A7c Ay (u:=9) (by kernel_rfl) (by decide) (fun⟨a0,a1,a2,a3⟩=>At8 a0 a1 a2 a3) (fun⟨a0,a1,a2,a3⟩=>At9 a0 a1 a2 a3) Aix (fun _=>AH (n:=19) rfl) fun _ _=>rfl
noncomputable def X7:=Di 0 Tk L0
theorem Anb:G1 X7:=AS Ane Ay
def X6 (a0:TRow):TVec:=(Mm (a0.2,(↑a0.2.length:Int),(0:Int),TVec.mk (0:Int) (0:Int))).snd.snd.snd
def X9 (a0:TRow):A:=.v (.agg ⟨[.int .i64 ((X6 a0).a),.int .i64 ((X6 a0).b)]⟩)
def Aq2 (_a0:TRow):Objs:=[]
def Aiz (a0:TRow):List Prop:=[(AD Fx Fw IN (Hx (a0.2,(↑a0.2.length:Int),(0:Int),TVec.mk (0:Int) (0:Int))) (a0.2,(↑a0.2.length:Int),(0:Int),TVec.mk (0:Int) (0:Int)))]
theorem Ba3 (a0:TRow):Er (Au Br1 X7) 9 69 [Ae .row a0] 0 []=some (1,X9 a0,0,Aq2 a0,[(Af Try.prog (69:FuncId) (0:Nat)=Af Try.prog (69:FuncId) (0:Nat)),(AD Fx Fw IN (Hx (a0.2,(↑a0.2.length:Int),(0:Int),TVec.mk (0:Int) (0:Int))) (a0.2,(↑a0.2.length:Int),(0:Int),TVec.mk (0:Int) (0:Int)))]):=by kernel_rfl
theorem Bhc (a0:TRow) (hp:∀p∈Aiz a0,p):CallOk Try.prog 69 [Ae .row a0] 0 [] 1 (X9 a0) 0 (Aq2 a0):=by
 have n1:=N0 hp
 exact Az (Ap A7c Anb) (Ba3 a0) (Aa rfl (Aa n1 Ad))
def Ai0 (a0:TRow):A:=.v (.agg ⟨[.int .i64 (Jf a0.cells).a,.int .i64 (Jf a0.cells).b]⟩)
def Aiy (_a0:TRow):Objs:=[]
def Aa0 (a0:TRow):List Prop:=[Ao a0.cells.length]
theorem Aiw (a:TRow) (hb:Ao a.cells.length):(∀p∈Aiz a,p)∧X6 a=Jf a.cells:=by
 unfold Ao at hb
 obtain⟨h1,k,hk,hx,_,hst,_⟩:=Ij (fun i=>((a.2,(a.2.length:Int),(i:Int),Jf (a.cells.take i)):B5)) a.cells.length (fun _=>false) Fx Fw IN (Hx (a.2,(a.2.length:Int),0,⟨0,0⟩)) (a.2,(a.2.length:Int),0,⟨0,0⟩) rfl (by show a.cells.length≤((a.cells.length:Int) - 0).toNat;omega)
  (fun i _ _=>by
   show(!!decide ((i:Int) <(a.cells.length:Int)))=_
   rw[nn,Mp,Bool.not_false,Bool.and_true])
  (fun i hi _=>by
   show(a.2,(a.2.length:Int),IntKind.i64.wrap ((i:Int)+1),M3 (Jf (a.cells.take i)) (Ab5 (a.cells.getD ((i:Int)).toNat (Ac TC.cell))))=(a.2,(a.2.length:Int),((i+1:Nat):Int),Jf (a.cells.take (i+1)))
   rw[Eu (by omega),Int.toNat_natCast,Aog _ _ hi])
  (fun i _ _=>Aa (fun h=>⟨by show(0:Int)≤(i:Int);omega,by
   have h':(!!decide ((i:Int) <(a.cells.length:Int)))=true:=h
   rw[nn] at h';exact of_decide_eq_true h'⟩) Ad)
 refine⟨Aa h1 Ad,?_⟩
 have hkn:k=a.cells.length:=by
  rcases Nat.lt_or_ge k a.cells.length with h|h
  ·exact absurd (hst h) (by decide)
  ·omega
 have hr:Mm (a.2,(a.2.length:Int),0,⟨0,0⟩)=(a.2,(a.2.length:Int),(k:Int),Jf (a.cells.take k)):=hx
 show(Mm (a.2,(a.2.length:Int),0,⟨0,0⟩)).snd.snd.snd=_
 rw[hr,hkn,List.take_length]
theorem Ba2 (a0:TRow) (hp:∀p∈Aa0 a0,p):CallOk Try.prog 69 [Ae .row a0] 0 [] 1 (Ai0 a0) 0 (Aiy a0):=by
 have hb:Ao a0.cells.length:=hp _ (List.mem_cons_self ..)
 have h:=Bhc a0 (Aiw a0 hb).1
 unfold X9 at h
 rw[(Aiw a0 hb).2] at h
 exact h
def Aq3:List A→Nat→Objs→Option AU:=A5 [.t .row] 0 Ai0 Aiy Aa0
theorem A4e:Ev Try.prog 69 Aq3:=As (ks:=[.t .row]) Ba2
noncomputable def Br2:=AQ 69 Aq3 Br1
theorem A7d:Cp Try.prog Br2:=Ak A4e A7c
abbrev BY:Type:=(List TGroup)×Int×ByteArray×(List TCell)
def Lz (x:BY):St:=⟨22,4,[(0,.sl .group x.1),(5,.own 1 0),(6,.v (.int .i64 x.2.1))],[(1,some (.box 71 [.v (.string x.2.2.1),.sq 3])),(3,some (.arr 55 8 (.ty .cell x.2.2.2)))]⟩
def Ns:St→Option BY
 |⟨22,4,[(0,.sl .group z0),(5,.own 1 0),(6,.v (.int .i64 z1))],[(1,some (.box 71 [.v (.string z2),.sq 3])),(3,some (.arr 55 8 (.ty .cell z3)))]⟩=>some (z0,z1,z2,z3)
 |_=>none
theorem Ah1:∀s x,Ns s=some x→s=Lz x:=fun s x h=>by
 unfold Ns at h
 split at h
 ·cases h;rfl
 ·cases h
def XK:CU:=⟨3,4,[0,5,6],[],[(1,1),(5,3)],[1,5],[],[1,3]⟩
def Azr:C9:=⟨[.nilB 1 1 55 .cell],[(1,1),(2,3)],[0,5,6],[1,2]⟩
def QA (a0:List TGroup) (a1:Int) (_a2:ByteArray) (_a3:List TCell):Bool:=!!decide (a1 <(↑a0.length:Int))
def Al4 (_a0:List TGroup) (_a1:Int) (_a2:ByteArray) (a3:List TCell):List TCell:=a3++[TCell.mk (TStamp.mk (0:Int) (0:Int)) (TVec.mk (0:Int) (0:Int)) false (ByteArray.mk #[]) (TVec.mk (0:Int) (0:Int))]
def Fs (x:BY):BY:=(x.1,IntKind.i64.wrap (x.2.1+(1:Int)),x.2.2.1,Al4 x.1 x.2.1 x.2.2.1 x.2.2.2)
def Fr (x:BY):Cnd:=some ((QA x.1 x.2.1 x.2.2.1 x.2.2.2))
def Mf (x:BY):List Prop:=[((QA x.1 x.2.1 x.2.2.1 x.2.2.2)=true→Ag (x.2.2.2.length+(1:Nat)))]
abbrev IH:BY→List Prop:=Mf
def QB (x:BY):Bb:=[(some 0,some (!decide (x.2.1 <(↑x.1.length:Int))),⟨22,4,[],[(1,some (.box 71 [.v (.string x.2.2.1),.sq 3])),(3,some (.arr 55 8 (.ty .cell x.2.2.2)))]⟩)]
def Hs (x:BY):Nat:=((↑x.1.length:Int) - x.2.1).toNat
def H3 (x:BY):BY:=AZ Fs Fr (Hs x) x
theorem As5 (a0:List TGroup) (a1:Int) (a2:ByteArray) (a3:List TCell):Bl (Au Br2 L0) 9 (Af Try.prog 130 0) XK (Lz (a0,a1,a2,a3))=some (Mf (a0,a1,a2,a3),QB (a0,a1,a2,a3),Fr (a0,a1,a2,a3),Lz (Fs (a0,a1,a2,a3))):=by kernel_rfl
theorem As6 (a0:List TGroup) (a1:Int) (a2:ByteArray) (a3:List TCell) (hp:∀p∈IH (a0,a1,a2,a3),p):∀p∈Mf (a0,a1,a2,a3),p:=hp
noncomputable def S3:=Hw (Au Br2 L0) (Af Try.prog 130 0) XK Azr Ns Hs Fs Fr IH QB
theorem Al5:∀s b ps outs,S3 s=some (b,ps,outs)→Wf s ⟨ps,outs,none⟩∧Bh (Au C0 L0) b s ps outs:=
 A9 (T:=Lz) A7d Ay (u:=9) (by kernel_rfl) (by decide) (fun⟨a0,a1,a2,a3⟩=>As5 a0 a1 a2 a3) (fun⟨a0,a1,a2,a3⟩=>As6 a0 a1 a2 a3) Ah1 (fun _=>AH (n:=22) rfl) fun _ _=>rfl
noncomputable def XJ:=Di 0 S3 L0
theorem Al3:G1 XJ:=AS Al5 Ay
def Apr (a0:List TGroup) (a1:ByteArray):ByteArray:=(H3 (a0,(0:Int),a1,[])).snd.snd.fst
def Aps (a0:List TGroup) (a1:ByteArray):List TCell:=(H3 (a0,(0:Int),a1,[])).snd.snd.snd
def XM (a0:List TGroup) (a1:ByteArray):A:=.agg [.v (.string (Apr a0 a1)),.sq 0]
def XL (a0:List TGroup) (a1:ByteArray):Objs:=[(0,some (.arr 55 8 (.ty .cell (Aps a0 a1))))]
def Ah3 (a0:List TGroup) (a1:ByteArray):List Prop:=[(AD Fs Fr IH (Hs (a0,(0:Int),a1,[])) (a0,(0:Int),a1,[]))]
theorem Bah (a0:List TGroup) (a1:ByteArray):Er (Au Br2 XJ) 9 130 [.sl .group a0,Ae .str a1] 0 []=some (1,XM a0 a1,1,XL a0 a1,[(Af Try.prog (130:FuncId) (0:Nat)=Af Try.prog (130:FuncId) (0:Nat)),(AD Fs Fr IH (Hs (a0,(0:Int),a1,[])) (a0,(0:Int),a1,[]))]):=by kernel_rfl
theorem Bgg (a0:List TGroup) (a1:ByteArray) (hp:∀p∈Ah3 a0 a1,p):CallOk Try.prog 130 [.sl .group a0,Ae .str a1] 0 [] 1 (XM a0 a1) 1 (XL a0 a1):=by
 have n1:=N0 hp
 exact Az (Ap A7d Al3) (Bah a0 a1) (Aa rfl (Aa n1 Ad))
def Ah4 (_a0:List TGroup) (a1:ByteArray):A:=.agg [.v (.string a1),.sq 0]
def Ah2 (a0:List TGroup) (_a1:ByteArray):Objs:=[(0,some (.arr 55 8 (.ty .cell (List.replicate a0.length zeroC))))]
def Aac (a0:List TGroup) (_a1:ByteArray):List Prop:=[Ag a0.length]
theorem Bag (l:List TGroup) (k:ByteArray) (hb:Ag l.length):(∀p∈Ah3 l k,p)∧Apr l k=k∧Aps l k=List.replicate l.length zeroC:=by
 unfold Ag at hb
 obtain⟨h1,n,hn,hx,_,hst,_⟩:=Ij (fun i=>((l,(i:Int),k,List.replicate i zeroC):BY)) l.length (fun _=>false) Fs Fr IH (Hs (l,0,k,[])) (l,0,k,[]) rfl (by show l.length≤((l.length:Int) - 0).toNat;omega)
  (fun i _ _=>by
   show(!!decide ((i:Int) <(l.length:Int)))=_
   rw[nn,Mp,Bool.not_false,Bool.and_true])
  (fun i hi _=>by
   show(l,IntKind.i64.wrap ((i:Int)+1),k,List.replicate i zeroC++[zeroC])=(l,((i+1:Nat):Int),k,List.replicate (i+1) zeroC)
   rw[Eu (by omega),List.replicate_succ'])
  (fun i hi _=>Aa (fun h=>by
   have h':(!!decide ((i:Int) <(l.length:Int)))=true:=h
   rw[nn] at h'
   have:=of_decide_eq_true h'
   show Ag ((List.replicate i zeroC).length+1)
   rw[List.length_replicate];unfold Ag;omega) Ad)
 have hkn:n=l.length:=by
  rcases Nat.lt_or_ge n l.length with h|h
  ·exact absurd (hst h) (by decide)
  ·omega
 have hr:H3 (l,0,k,[])=(l,(n:Int),k,List.replicate n zeroC):=hx
 refine⟨Aa h1 Ad,?_,?_⟩
 ·show(H3 (l,0,k,[])).snd.snd.fst=_
  rw[hr]
 ·show(H3 (l,0,k,[])).snd.snd.snd=_
  rw[hr,hkn]
theorem Baf (a0:List TGroup) (a1:ByteArray) (hp:∀p∈Aac a0 a1,p):CallOk Try.prog 130 [.sl .group a0,Ae .str a1] 0 [] 1 (Ah4 a0 a1) 1 (Ah2 a0 a1):=by
 have hb:Ag a0.length:=hp _ (List.mem_cons_self ..)
 obtain⟨e1,e2,e3⟩:=Bag a0 a1 hb
 have h:=Bgg a0 a1 e1
 unfold XM XL at h
 rw[e2,e3] at h
 exact h
def Apt:List A→Nat→Objs→Option AU:=A5 [.l .group,.t .str] 1 Ah4 Ah2 Aac
theorem A3v:Ev Try.prog 130 Apt:=As (ks:=[.l .group,.t .str]) Baf
noncomputable def B1h:=AQ 130 Apt Br2
theorem Bmk:Cp Try.prog B1h:=Ak A3v A7d
def KG (_a0:List TGroup) (a1:ByteArray):Bool:=Sl a1 !=(0:Int)
def KF (a0:List TGroup) (_a1:ByteArray):Bool:=AP a0 !=(0:Int)
def Amd (a0:List TGroup) (a1:ByteArray):ByteArray:=bif(KF a0 a1) then ByteArray.mk #[] else bif(KG a0 a1) then ByteArray.mk #[] else a1
def Ame (a0:List TGroup) (a1:ByteArray):Int:=bif(KF a0 a1) then AP a0 else bif(KG a0 a1) then Sl a1 else(0:Int)
def Amf (a0:List TGroup) (a1:ByteArray):List TCell:=bif(KF a0 a1) then[] else bif(KG a0 a1) then[] else List.replicate a0.length zeroC
def Amh (a0:List TGroup) (a1:ByteArray):A:=.tup [.agg [.v (.string (Amd a0 a1)),.sq 0],.v (.int .i64 (Ame a0 a1))]
def Amg (a0:List TGroup) (a1:ByteArray):Objs:=[(0,some (.arr 55 8 (.ty .cell (Amf a0 a1))))]
def Az4 (a0:List TGroup) (a1:ByteArray):List Prop:=[(∀(g:TGroup),g∈a0→Ao g.1.size),((!(KF a0 a1))=true→(!(KG a0 a1))=true→Ag a0.length)]
theorem Bkq (a0:List TGroup) (a1:ByteArray):Er (Au B1h L0) 9 63 [.sl .group a0,Ae .str a1] 0 []=some (1,Amh a0 a1,1,Amg a0 a1,Az4 a0 a1):=by kernel_rfl
theorem Bp2 (a0:List TGroup) (a1:ByteArray) (hp:∀p∈Az4 a0 a1,p):CallOk Try.prog 63 [.sl .group a0,Ae .str a1] 0 [] 1 (Amh a0 a1) 1 (Amg a0 a1):=Az (Ap Bmk Ay) (Bkq a0 a1) hp
def Az5 (a0:List TGroup) (a1:ByteArray):A:=.tup [.agg [.v (.string (Ahl a0 a1).key),.sq 0],.v (.int .i64 (VB a0 a1))]
def Az3 (a0:List TGroup) (a1:ByteArray):Objs:=[(0,some (.arr 55 8 (.ty .cell (Ahl a0 a1).cells)))]
def Ap3 (a0:List TGroup) (_a1:ByteArray):List Prop:=[∀g∈a0,Ao g.name.size]
theorem Bkp (a0:List TGroup) (a1:ByteArray) (hp:∀p∈Ap3 a0 a1,p):CallOk Try.prog 63 [.sl .group a0,Ae .str a1] 0 [] 1 (Az5 a0 a1) 1 (Az3 a0 a1):=by
 have hb:∀g∈a0,Ao g.name.size:=hp _ (List.mem_cons_self ..)
 have h:=Bp2 a0 a1 (Aa hb (Aa (fun h1 _=>by
  have h1':AP a0=0:=by
   have:(!(AP a0 !=0))=true:=h1
   simpa using this
  have:=(G0 h1').2
  unfold Ag;omega) Ad))
 have e1:Ame a0 a1=VB a0 a1:=by
  unfold Ame KF KG VB
  cases AP a0 !=0 with
  |true=>rfl
  |false=>
   rw[cond_false,cond_false]
   cases hk:Sl a1 !=0 with
   |true=>rfl
   |false=>rw[cond_false];exact(by simpa using hk:Sl a1=0).symm
 have e0:Amd a0 a1=(Ahl a0 a1).key:=by
  unfold Amd KF KG Ahl VB
  cases hg:AP a0 !=0 with
  |true=>simp only[cond_true,hg]
  |false=>rw[cond_false,cond_false]
 have e2:Amf a0 a1=(Ahl a0 a1).cells:=by
  unfold Amf KF KG Ahl VB
  cases hg:AP a0 !=0 with
  |true=>simp only[cond_true,hg]
  |false=>rw[cond_false,cond_false]
 unfold Amh Amg at h
 rw[e0,e1,e2] at h
 exact h
def A6d:List A→Nat→Objs→Option AU:=A5 [.l .group,.t .str] 1 Az5 Az3 Ap3
theorem Bgo:Ev Try.prog 63 A6d:=As (ks:=[.l .group,.t .str]) Bkp
noncomputable def B1i:=AQ 63 A6d B1h
theorem Bml:Cp Try.prog B1i:=Ak Bgo Bmk
def PH (a0:List TGroup) (_a1:ByteArray):List TCell:=List.replicate (↑a0.length:Int).toNat (Ac TC.cell)
def PG (a0:List TGroup) (a1:ByteArray):Bool:=Ai a0 (TRow.mk a1 (PH a0 a1)) !=(0:Int)
def Anf (a0:List TGroup) (a1:ByteArray):ByteArray:=bif(PG a0 a1) then ByteArray.mk #[] else a1
def Ang (a0:List TGroup) (a1:ByteArray):Int:=bif(PG a0 a1) then Ai a0 (TRow.mk a1 (PH a0 a1)) else(0:Int)
def Anh (a0:List TGroup) (a1:ByteArray):List TCell:=bif(PG a0 a1) then[] else(PH a0 a1)
def Anj (a0:List TGroup) (a1:ByteArray):A:=.tup [.agg [.v (.string (Anf a0 a1)),.sq 0],.v (.int .i64 (Ang a0 a1))]
def Ani (a0:List TGroup) (a1:ByteArray):Objs:=[(0,some (.arr 55 8 (.ty .cell (Anh a0 a1))))]
def A1e (a0:List TGroup) (_a1:ByteArray):List Prop:=[((0:Int)≤(↑a0.length:Int)∧(↑a0.length:Int)≤(↑a0.length:Int)∧(↑a0.length:Int)≤(549755813888:Int))]
theorem Bk8 (a0:List TGroup) (a1:ByteArray):Er (Au B1i L0) 9 62 [.sl .group a0,Ae .str a1] 0 []=some (1,Anj a0 a1,1,Ani a0 a1,A1e a0 a1):=by kernel_rfl
theorem Bp9 (a0:List TGroup) (a1:ByteArray) (hp:∀p∈A1e a0 a1,p):CallOk Try.prog 62 [.sl .group a0,Ae .str a1] 0 [] 1 (Anj a0 a1) 1 (Ani a0 a1):=Az (Ap Bml Ay) (Bk8 a0 a1) hp
def A1f (a0:List TGroup) (a1:ByteArray):A:=.tup [.agg [.v (.string (Ahl a0 a1).key),.sq 0],.v (.int .i64 (VB a0 a1))]
def A1d (a0:List TGroup) (a1:ByteArray):Objs:=[(0,some (.arr 55 8 (.ty .cell (Ahl a0 a1).cells)))]
def Aq4 (a0:List TGroup) (_a1:ByteArray):List Prop:=[Ag a0.length]
theorem Awi:∀(l:List TGroup) (seen:List ByteArray),Ra seen l=0→∀g∈l,O8 g.policy=true
 | [],_,_,g,hg=>by cases hg
 | x::r,seen,h,g,hg=>by
  unfold Ra at h
  cases h1:(Il x.name&&O8 x.policy) with
  |false=>rw[h1] at h;cases h
  | true=>
   rw[h1] at h
   cases h2:seen.any (fun s=>s==x.name) with
   |true=>rw[h2] at h;cases h
   |false=>
    rw[h2] at h
    rcases List.mem_cons.1 hg with rfl|hg
    ·exact(Bool.and_eq_true_iff.1 h1).2
    ·exact Awi r _ h g hg
theorem Bpf {l:List TGroup} (h:AP l=0):∀g∈l,O8 g.policy=true:=by
 have h4:=G0 h
 unfold AP at h
 rw[show(l.length==0)=false by simpa using(by omega:l.length≠0),decide_eq_false (show ¬4 <l.length by omega)] at h
 exact Awi l [] h
theorem Bi7 {p:Int} (h:O8 p=true):Bo p zeroC=true:=by
 unfold O8 at h
 rcases(by simpa using h:p=1∨p=2) with rfl|rfl<;>rfl
theorem Qa (l:List TGroup) (k:ByteArray):Ai l ⟨k,List.replicate l.length zeroC⟩=VB l k:=by
 unfold Ai VB Sl
 cases h:AP l !=0 with
 |true=>rfl
 | false=>
  rw[cond_false,cond_false]
  cases k.size==0 with
  |true=>rfl
  | false=>
   rw[cond_false,cond_false]
   cases decide (32 <k.size) with
   |true=>rfl
   | false=>
    rw[cond_false,cond_false]
    have hl:((TRow.mk k (List.replicate l.length zeroC)).cells.length !=l.length)=false:=by simp
    rw[hl,cond_false]
    have ha:(l.zip (TRow.mk k (List.replicate l.length zeroC)).cells).all (fun x=>Bo x.1.policy x.2)=true:=by
     rw[List.all_eq_true]
     rintro⟨g,c⟩ hx
     have h1:=List.of_mem_zip hx
     have h2:c=zeroC:=List.eq_of_mem_replicate h1.2
     subst h2
     exact Bi7 (Bpf (by simpa using h) g h1.1)
    rw[ha]
    rfl
theorem Bk7 (a0:List TGroup) (a1:ByteArray) (hp:∀p∈Aq4 a0 a1,p):CallOk Try.prog 62 [.sl .group a0,Ae .str a1] 0 [] 1 (A1f a0 a1) 1 (A1d a0 a1):=by
 have hb:Ag a0.length:=hp _ (List.mem_cons_self ..)
 unfold Ag at hb
 have h:=Bp9 a0 a1 (Aa ⟨by omega,Int.le_refl _,by omega⟩ Ad)
 have ek:PH a0 a1=List.replicate a0.length zeroC:=by unfold PH;rw[Int.toNat_natCast];rfl
 have k0:PG a0 a1=(VB a0 a1 !=0):=by
  unfold PG
  rw[ek,Qa]
 have e1:Ang a0 a1=VB a0 a1:=by
  unfold Ang
  rw[k0,ek,Qa]
  cases hk:VB a0 a1 !=0 with
  |true=>rfl
  |false=>rw[cond_false];exact(by simpa using hk:VB a0 a1=0).symm
 have e0:Anf a0 a1=(Ahl a0 a1).key:=by
  unfold Anf
  rw[k0]
  rfl
 have e2:Anh a0 a1=(Ahl a0 a1).cells:=by
  unfold Anh
  rw[k0,ek]
  rfl
 unfold Anj Ani at h
 rw[e0,e1,e2] at h
 exact h
def A6f:List A→Nat→Objs→Option AU:=A5 [.l .group,.t .str] 1 A1f A1d Aq4
theorem Bhd:Ev Try.prog 62 A6f:=As (ks:=[.l .group,.t .str]) Bk7
noncomputable def Bzz:=AQ 62 A6f B1i
theorem Brz:Cp Try.prog Bzz:=Ak Bhd Bml
noncomputable def Ck:=Bzz
theorem Bz0:Cp Try.prog Ck:=Brz
end Go.Proofs.Yteebobbhhgmeiaa
namespace Go.Proofs.Yteebobbhhgmeiaa
open Go.RowKit
def Bdz (a b:TVec):Bool:=decide (b.a≤a.a)&&decide (b.b≤a.b)
def Tm (p:Int) (c:TCell):Bool:=Bo p c&&B9 c&&!c.gone&&Bdz c.vec c.dead
def Bhn (p:Int) (c:TCell):ByteArray:=bif Tm p c then c.value else⟨#[]⟩
def B8 (l:List TGroup) (cs:List TCell):Nat→List TField
 |0=>[]
 |i+1=>bif Tm (l.getD i (Ac TC.group)).policy (cs.getD i (Ac TC.cell)) then B8 l cs i++[⟨(i:Int),Bhn (l.getD i (Ac TC.group)).policy (cs.getD i (Ac TC.cell))⟩] else B8 l cs i
def Fc (l:List TGroup) (r:TRow):Bool:=Ai l r==0&&!((B8 l r.cells l.length).length==0)
def LO (l:List TGroup) (r:TRow):ByteArray:=bif Fc l r then r.key else⟨#[]⟩
def QS (l:List TGroup) (r:TRow):List TField:=bif Fc l r then B8 l r.cells l.length else[]
def Av9:List TField→List TField→Bool
 | [],[]=>true
 |x::xs,y::ys=>x.group==y.group&&x.value==y.value&&Av9 xs ys
 |_,_=>false
def Ars (a b:TView):Bool:=a.key==b.key&&Av9 a.fields b.fields
def Qz (a0:Int) (a1:TCell):Bool:=!Pj a0 a1||!J8 a1||a1.3||!Ub a1.2 a1.5
def Pl (a0:Int) (a1:TCell):ByteArray:=bif(Qz a0 a1) then ByteArray.mk #[] else a1.4
def Jl (a0:Int) (a1:TCell):Bool:=bif(Qz a0 a1) then false else true
def Ac9 (a0:Int) (a1:TCell):A:=.v (.tuple ⟨[.string (Pl a0 a1),.bool (Jl a0 a1)]⟩)
def Ac8 (_a0:Int) (_a1:TCell):Objs:=[]
def XE (_a0:Int) (_a1:TCell):List Prop:=[]
theorem Bf8 (a0:Int) (a1:TCell):Er (Au Ck L0) 9 41 [Ae .i64 a0,Ae .cell a1] 0 []=some (1,Ac9 a0 a1,0,Ac8 a0 a1,XE a0 a1):=by kernel_rfl
theorem Bkc (a0:Int) (a1:TCell) (hp:∀p∈XE a0 a1,p):CallOk Try.prog 41 [Ae .i64 a0,Ae .cell a1] 0 [] 1 (Ac9 a0 a1) 0 (Ac8 a0 a1):=Az (Ap Bz0 Ay) (Bf8 a0 a1) hp
def Azf:List A→Nat→Objs→Option AU:=A5 [.t .i64,.t .cell] 0 Ac9 Ac8 XE
theorem Baa:Ev Try.prog 41 Azf:=As (ks:=[.t .i64,.t .cell]) Bkc
noncomputable def Br3:=AQ 41 Azf Ck
theorem A7e:Cp Try.prog Br3:=Ak Baa Bz0
theorem Bf7 (p:Int) (c:TCell):Pl p c=Bhn p c∧Jl p c=Tm p c:=by
 have hk:Qz p c=!Tm p c:=by
  unfold Qz Tm Bdz Ub
  rw[Aph,XF]
  show(!Bo p c||!B9 c||c.gone||!(decide (c.vec.a≥c.dead.a)&&decide (c.vec.b≥c.dead.b)))=_
  cases Bo p c<;>cases B9 c<;>cases c.gone<;>rfl
 unfold Pl Jl Bhn
 rw[hk]
 cases Tm p c<;>exact⟨rfl,rfl⟩
theorem Ae7 (p:Int) (c:TCell):MN p c=Bhn p c∧Hi p c=Tm p c:=by
 have hm:∀x y:Int,(min x y==y)=decide (y≤x):=fun x y=>by
  rw[Bool.eq_iff_iff,beq_iff_eq,decide_eq_true_eq];omega
 have hk:NW p c=!Tm p c:=by
  unfold NW Tm Bdz JW
  rw[Iv,Ke]
  have h1:((Jw c.2 c.5).1==c.5.1)=decide (c.dead.a≤c.vec.a):=hm _ _
  have h2:((Jw c.2 c.5).2==c.5.2)=decide (c.dead.b≤c.vec.b):=hm _ _
  rw[h1,h2]
  show(!Bo p c||!B9 c||c.gone||!(decide (c.dead.a≤c.vec.a)&&decide (c.dead.b≤c.vec.b)))=_
  cases Bo p c<;>cases B9 c<;>cases c.gone<;>rfl
 unfold MN Hi Bhn
 rw[hk]
 cases Tm p c<;>exact⟨rfl,rfl⟩
theorem AM {l:List TGroup} {r:TRow} (h:Ai l r=0):AP l=0∧r.cells.length=l.length∧r.key.size≠0∧r.key.size≤32∧(l.zip r.cells).all (fun x=>Bo x.1.policy x.2)=true:=by
 unfold Ai at h
 cases h1:AP l !=0 with
 |true=>rw[h1,cond_true] at h;rw[h] at h1;cases h1
 | false=>
  rw[h1,cond_false] at h
  cases h2:r.key.size==0 with
  |true=>rw[h2] at h;cases h
  | false=>
   rw[h2,cond_false] at h
   cases h3:decide (32 <r.key.size) with
   |true=>rw[h3] at h;cases h
   | false=>
    rw[h3,cond_false] at h
    cases h4:r.cells.length !=l.length with
    |true=>rw[h4] at h;cases h
    | false=>
     rw[h4,cond_false] at h
     cases h5:(l.zip r.cells).all (fun x=>Bo x.1.policy x.2) with
     |false=>rw[h5] at h;cases h
     |true=>
      have:=of_decide_eq_false h3
      exact⟨by simpa using h1,by simpa using h4,by simpa using h2,by omega,rfl⟩
theorem P5 (l:List TGroup) (cs:List TCell):∀i,(B8 l cs i).length≤i
 |0=>Nat.le_refl _
 |i+1=>by
  have:=P5 l cs i
  unfold B8
  cases Tm (l.getD i (Ac TC.group)).policy (cs.getD i (Ac TC.cell)) with
  |true=>rw[cond_true,List.length_append];simp;omega
  |false=>rw[cond_false];omega
abbrev CP:Type:=(List TGroup)×Int×TRow×ByteArray×(List TField)
def MD (x:CP):St:=⟨53,5,[(0,.sl .group x.1),(3,.own 0 0),(6,.own 2 0),(7,.v (.int .i64 x.2.1))],[(0,some (.box 71 [.v (.string x.2.2.1.key),.sl .cell x.2.2.1.cells])),(2,some (.box 94 [.v (.string x.2.2.2.1),.sq 4])),(4,some (.arr 142 2 (.ty .field x.2.2.2.2)))]⟩
def Pt:St→Option CP
 |⟨53,5,[(0,.sl .group z0),(3,.own 0 0),(6,.own 2 0),(7,.v (.int .i64 z1))],[(0,some (.box 71 [.v (.string z2),.sl .cell z3])),(2,some (.box 94 [.v (.string z4),.sq 4])),(4,some (.arr 142 2 (.ty .field z5)))]⟩=>some (z0,z1,⟨z2,z3⟩,z4,z5)
 |_=>none
theorem Amj:∀s x,Pt s=some x→s=MD x:=fun s x h=>by
 unfold Pt at h
 split at h
 ·cases h;rfl
 ·cases h
def Aal:CU:=⟨4,5,[0,3,6,7],[],[(0,0),(2,2),(7,4)],[0,2,7],[],[0,2,4]⟩
def A30:C9:=⟨[.nilB 2 1 142 .field],[(0,0),(2,2),(3,4)],[0,3,6,7],[0,2,3]⟩
def JP (a0:List TGroup) (a1:Int) (_a2:TRow) (_a3:ByteArray) (_a4:List TField):Bool:=!!decide (a1 <(↑a0.length:Int))
def Atm (a0:List TGroup) (a1:Int) (a2:TRow) (a3:ByteArray) (_a4:List TField):ByteArray:=bif Jl (a0.getD a1.toNat (Ac TC.group)).2 (a2.2.getD a1.toNat (Ac TC.cell)) then a3 else a3
def Atn (a0:List TGroup) (a1:Int) (a2:TRow) (_a3:ByteArray) (a4:List TField):List TField:=bif Jl (a0.getD a1.toNat (Ac TC.group)).2 (a2.2.getD a1.toNat (Ac TC.cell)) then a4++[TField.mk a1 (Pl (a0.getD a1.toNat (Ac TC.group)).2 (a2.2.getD a1.toNat (Ac TC.cell)))] else a4
def ES (x:CP):CP:=(x.1,IntKind.i64.wrap (x.2.1+(1:Int)),x.2.2.1,Atm x.1 x.2.1 x.2.2.1 x.2.2.2.1 x.2.2.2.2,Atn x.1 x.2.1 x.2.2.1 x.2.2.2.1 x.2.2.2.2)
def ER (x:CP):Cnd:=some ((JP x.1 x.2.1 x.2.2.1 x.2.2.2.1 x.2.2.2.2))
def Ny (x:CP):List Prop:=[((JP x.1 x.2.1 x.2.2.1 x.2.2.2.1 x.2.2.2.2)=true→(0:Int)≤x.2.1∧x.2.1 <(↑x.1.length:Int)),((JP x.1 x.2.1 x.2.2.1 x.2.2.2.1 x.2.2.2.2)=true→(0:Int)≤x.2.1∧x.2.1 <(↑x.2.2.1.2.length:Int)),((JP x.1 x.2.1 x.2.2.1 x.2.2.2.1 x.2.2.2.2)=true→Jl (x.1.getD x.2.1.toNat (Ac TC.group)).2 (x.2.2.1.2.getD x.2.1.toNat (Ac TC.cell))=true→Ag (x.2.2.2.2.length+(1:Nat)))]
abbrev H9:CP→List Prop:=Ny
def S9 (x:CP):Bb:=[(some 0,some (!decide (x.2.1 <(↑x.1.length:Int))),⟨53,5,[],[(0,some (.box 71 [.v (.string x.2.2.1.1),.sl .cell x.2.2.1.2])),(2,some (.box 94 [.v (.string x.2.2.2.1),.sq 4])),(4,some (.arr 142 2 (.ty .field x.2.2.2.2)))]⟩)]
def Gw (x:CP):Nat:=((↑x.1.length:Int) - x.2.1).toNat
def Kj (x:CP):CP:=AZ ES ER (Gw x) x
theorem A0b (a0:List TGroup) (a1:Int) (a2:TRow) (a3:ByteArray) (a4:List TField):Bl (Au Br3 L0) 9 (Af Try.prog 64 0) Aal (MD (a0,a1,a2,a3,a4))=some (Ny (a0,a1,a2,a3,a4),S9 (a0,a1,a2,a3,a4),ER (a0,a1,a2,a3,a4),MD (ES (a0,a1,a2,a3,a4))):=by kernel_rfl
theorem A0c (a0:List TGroup) (a1:Int) (a2:TRow) (a3:ByteArray) (a4:List TField) (hp:∀p∈H9 (a0,a1,a2,a3,a4),p):∀p∈Ny (a0,a1,a2,a3,a4),p:=hp
noncomputable def Vj:=Hw (Au Br3 L0) (Af Try.prog 64 0) Aal A30 Pt Gw ES ER H9 S9
theorem Ato:∀s b ps outs,Vj s=some (b,ps,outs)→Wf s ⟨ps,outs,none⟩∧Bh (Au C0 L0) b s ps outs:=
 A9 (T:=MD) A7e Ay (u:=9) (by kernel_rfl) (by decide) (fun⟨a0,a1,a2,a3,a4⟩=>A0b a0 a1 a2 a3 a4) (fun⟨a0,a1,a2,a3,a4⟩=>A0c a0 a1 a2 a3 a4) Amj (fun _=>AH (n:=53) rfl) fun _ _=>rfl
noncomputable def Aak:=Di 0 Vj L0
theorem Atl:G1 Aak:=AS Ato Ay
def Iq (a0:List TGroup) (a1:TRow):Bool:=Ai a0 a1 !=(0:Int)
def QG (a0:List TGroup) (a1:TRow):Bool:=(↑(Kj (a0,(0:Int),a1,a1.1,[])).snd.snd.snd.snd.length:Int)==(0:Int)
def Adt (a0:List TGroup) (a1:TRow):ByteArray:=bif(Iq a0 a1) then ByteArray.mk #[] else bif(QG a0 a1) then ByteArray.mk #[] else(Kj (a0,(0:Int),a1,a1.1,[])).snd.snd.snd.fst
def Adu (a0:List TGroup) (a1:TRow):Bool:=bif(Iq a0 a1) then false else bif(QG a0 a1) then false else true
def Adv (a0:List TGroup) (a1:TRow):List TField:=bif(Iq a0 a1) then[] else bif(QG a0 a1) then[] else(Kj (a0,(0:Int),a1,a1.1,[])).snd.snd.snd.snd
def Adx (a0:List TGroup) (a1:TRow):A:=.tup [.agg [.v (.string (Adt a0 a1)),.sq 0],.v (.bool (Adu a0 a1))]
def Adw (a0:List TGroup) (a1:TRow):Objs:=[(0,some (.arr 142 2 (.ty .field (Adv a0 a1))))]
def Bgt (a0:List TGroup) (a1:TRow):List Prop:=[(∀(g:TGroup),g∈a0→Ao g.1.size),((!(Iq a0 a1))=true→AD ES ER H9 (Gw (a0,(0:Int),a1,a1.1,[])) (a0,(0:Int),a1,a1.1,[]))]
theorem Bgs (a0:List TGroup) (a1:TRow):Er (Au Br3 Aak) 9 64 [.sl .group a0,Ae .row a1] 0 []=some (1,Adx a0 a1,1,Adw a0 a1,[(∀(g:TGroup),g∈a0→Ao g.1.size),((!(Iq a0 a1))=true→Af Try.prog (64:FuncId) (0:Nat)=Af Try.prog (64:FuncId) (0:Nat)),((!(Iq a0 a1))=true→AD ES ER H9 (Gw (a0,(0:Int),a1,a1.1,[])) (a0,(0:Int),a1,a1.1,[]))]):=by kernel_rfl
theorem Bks (a0:List TGroup) (a1:TRow) (hp:∀p∈Bgt a0 a1,p):CallOk Try.prog 64 [.sl .group a0,Ae .row a1] 0 [] 1 (Adx a0 a1) 1 (Adw a0 a1):=by
 have n0:=N0 hp
 have n1:((!(Iq a0 a1))=true→Af Try.prog (64:FuncId) (0:Nat)=Af Try.prog (64:FuncId) (0:Nat)):=by intros;rfl
 have n2:=N0 (N1 hp)
 exact Az (Ap A7e Atl) (Bgs a0 a1) (Aa n0 (Aa n1 (Aa n2 Ad)))
def Ap9 (a0:List TGroup) (a1:TRow):A:=.tup [.agg [.v (.string (LO a0 a1)),.sq 0],.v (.bool (Fc a0 a1))]
def Ap8 (a0:List TGroup) (a1:TRow):Objs:=[(0,some (.arr 142 2 (.ty .field (QS a0 a1))))]
def Aie (a0:List TGroup) (_a1:TRow):List Prop:=[∀g∈a0,Ao g.name.size]
theorem Aam (l:List TGroup) (r:TRow) (h0:Ai l r=0):
  AD ES ER H9 (Gw (l,0,r,r.1,[])) (l,0,r,r.1,[])∧Kj (l,0,r,r.1,[])=(l,(l.length:Int),r,r.1,B8 l r.cells l.length):=by
 obtain⟨hp,hlen,_⟩:=AM h0
 have hl4:=(G0 hp).2
 obtain⟨h1,k,hk,hx,_,hst,_⟩:=Ij (fun i=>((l,(i:Int),r,r.1,B8 l r.cells i):CP)) l.length (fun _=>false) ES ER H9 (Gw (l,0,r,r.1,[])) (l,0,r,r.1,[]) rfl (by show l.length≤((l.length:Int) - 0).toNat;omega)
  (fun i _ _=>by
   show(!!decide ((i:Int) <(l.length:Int)))=_
   rw[nn,Mp,Bool.not_false,Bool.and_true])
  (fun i hi _=>by
   have hs:=Bf7 (l.getD i (Ac TC.group)).2 (r.2.getD i (Ac TC.cell))
   show(l,IntKind.i64.wrap ((i:Int)+1),r,(bif Jl (l.getD ((i:Int)).toNat (Ac TC.group)).2 (r.2.getD ((i:Int)).toNat (Ac TC.cell)) then r.1 else r.1),(bif Jl (l.getD ((i:Int)).toNat (Ac TC.group)).2 (r.2.getD ((i:Int)).toNat (Ac TC.cell)) then B8 l r.cells i++[TField.mk (i:Int) (Pl (l.getD ((i:Int)).toNat (Ac TC.group)).2 (r.2.getD ((i:Int)).toNat (Ac TC.cell)))] else B8 l r.cells i))=(l,((i+1:Nat):Int),r,r.1,B8 l r.cells (i+1))
   rw[Eu (by omega),Int.toNat_natCast,hs.1,hs.2]
   have:∀b:Bool,(bif b then r.1 else r.1)=r.1:=fun b=>by cases b<;>rfl
   rw[this]
   rfl)
  (fun i hi _=>by
   have hin:(!!decide ((i:Int) <(l.length:Int)))=true→(i:Int) <(l.length:Int):=fun h=>by rw[nn] at h;exact of_decide_eq_true h
   exact Aa (fun h=>⟨by show(0:Int)≤(i:Int);omega,hin h⟩) (Aa (fun h=>⟨by show(0:Int)≤(i:Int);omega,by have:=hin h;show(i:Int) <(r.cells.length:Int);omega⟩) (Aa (fun _ _=>by
    have:=P5 l r.cells i
    show Ag ((B8 l r.cells i).length+1)
    unfold Ag;omega) Ad)))
 have hkn:k=l.length:=by
  rcases Nat.lt_or_ge k l.length with h|h
  ·exact absurd (hst h) (by decide)
  ·omega
 subst hkn
 exact⟨h1,hx⟩
theorem Bgr (a0:List TGroup) (a1:TRow) (hp:∀p∈Aie a0 a1,p):CallOk Try.prog 64 [.sl .group a0,Ae .row a1] 0 [] 1 (Ap9 a0 a1) 1 (Ap8 a0 a1):=by
 have hb:∀g∈a0,Ao g.name.size:=hp _ (List.mem_cons_self ..)
 have hz:(!(Ai a0 a1 !=0))=true→Ai a0 a1=0:=fun h=>by simpa using h
 have h:=Bks a0 a1 (Aa hb (Aa (fun h1=>(Aam a0 a1 (hz h1)).1) Ad))
 have hk1:Iq a0 a1=(Ai a0 a1 !=0):=rfl
 have e:Adt a0 a1=LO a0 a1∧Adu a0 a1=Fc a0 a1∧Adv a0 a1=QS a0 a1:=by
  unfold Adt Adu Adv LO QS
  have hv:Fc a0 a1=(Ai a0 a1==0&&!((B8 a0 a1.cells a0.length).length==0)):=rfl
  cases hg:Ai a0 a1 !=0 with
  | true=>
   rw[hk1,hg]
   have:Fc a0 a1=false:=by
    rw[hv,show(Ai a0 a1==0)=false by simpa using hg]
    rfl
   rw[this]
   exact⟨rfl,rfl,rfl⟩
  |false=>
   have h0:Ai a0 a1=0:=by simpa using hg
   unfold QG
   rw[hk1,hg,(Aam a0 a1 h0).2]
   have:Fc a0 a1=!((B8 a0 a1.cells a0.length).length==0):=by rw[hv,h0];rfl
   rw[this]
   show(bif((B8 a0 a1.cells a0.length).length:Int)==0 then _ else _)=_∧(bif((B8 a0 a1.cells a0.length).length:Int)==0 then _ else _)=_∧(bif((B8 a0 a1.cells a0.length).length:Int)==0 then _ else _)=_
   rw[Ave]
   cases(B8 a0 a1.cells a0.length).length==0<;>exact⟨rfl,rfl,rfl⟩
 unfold Adx Adw at h
 rw[e.1,e.2.1,e.2.2] at h
 exact h
def Ady:List A→Nat→Objs→Option AU:=A5 [.l .group,.t .row] 1 Ap9 Ap8 Aie
theorem Aif:Ev Try.prog 64 Ady:=As (ks:=[.l .group,.t .row]) Bgr
noncomputable def Br4:=AQ 64 Ady Br3
theorem A7f:Cp Try.prog Br4:=Ak Aif A7e
abbrev CT:Type:=(List TGroup)×Int×Int×TRow×ByteArray×(List TField)
def MJ (x:CT):St:=⟨53,5,[(3,.own 0 0),(6,.own 2 0),(19,.sl .group x.1),(20,.v (.int .i64 x.2.1)),(21,.v (.int .i64 x.2.2.1))],[(0,some (.box 71 [.v (.string x.2.2.2.1.key),.sl .cell x.2.2.2.1.cells])),(2,some (.box 94 [.v (.string x.2.2.2.2.1),.sq 4])),(4,some (.arr 142 2 (.ty .field x.2.2.2.2.2)))]⟩
def PI:St→Option CT
 |⟨53,5,[(3,.own 0 0),(6,.own 2 0),(19,.sl .group z0),(20,.v (.int .i64 z1)),(21,.v (.int .i64 z2))],[(0,some (.box 71 [.v (.string z3),.sl .cell z4])),(2,some (.box 94 [.v (.string z5),.sq 4])),(4,some (.arr 142 2 (.ty .field z6)))]⟩=>some (z0,z1,z2,⟨z3,z4⟩,z5,z6)
 |_=>none
theorem Ank:∀s x,PI s=some x→s=MJ x:=fun s x h=>by
 unfold PI at h
 split at h
 ·cases h;rfl
 ·cases h
def Aa2:CU:=⟨4,5,[3,6,19,20,21],[],[(0,0),(2,2),(8,4)],[0,2,8],[],[0,2,4]⟩
def A4f:C9:=⟨[.nilB 2 1 142 .field],[(0,0),(2,2),(3,4)],[3,6,19,20,21],[0,2,3]⟩
def Aub (a0:List TGroup) (_a1:Int) (a2:Int) (a3:TRow) (a4:ByteArray) (_a5:List TField):ByteArray:=bif Hi (a0.getD a2.toNat (Ac TC.group)).2 (a3.2.getD a2.toNat (Ac TC.cell)) then a4 else a4
def Auc (a0:List TGroup) (_a1:Int) (a2:Int) (a3:TRow) (_a4:ByteArray) (a5:List TField):List TField:=bif Hi (a0.getD a2.toNat (Ac TC.group)).2 (a3.2.getD a2.toNat (Ac TC.cell)) then a5++[TField.mk a2 (MN (a0.getD a2.toNat (Ac TC.group)).2 (a3.2.getD a2.toNat (Ac TC.cell)))] else a5
def E0 (x:CT):CT:=(x.1,x.2.1,IntKind.i64.wrap (x.2.2.1+(1:Int)),x.2.2.2.1,Aub x.1 x.2.1 x.2.2.1 x.2.2.2.1 x.2.2.2.2.1 x.2.2.2.2.2,Auc x.1 x.2.1 x.2.2.1 x.2.2.2.1 x.2.2.2.2.1 x.2.2.2.2.2)
def EZ (x:CT):Cnd:=some (!!decide (x.2.2.1 <x.2.1))
def NJ (x:CT):List Prop:=[((!!decide (x.2.2.1 <x.2.1))=true→(0:Int)≤x.2.2.1∧x.2.2.1 <(↑x.1.length:Int)),((!!decide (x.2.2.1 <x.2.1))=true→(0:Int)≤x.2.2.1∧x.2.2.1 <(↑x.2.2.2.1.2.length:Int)),((!!decide (x.2.2.1 <x.2.1))=true→Hi (x.1.getD x.2.2.1.toNat (Ac TC.group)).2 (x.2.2.2.1.2.getD x.2.2.1.toNat (Ac TC.cell))=true→Ag (x.2.2.2.2.2.length+(1:Nat)))]
abbrev Ii:CT→List Prop:=NJ
def Tl (x:CT):Bb:=[(some 0,some (!decide (x.2.2.1 <x.2.1)),⟨53,5,[],[(0,some (.box 71 [.v (.string x.2.2.2.1.1),.sl .cell x.2.2.2.1.2])),(2,some (.box 94 [.v (.string x.2.2.2.2.1),.sq 4])),(4,some (.arr 142 2 (.ty .field x.2.2.2.2.2)))]⟩)]
def GG (x:CT):Nat:=(x.2.1 - x.2.2.1).toNat
def Kn (x:CT):CT:=AZ E0 EZ (GG x) x
theorem A1i (a0:List TGroup) (a1:Int) (a2:Int) (a3:TRow) (a4:ByteArray) (a5:List TField):Bl (Au Br4 L0) 9 (Af Try.prog 58 0) Aa2 (MJ (a0,a1,a2,a3,a4,a5))=some (NJ (a0,a1,a2,a3,a4,a5),Tl (a0,a1,a2,a3,a4,a5),EZ (a0,a1,a2,a3,a4,a5),MJ (E0 (a0,a1,a2,a3,a4,a5))):=by kernel_rfl
theorem A1j (a0:List TGroup) (a1:Int) (a2:Int) (a3:TRow) (a4:ByteArray) (a5:List TField) (hp:∀p∈Ii (a0,a1,a2,a3,a4,a5),p):∀p∈NJ (a0,a1,a2,a3,a4,a5),p:=hp
noncomputable def Vs:=Hw (Au Br4 L0) (Af Try.prog 58 0) Aa2 A4f PI GG E0 EZ Ii Tl
theorem Aud:∀s b ps outs,Vs s=some (b,ps,outs)→Wf s ⟨ps,outs,none⟩∧Bh (Au C0 L0) b s ps outs:=
 A9 (T:=MJ) A7f Ay (u:=9) (by kernel_rfl) (by decide) (fun⟨a0,a1,a2,a3,a4,a5⟩=>A1i a0 a1 a2 a3 a4 a5) (fun⟨a0,a1,a2,a3,a4,a5⟩=>A1j a0 a1 a2 a3 a4 a5) Ank (fun _=>AH (n:=53) rfl) fun _ _=>rfl
noncomputable def Aa1:=Di 0 Vs L0
theorem Aua:G1 Aa1:=AS Aud Ay
def Is (a0:List TGroup) (a1:TRow):Bool:=Ai a0 a1 !=(0:Int)
def QN (a0:List TGroup) (a1:TRow):Bool:=(↑(Kn (a0,(↑a0.length:Int),(0:Int),a1,a1.1,[])).snd.snd.snd.snd.snd.length:Int)==(0:Int)
def Aee (a0:List TGroup) (a1:TRow):ByteArray:=bif(Is a0 a1) then ByteArray.mk #[] else bif(QN a0 a1) then ByteArray.mk #[] else(Kn (a0,(↑a0.length:Int),(0:Int),a1,a1.1,[])).snd.snd.snd.snd.fst
def Aef (a0:List TGroup) (a1:TRow):Bool:=bif(Is a0 a1) then false else bif(QN a0 a1) then false else true
def Aeg (a0:List TGroup) (a1:TRow):List TField:=bif(Is a0 a1) then[] else bif(QN a0 a1) then[] else(Kn (a0,(↑a0.length:Int),(0:Int),a1,a1.1,[])).snd.snd.snd.snd.snd
def Aei (a0:List TGroup) (a1:TRow):A:=.tup [.agg [.v (.string (Aee a0 a1)),.sq 0],.v (.bool (Aef a0 a1))]
def Aeh (a0:List TGroup) (a1:TRow):Objs:=[(0,some (.arr 142 2 (.ty .field (Aeg a0 a1))))]
def Bhh (a0:List TGroup) (a1:TRow):List Prop:=[((!(Is a0 a1))=true→AD E0 EZ Ii (GG (a0,(↑a0.length:Int),(0:Int),a1,a1.1,[])) (a0,(↑a0.length:Int),(0:Int),a1,a1.1,[]))]
theorem Bhg (a0:List TGroup) (a1:TRow):Er (Au Br4 Aa1) 9 58 [.sl .group a0,Ae .row a1] 0 []=some (1,Aei a0 a1,1,Aeh a0 a1,[((!(Is a0 a1))=true→Af Try.prog (58:FuncId) (0:Nat)=Af Try.prog (58:FuncId) (0:Nat)),((!(Is a0 a1))=true→AD E0 EZ Ii (GG (a0,(↑a0.length:Int),(0:Int),a1,a1.1,[])) (a0,(↑a0.length:Int),(0:Int),a1,a1.1,[]))]):=by kernel_rfl
theorem Blb (a0:List TGroup) (a1:TRow) (hp:∀p∈Bhh a0 a1,p):CallOk Try.prog 58 [.sl .group a0,Ae .row a1] 0 [] 1 (Aei a0 a1) 1 (Aeh a0 a1):=by
 have n0:((!(Is a0 a1))=true→Af Try.prog (58:FuncId) (0:Nat)=Af Try.prog (58:FuncId) (0:Nat)):=by intros;rfl
 have n1:=N0 hp
 exact Az (Ap A7f Aua) (Bhg a0 a1) (Aa n0 (Aa n1 Ad))
def Aq7 (a0:List TGroup) (a1:TRow):A:=.tup [.agg [.v (.string (LO a0 a1)),.sq 0],.v (.bool (Fc a0 a1))]
def Aq6 (a0:List TGroup) (a1:TRow):Objs:=[(0,some (.arr 142 2 (.ty .field (QS a0 a1))))]
def Ai1 (_a0:List TGroup) (_a1:TRow):List Prop:=[]
theorem Aa3 (l:List TGroup) (r:TRow) (h0:Ai l r=0):
  AD E0 EZ Ii (GG (l,(l.length:Int),0,r,r.1,[])) (l,(l.length:Int),0,r,r.1,[])∧Kn (l,(l.length:Int),0,r,r.1,[])=(l,(l.length:Int),(l.length:Int),r,r.1,B8 l r.cells l.length):=by
 obtain⟨hp,hlen,_⟩:=AM h0
 have hl4:=(G0 hp).2
 obtain⟨h1,k,hk,hx,_,hst,_⟩:=Ij (fun i=>((l,(l.length:Int),(i:Int),r,r.1,B8 l r.cells i):CT)) l.length (fun _=>false) E0 EZ Ii (GG (l,(l.length:Int),0,r,r.1,[])) (l,(l.length:Int),0,r,r.1,[]) rfl (by show l.length≤((l.length:Int) - 0).toNat;omega)
  (fun i _ _=>by
   show(!!decide ((i:Int) <(l.length:Int)))=_
   rw[nn,Mp,Bool.not_false,Bool.and_true])
  (fun i hi _=>by
   have hs:=Ae7 (l.getD i (Ac TC.group)).2 (r.2.getD i (Ac TC.cell))
   show(l,(l.length:Int),IntKind.i64.wrap ((i:Int)+1),r,(bif Hi (l.getD ((i:Int)).toNat (Ac TC.group)).2 (r.2.getD ((i:Int)).toNat (Ac TC.cell)) then r.1 else r.1),(bif Hi (l.getD ((i:Int)).toNat (Ac TC.group)).2 (r.2.getD ((i:Int)).toNat (Ac TC.cell)) then B8 l r.cells i++[TField.mk (i:Int) (MN (l.getD ((i:Int)).toNat (Ac TC.group)).2 (r.2.getD ((i:Int)).toNat (Ac TC.cell)))] else B8 l r.cells i))=(l,(l.length:Int),((i+1:Nat):Int),r,r.1,B8 l r.cells (i+1))
   rw[Eu (by omega),Int.toNat_natCast,hs.1,hs.2]
   have:∀b:Bool,(bif b then r.1 else r.1)=r.1:=fun b=>by cases b<;>rfl
   rw[this]
   rfl)
  (fun i hi _=>by
   have hin:(!!decide ((i:Int) <(l.length:Int)))=true→(i:Int) <(l.length:Int):=fun h=>by rw[nn] at h;exact of_decide_eq_true h
   exact Aa (fun h=>⟨by show(0:Int)≤(i:Int);omega,hin h⟩) (Aa (fun h=>⟨by show(0:Int)≤(i:Int);omega,by have:=hin h;show(i:Int) <(r.cells.length:Int);omega⟩) (Aa (fun _ _=>by
    have:=P5 l r.cells i
    show Ag ((B8 l r.cells i).length+1)
    unfold Ag;omega) Ad)))
 have hkn:k=l.length:=by
  rcases Nat.lt_or_ge k l.length with h|h
  ·exact absurd (hst h) (by decide)
  ·omega
 subst hkn
 exact⟨h1,hx⟩
theorem Bhf (a0:List TGroup) (a1:TRow) (_hp:∀p∈Ai1 a0 a1,p):CallOk Try.prog 58 [.sl .group a0,Ae .row a1] 0 [] 1 (Aq7 a0 a1) 1 (Aq6 a0 a1):=by
 have hz:(!(Ai a0 a1 !=0))=true→Ai a0 a1=0:=fun h=>by simpa using h
 have h:=Blb a0 a1 (Aa (fun h1=>(Aa3 a0 a1 (hz h1)).1) Ad)
 have hk1:Is a0 a1=(Ai a0 a1 !=0):=rfl
 have e:Aee a0 a1=LO a0 a1∧Aef a0 a1=Fc a0 a1∧Aeg a0 a1=QS a0 a1:=by
  unfold Aee Aef Aeg LO QS
  have hv:Fc a0 a1=(Ai a0 a1==0&&!((B8 a0 a1.cells a0.length).length==0)):=rfl
  cases hg:Ai a0 a1 !=0 with
  | true=>
   rw[hk1,hg]
   have:Fc a0 a1=false:=by
    rw[hv,show(Ai a0 a1==0)=false by simpa using hg]
    rfl
   rw[this]
   exact⟨rfl,rfl,rfl⟩
  |false=>
   have h0:Ai a0 a1=0:=by simpa using hg
   unfold QN
   rw[hk1,hg,(Aa3 a0 a1 h0).2]
   have:Fc a0 a1=!((B8 a0 a1.cells a0.length).length==0):=by rw[hv,h0];rfl
   rw[this]
   show(bif((B8 a0 a1.cells a0.length).length:Int)==0 then _ else _)=_∧(bif((B8 a0 a1.cells a0.length).length:Int)==0 then _ else _)=_∧(bif((B8 a0 a1.cells a0.length).length:Int)==0 then _ else _)=_
   rw[Ave]
   cases(B8 a0 a1.cells a0.length).length==0<;>exact⟨rfl,rfl,rfl⟩
 unfold Aei Aeh at h
 rw[e.1,e.2.1,e.2.2] at h
 exact h
def A1k:List A→Nat→Objs→Option AU:=A5 [.l .group,.t .row] 1 Aq7 Aq6 Ai1
theorem Ba4:Ev Try.prog 58 A1k:=As (ks:=[.l .group,.t .row]) Bhf
noncomputable def Br5:=AQ 58 A1k Br4
theorem A7g:Cp Try.prog Br5:=Ak Ba4 A7f
abbrev A8:Type:=Int×TView×TView
def I6 (x:A8):St:=⟨38,2,[(2,.own 0 0),(3,.own 1 0),(5,.v (.int .i64 x.1))],[(0,some (.box 94 [.v (.string x.2.1.key),.sl .field x.2.1.fields])),(1,some (.box 94 [.v (.string x.2.2.key),.sl .field x.2.2.fields]))]⟩
def KH:St→Option A8
 |⟨38,2,[(2,.own 0 0),(3,.own 1 0),(5,.v (.int .i64 z0))],[(0,some (.box 94 [.v (.string z1),.sl .field z2])),(1,some (.box 94 [.v (.string z3),.sl .field z4]))]⟩=>some (z0,⟨z1,z2⟩,⟨z3,z4⟩)
 |_=>none
theorem XR:∀s x,KH s=some x→s=I6 x:=fun s x h=>by
 unfold KH at h
 split at h
 ·cases h;rfl
 ·cases h
def QF:CU:=⟨2,2,[2,3,5],[],[(0,0),(1,1)],[0,1],[4],[0,1]⟩
def Aic:C9:=⟨[],[(0,0),(1,1)],[2,3,5],[0,1]⟩
def E9 (a0:Int) (a1:TView) (_a2:TView):Bool:=!!decide (a0 <(↑a1.2.length:Int))
def BL (a0:Int) (a1:TView) (a2:TView):Bool:=(E9 a0 a1 a2)&&!((a1.2.getD a0.toNat (Ac TC.field)).1==(a2.2.getD a0.toNat (Ac TC.field)).1&&(a1.2.getD a0.toNat (Ac TC.field)).2.toList==(a2.2.getD a0.toNat (Ac TC.field)).2.toList)
def Zf (a0:Int) (a1:TView) (a2:TView):Bool:=(E9 a0 a1 a2)&&!(BL a0 a1 a2)
def CL (x:A8):A8:=(IntKind.i64.wrap (x.1+(1:Int)),x.2.1,x.2.2)
def CK (x:A8):Cnd:=some (Zf x.1 x.2.1 x.2.2)
def J0 (x:A8):List Prop:=[((E9 x.1 x.2.1 x.2.2)=true→(0:Int)≤x.1∧x.1 <(↑x.2.1.2.length:Int)),((E9 x.1 x.2.1 x.2.2)=true→(0:Int)≤x.1∧x.1 <(↑x.2.2.2.length:Int))]
abbrev EO:A8→List Prop:=J0
def MZ (x:A8):Bb:=[(some 0,some (!decide (x.1 <(↑x.2.1.2.length:Int))),⟨38,2,[(4,.dead)],[(0,some (.box 94 [.v (.string x.2.1.1),.sl .field x.2.1.2])),(1,some (.box 94 [.v (.string x.2.2.1),.sl .field x.2.2.2]))]⟩),(none,some ((BL x.1 x.2.1 x.2.2)),⟨38,2,[(4,.v (.bool (false)))],[(0,some (.box 94 [.v (.string x.2.1.1),.sl .field x.2.1.2])),(1,some (.box 94 [.v (.string x.2.2.1),.sl .field x.2.2.2]))]⟩)]
def DH (x:A8):Nat:=((↑x.2.1.2.length:Int) - x.1).toNat
def Zh (x:A8):A8:=AZ CL CK (DH x) x
theorem Adp (a0:Int) (a1:TView) (a2:TView):Bl (Au Br5 L0) 9 (Af Try.prog 59 0) QF (I6 (a0,a1,a2))=some (J0 (a0,a1,a2),MZ (a0,a1,a2),CK (a0,a1,a2),I6 (CL (a0,a1,a2))):=by kernel_rfl
theorem Adq (a0:Int) (a1:TView) (a2:TView) (hp:∀p∈EO (a0,a1,a2),p):∀p∈J0 (a0,a1,a2),p:=hp
noncomputable def NV:=Hw (Au Br5 L0) (Af Try.prog 59 0) QF Aic KH DH CL CK EO MZ
theorem Zg:∀s b ps outs,NV s=some (b,ps,outs)→Wf s ⟨ps,outs,none⟩∧Bh (Au C0 L0) b s ps outs:=
 A9 (T:=I6) A7g Ay (u:=9) (by kernel_rfl) (by decide) (fun⟨a0,a1,a2⟩=>Adp a0 a1 a2) (fun⟨a0,a1,a2⟩=>Adq a0 a1 a2) XR (fun _=>AH (n:=38) rfl) fun _ _=>rfl
noncomputable def QE:=Di 0 NV L0
theorem Ze:G1 QE:=AS Zg Ay
def FP (a0:TView) (a1:TView):A8:=Zh ((0:Int),a0,a1)
def Ep (a0:TView) (a1:TView):Bool:=!a0.1.toList==a1.1.toList||(↑a0.2.length:Int) !=(↑a1.2.length:Int)
def Pq (a0:TView) (a1:TView):Bool:=bif(Ep a0 a1) then false else bif BL (FP a0 a1).fst (FP a0 a1).snd.fst (FP a0 a1).snd.snd then false else true
def Pr (a0:TView) (a1:TView):A:=.v (.bool (Pq a0 a1))
def XS (_a0:TView) (_a1:TView):Objs:=[]
def Vg (a0:TView) (a1:TView):List Prop:=[((!(Ep a0 a1))=true→AD CL CK EO (DH ((0:Int),a0,a1)) ((0:Int),a0,a1))]
theorem Atg (a0:TView) (a1:TView):Er (Au Br5 QE) 9 59 [Ae .view a0,Ae .view a1] 0 []=some (1,Pr a0 a1,0,XS a0 a1,[((!(Ep a0 a1))=true→Af Try.prog (59:FuncId) (0:Nat)=Af Try.prog (59:FuncId) (0:Nat)),((!(Ep a0 a1))=true→AD CL CK EO (DH ((0:Int),a0,a1)) ((0:Int),a0,a1))]):=by kernel_rfl
theorem Az6 (a0:TView) (a1:TView) (hp:∀p∈Vg a0 a1,p):CallOk Try.prog 59 [Ae .view a0,Ae .view a1] 0 [] 1 (Pr a0 a1) 0 (XS a0 a1):=by
 have n0:((!(Ep a0 a1))=true→Af Try.prog (59:FuncId) (0:Nat)=Af Try.prog (59:FuncId) (0:Nat)):=by intros;rfl
 have n1:=N0 hp
 exact Az (Ap A7g Ze) (Atg a0 a1) (Aa n0 (Aa n1 Ad))
def Vh (a0:TView) (a1:TView):A:=.v (.bool (Ars a0 a1))
def Vf (_a0:TView) (_a1:TView):Objs:=[]
def S7 (a0:TView) (_a1:TView):List Prop:=[Ao a0.fields.length]
theorem Afn:∀{a b:List TField},Av9 a b=true↔a=b
 | [],[]=>by simp[Av9]
 | [],_::_=>by simp[Av9]
 |_::_,[]=>by simp[Av9]
 |⟨g,v⟩::xs,⟨g',v'⟩::ys=>by
  unfold Av9
  rw[Bool.and_eq_true,Bool.and_eq_true,beq_iff_eq,beq_iff_eq,Afn]
  simp
theorem Bd7 {a b:TView}:Ars a b=true↔a=b:=by
 unfold Ars
 rw[Bool.and_eq_true,beq_iff_eq,Afn]
 cases a;cases b
 simp
theorem B19:∀(a b:List TField),a.length=b.length→Av9 a b=KU a.length (fun i=>(a.getD i (Ac TC.field)).1==(b.getD i (Ac TC.field)).1&&(a.getD i (Ac TC.field)).2==(b.getD i (Ac TC.field)).2):=fun a b h=>by
 rw[Bool.eq_iff_iff,Afn,I7]
 constructor
 ·rintro rfl i _
  simp
 ·intro g
  refine List.ext_getElem h fun i h1 h2=>?_
  have:=g i h1
  rw[List.getD_eq_getElem?_getD,List.getD_eq_getElem?_getD,List.getElem?_eq_getElem h1,List.getElem?_eq_getElem h2,Option.getD_some,Option.getD_some,Bool.and_eq_true,beq_iff_eq,beq_iff_eq] at this
  revert this
  generalize a[i]=x
  generalize b[i]=y
  cases x;cases y
  rintro⟨rfl,rfl⟩
  rfl
theorem Ve (a b:TView) (hb:Ao a.fields.length):(∀p∈Vg a b,p)∧Pq a b=Ars a b:=by
 unfold Ao at hb
 have hk0:Ep a b=(!(a.key==b.key)||a.fields.length !=b.fields.length):=by
  show(!(a.key.toList==b.key.toList)||((a.fields.length:Int) !=(b.fields.length:Int)))=_
  rw[tlb]
  congr 1
  rw[Bool.eq_iff_iff,bne_iff_ne,bne_iff_ne];omega
 have main:Ep a b=false→AD CL CK EO (DH (0,a,b)) (0,a,b)∧BL (FP a b).fst (FP a b).snd.fst (FP a b).snd.snd=!Av9 a.fields b.fields:=fun h0=>by
  rw[hk0] at h0
  have hlen:a.fields.length=b.fields.length:=by simpa using(Bool.or_eq_false_iff.1 h0).2
  have hf:∀i:Nat,BL (i:Int) a b=(decide (i <a.fields.length)&&!((a.fields.getD i (Ac TC.field)).1==(b.fields.getD i (Ac TC.field)).1&&(a.fields.getD i (Ac TC.field)).2==(b.fields.getD i (Ac TC.field)).2)):=fun i=>by
   unfold BL E9
   rw[nn,Mp,Int.toNat_natCast,tlb]
  obtain⟨h1,k,hk,hx,_,_,hb'⟩:=Ij (fun i=>(((i:Int),a,b):A8)) a.fields.length (fun i=>!((a.fields.getD i (Ac TC.field)).1==(b.fields.getD i (Ac TC.field)).1&&(a.fields.getD i (Ac TC.field)).2==(b.fields.getD i (Ac TC.field)).2)) CL CK EO (DH (0,a,b)) (0,a,b) rfl (by show a.fields.length≤((a.fields.length:Int) - 0).toNat;omega)
   (fun i _ _=>by
    show((!!decide ((i:Int) <(a.fields.length:Int)))&&!BL i a b)=_
    rw[hf,nn,Mp]
    cases decide (i <a.fields.length)<;>rfl)
   (fun i hi _=>by
    show(IntKind.i64.wrap ((i:Int)+1),a,b)=(((i+1:Nat):Int),a,b)
    rw[Eu (by omega)])
   (fun i _ _=>by
    have hin:(!!decide ((i:Int) <(a.fields.length:Int)))=true→(i:Int) <(a.fields.length:Int):=fun h=>by rw[nn] at h;exact of_decide_eq_true h
    exact Aa (fun h=>⟨by show(0:Int)≤(i:Int);omega,hin h⟩) (Aa (fun h=>⟨by show(0:Int)≤(i:Int);omega,by have:=hin h;show(i:Int) <(b.fields.length:Int);omega⟩) Ad))
  refine⟨h1,?_⟩
  have hr:FP a b=((k:Int),a,b):=hx
  rw[hr]
  show BL (k:Int) a b=_
  rw[hf,hb',B19 _ _ hlen]
  congr 1
  exact Iu fun i _=>Bool.not_not _
 refine⟨Aa (fun h=>(main (by simpa using h)).1) Ad,?_⟩
 unfold Pq Ars
 cases h0:Ep a b with
 | true=>
  rw[hk0] at h0
  rw[cond_true]
  cases hk:a.key==b.key with
  |false=>rfl
  |true=>
   rw[hk] at h0
   have hne:a.fields.length≠b.fields.length:=by simpa using h0
   cases he:Av9 a.fields b.fields with
   |false=>rfl
   |true=>exact absurd (congrArg List.length (Afn.1 he)) hne
 |false=>
  rw[cond_false,(main h0).2]
  rw[hk0] at h0
  have:(a.key==b.key)=true:=by simpa using(Bool.or_eq_false_iff.1 h0).1
  rw[this,Bool.true_and]
  cases Av9 a.fields b.fields<;>rfl
theorem Atf (a0:TView) (a1:TView) (hp:∀p∈S7 a0 a1,p):CallOk Try.prog 59 [Ae .view a0,Ae .view a1] 0 [] 1 (Vh a0 a1) 0 (Vf a0 a1):=by
 have hb:Ao a0.fields.length:=hp _ (List.mem_cons_self ..)
 have h:=Az6 a0 a1 (Ve a0 a1 hb).1
 unfold Pr at h
 rw[(Ve a0 a1 hb).2] at h
 exact h
def LB:List A→Nat→Objs→Option AU:=A5 [.t .view,.t .view] 0 Vh Vf S7
theorem Mi:Ev Try.prog 59 LB:=As (ks:=[.t .view,.t .view]) Atf
noncomputable def B22:=AQ 59 LB Br5
theorem Bwx:Cp Try.prog B22:=Ak Mi A7g
noncomputable def Cl:=B22
theorem Bcf:Cp Try.prog Cl:=Bwx
end Go.Proofs.Yteebobbhhgmeiaa
namespace Go.Proofs.Yteebobbhhgmeiaa
open Go.RowKit Go.Shelf
attribute [local go_sem] Oper.semAt_some
def OwnB (base:Nat) (W:World) (y:Value) (bs:List UInt8):Prop:=OwnR W 5 1 y bs.length (bs.map Bi)∧∀g,CD y=some g→base≤g
theorem OwnB.keep {base:Nat} {W W':World} {y:Value} {bs:List UInt8} (h:OwnB base W y bs) (hk:∀g,base≤g→CD y=some g→W'.heap[g]?=W.heap[g]?):OwnB base W' y bs:=⟨h.1.keep fun g hg=>hk g (h.2 g hg) hg,h.2⟩
theorem OwnB.mono {b b':Nat} {W:World} {y:Value} {bs:List UInt8} (h:OwnB b W y bs) (hb:b'≤b):OwnB b' W y bs:=⟨h.1,fun g hg=>Nat.le_trans hb (h.2 g hg)⟩
theorem Bus (b0 b:Nat) (t:TypeId) (f:List (TGroup×TCell)→List UInt8):Own (fun s W=>∃y,W.heap[b0]?=some (.cells #[y] t (0,0))∧OwnB b W y (f s)):=fun s W W' row ⟨y,h1,h2⟩ hg hr=>by
 have key:∀(g:Nat) (o:Obj),W.heap[g]?=some o→o.isCells=true→W'.heap[g]?=W.heap[g]?:=fun g o ho hc=>by
  refine hg.block g (HK ho) fun e=>?_
  obtain⟨o',h3,h4⟩:=hr g e.symm
  rw[ho] at h3
  cases h3
  rw[hc] at h4
  cases h4
 refine⟨y,(key b0 _ h1 rfl).trans h1,h2.keep fun g _ hgy=>?_⟩
 rcases h2.1.2 with⟨a,e1,_⟩|⟨g',cap,cur,e1,e3,_⟩
 ·rw[e1] at hgy;cases a<;>cases hgy
 ·rw[e1] at hgy
  cases hgy
  exact key _ _ e3 rfl
theorem OwnB.form {base:Nat} {W:World} {y:Value} {bs:List UInt8} (h:OwnB base W y bs):∃a n c,y=.slice a n c:=by
 obtain⟨a,c,e,_⟩:=h.1.form
 exact⟨a,_,c,e⟩
theorem KB.setCell {n₀ X:Nat} (W:World) (v:Value):KB n₀ X W (W.setCell ⟨X,0,none⟩ v):=
 ⟨rfl,rfl,rfl,by rw[Ai8];exact Nat.le_refl _,fun k _ hk=>Below.heap_setCell W ⟨X,0,none⟩ v k hk⟩
theorem Bef {α:Type} (F:α→List UInt8) (n:Nat) (h:∀x,(F x).length≤n):∀l:List α,(l.flatMap F).length≤l.length*n
 | []=>by simp
 |x::r=>by
  have:=Bef F n h r
  have:=h x
  rw[List.flatMap_cons,List.length_append,List.length_cons,Nat.succ_mul]
  omega
set_option maxHeartbeats 1000000 in
theorem Blc (w:World) (a0 a1:Option Addr) (gs:List TGroup) (cs:List TCell) (key:ByteArray) (cap0 cap1:Nat) (na ncap:Nat) (ab:Option Addr) (b0:List UInt8) (pc:Int→TCell→List UInt8) (Nx:Nat)
  (hpc:∀q c,(pc q c).length≤Nx)
  (hGd:∀W,Below w.heap.size w W→Calls Try.prog 65 #[.slice a0 gs.length cap0,.agg #[.string key,.slice a1 cs.length cap1]] W fun e W'=>e=.returned (.int .i64 0)∧Below W.heap.size W W')
  (hl1:1≤gs.length) (hl4:gs.length≤4) (hlen0:Nat.beq cs.length gs.length=true)
  (hPT:∀W,Below w.heap.size w W→Calls Try.prog 122 #[.slice ab na ncap,.string key] W fun e W'=>∃y,e=.returned y∧Below W.heap.size W W'∧OwnB W.heap.size W' y b0)
  (hCP:∀W v bs q c base,OwnB base W v bs→bs.length≤b0.length+4*Nx→Calls Try.prog 56 #[v,.int .i64 q,cV c] W fun e W'=>∃y,e=.returned y∧Below W.heap.size W W'∧OwnB W.heap.size W' y (bs++pc q c))
  (hG:0 <gs.length→∃b off,a0=some ⟨b,off,none⟩∧GsAt w.heap.size w.heap.size w b off gs)
  (hS:0 <cs.length→∃b off,a1=some ⟨b,off,none⟩∧CsAt w.heap.size w.heap.size w b off cs):
  Calls Try.prog 79 #[.slice ab na ncap,.slice a0 gs.length cap0,.agg #[.string key,.slice a1 cs.length cap1]] w fun e W'=>∃y,e=.returned y∧Below w.heap.size w W'∧OwnB w.heap.size W' y (b0++(gs.zip cs).flatMap (fun x=>pc x.1.policy x.2)):=by
 refine(callsIn_wide (n:=5)).1 ?_
 refine callsIn_of_wp_marks Try.func79 rfl trivial ?_ rfl
 simp only[Try.ntmps79,List.size_toArray,List.length_cons,List.length_nil,Nat.reduceAdd,Nat.reduceSub,Array.replicate_succ,Array.replicate_zero,List.push_toArray,List.append_toArray,List.nil_append,List.cons_append]
 have hw2:Below w.heap.size w ((w.alloc (.cells #[.slice ab na ncap] 84)).alloc (.cells #[.string key,.slice a1 cs.length cap1] 71)):=((Below.refl _ w).alloc (Nat.le_refl _) _).alloc (by simp) _
 have hr1:=Oh (.cells #[.string key,.slice a1 cs.length cap1] 71) (G5 (w:=w) (.cells #[.slice ab na ncap] 84) rfl)
 have hr2:=G5 (w:=w.alloc (.cells #[.slice ab na ncap] 84)) (.cells #[.string key,.slice a1 cs.length cap1] 71) (n:=w.heap.size+1) (by simp)
 obtain⟨k0,k1⟩:=cb2 hr2
 have k2:=cb1 hr1
 gi_wp2_with (first
  |(refine⟨trivial,?_⟩;gi_at_call 65;refine(callsIn_wide.2 (hGd _ hw2)).mono ?_;rintro e W1 ⟨rfl,hb1⟩;have hx1:=E5 hr1 hb1;have hx2:=E5 hr2 hb1;have d0:=cb1 hx1;have f0:=fb1 hx1;obtain⟨c0,c1⟩:=cb2 hx2;have hB1:Below w.heap.size w W1:=hw2.trans (hb1.mono (by simp;omega));clear hr1 hr2 hb1 k0 k1 k2)
  |(refine⟨trivial,?_⟩;gi_at_call 122;refine(callsIn_wide.2 (hPT _ hB1)).mono ?_;rintro e W2 ⟨y0,rfl,hb2,hy0⟩;obtain⟨ya,yc,rfl,hyc⟩:=hy0.1.form;have hz1:=E5 hx1 hb2;have hz2:=E5 hx2 hb2;have d2:=cb1 hz1;have f2:=fb1 hz1;obtain⟨c2,c3⟩:=cb2 hz2;have hB2:Below w.heap.size w W2:=hB1.trans (hb2.mono hB1.size);clear d0 f0 c0 c1)
  |(refine⟨trivial,?_⟩;gi_at_call 132;refine(Bfn _ _ _ _ _ _ _).mono ?_;rintro e W3 ⟨rfl,rfl⟩))
 have hlen:cs.length=gs.length:=Nat.eq_of_beq_eq_true hlen0
 have hy1:=PJ (i:=0) hz1 (.slice ya b0.length yc)
 have hy2:=By4 hz2 (p:=⟨w.heap.size,0,none⟩) (by simp) (.slice ya b0.length yc)
 have hB3:Below w.heap.size w (W2.setCell ⟨w.heap.size,0,none⟩ (.slice ya b0.length yc)):=hB2.setCell (p:=⟨w.heap.size,0,none⟩) (Nat.le_refl _) _
 have hs1:=HK hx2
 have hs2:=HK hy2
 have hyo:OwnB (w.heap.size+1) (W2.setCell ⟨w.heap.size,0,none⟩ (.slice ya b0.length yc)) (.slice ya b0.length yc) b0:=(hy0.mono (Nat.le_of_lt hs1)).keep fun g hg _=>Below.heap_setCell W2 ⟨w.heap.size,0,none⟩ _ g (by simp;omega)
 have hVs:(W2.setCell ⟨w.heap.size,0,none⟩ (.slice ya b0.length yc)).heap.size=W2.heap.size:=Ai8 _ _ _
 rw[←hVs]
 generalize W2.setCell ⟨w.heap.size,0,none⟩ (.slice ya b0.length yc)=V at hy1 hy2 hB3 hs2 hyo⊢
 clear hVs
 clear hz1 hz2 d2 f2 c2 c3 hx1 hx2 hb2 hy0
 obtain⟨b,off,rfl,hg⟩:=hG (by omega)
 obtain⟨b',off',rfl,hc⟩:=hS (by omega)
 have hW2:Below V.heap.size V ((V.alloc (.cells #[.slice (some ⟨b,off,none⟩) gs.length cap0] 66)).alloc (.cells #[.string key,.slice (some ⟨b',off',none⟩) cs.length cap1] 71)):=((Below.refl _ V).alloc (Nat.le_refl _) _).alloc (by simp) _
 have hv2:=Oh (.cells #[.string key,.slice (some ⟨b',off',none⟩) cs.length cap1] 71) (G5 (w:=V) (.cells #[.slice (some ⟨b,off,none⟩) gs.length cap0] 66) rfl)
 have hv3:=G5 (w:=V.alloc (.cells #[.slice (some ⟨b,off,none⟩) gs.length cap0] 66)) (.cells #[.string key,.slice (some ⟨b',off',none⟩) cs.length cap1] 71) (n:=V.heap.size+1) (by simp)
 have hz1:=E5 hy1 hW2
 have hz3:=HK hv3
 have hB4:=hB3.trans (hW2.mono hB3.size)
 have hyo2:OwnB (w.heap.size+1) ((V.alloc (.cells #[.slice (some ⟨b,off,none⟩) gs.length cap0] 66)).alloc (.cells #[.string key,.slice (some ⟨b',off',none⟩) cs.length cap1] 71)) (.slice ya b0.length yc) b0:=hyo.keep fun g _ hgy=>hW2.block g (hyo.1.lt hgy)
 clear hyo hs1
 rw[show V.heap.size=V.heap.size from rfl] at hv2
 generalize hVW:(V.alloc (.cells #[.slice (some ⟨b,off,none⟩) gs.length cap0] 66)).alloc (.cells #[.string key,.slice (some ⟨b',off',none⟩) cs.length cap1] 71)=W2 at hW2 hv2 hv3 hz1 hz3 hB4 hyo2⊢
 have hlt0:=HK hy1
 have hg2:GsAt W2.heap.size w.heap.size W2 b off gs:=⟨⟨by have:=hg.1.1;omega,by have:=hg.1.1;omega⟩,fun j g hj=>⟨(hB4.cell (p:=⟨b,_,none⟩) hg.1.1).trans (hg.2 j g hj).1,(hB4.cell (p:=⟨b,_,none⟩) hg.1.1).trans (hg.2 j g hj).2⟩⟩
 have hc2:CsAt W2.heap.size w.heap.size W2 b' off' cs:=by
  refine⟨⟨by have:=hc.1.1;omega,by have:=hc.1.1;omega⟩,fun j c hj=>?_⟩
  have k:∀o,W2.cell? ⟨b',o,none⟩=w.cell? ⟨b',o,none⟩:=fun o=>hB4.cell (p:=⟨b',o,none⟩) hc.1.1
  simp only[k]
  exact hc.2 j c hj
 refine wpIn_rangeFunc_ownH (F:=Fence.wide) rfl (by omega) (gf:=165) (lb:=#[.pointer (some ⟨V.heap.size,0,none⟩),.pointer (some ⟨V.heap.size+1,0,none⟩)]) rfl trivial (enters_of Try.func165 (by kernel_rfl) rfl)
  (Ao3 _ (by omega) V.heap.size (V.heap.size+1) W2.heap.size w.heap.size b off cap0 b' off' cap1 gs cs hlen hl4 W2 (Nat.le_refl _) (cb1 hv2) (cb2 hv3).2 ⟨by omega,by omega⟩ ⟨by omega,by omega⟩ hg2 hc2)
  KB.trans (KB.putObj (Nat.le_refl _)) (Below.refl _ _) (fun _=>rfl)
  (fun pre W=>(∃y,W.heap[w.heap.size]?=some (.cells #[y] 84 (0,0))∧OwnB (w.heap.size+1) W y (b0++pre.flatMap (fun x=>pc x.1.policy x.2)))∧Below w.heap.size w W∧W2.heap.size≤W.heap.size)
  (fun _ _ _=>False)
  (OwnFrom.and (Own.from (Bus w.heap.size (w.heap.size+1) 84 (fun pre=>b0++pre.flatMap (fun x=>pc x.1.policy x.2))) _) (OwnFrom.and (ownFrom_below (Nat.le_refl _) hB4.size) (T8 _ _)))
  (fun _ _ _ _ _ hs _ _=>hs)
  ⟨⟨_,hz1,by simpa using hyo2⟩,hB4,Nat.le_refl _⟩
  (fun x a' W=>(∃B6 B7,a'={tmps:=#[Value.slice ab na ncap,Value.slice (some ⟨b,off,none⟩) gs.length cap0,
     Value.agg #[Value.string key,Value.slice (some ⟨b',off',none⟩) cs.length cap1],
     Value.pointer (some {block:=w.heap.size,off:=0}),undef,
     Value.pointer (some {block:=w.heap.size+1,off:=0}),Value.slice none 0 0,Value.pointer (some ⟨B6,0,none⟩),Value.pointer (some ⟨B7,0,none⟩),
     Value.slice (some ⟨b,off,none⟩) gs.length cap0,Value.agg #[Value.string key,Value.slice (some ⟨b',off',none⟩) cs.length cap1],
     Value.int IntKind.i64 0,Value.bool false,undef,undef,undef,Value.slice ab na ncap,
     Value.pointer (some {block:=w.heap.size+1,off:=0}),Value.string key,Value.slice ya b0.length yc,
     Value.slice (some ⟨b,off,none⟩) gs.length cap0,Value.agg #[Value.string key,Value.slice (some ⟨b',off',none⟩) cs.length cap1],
     Value.func (Fn.func 165) #[] #[Value.pointer (some {block:=V.heap.size,off:=0}),Value.pointer (some {block:=V.heap.size+1,off:=0})],
     gV x.1,cV x.2,undef,undef,undef,undef,undef,undef],defers:=[]}∧
    (W.heap[B6]?=some (.cells #[.string x.1.name,.int .i64 x.1.policy] 79 (0,0))∧W.heap[B7]?=some (.cells #[.int .i64 x.2.stamp.n,.int .i64 x.2.stamp.site,.int .i64 x.2.vec.a,.int .i64 x.2.vec.b,.bool x.2.gone,.string x.2.value,.int .i64 x.2.dead.a,.int .i64 x.2.dead.b] 55 (0,0)))))
  (fun x a'=>Own.from (fun s X Y row hs hgr hr=>by
   obtain⟨B6,B7,e1,e2,e3⟩:=hs
   exact⟨B6,B7,e1,Yq B6 _ _ s X Y row e2 hgr hr,Yq B7 _ _ s X Y row e3 hgr hr⟩) _) ?assign ?body ?done ?stop
 case assign=>
  rintro l pre x W K ⟨⟨y,i1,i2⟩,i3,i4⟩ hK
  clear hlen hlen0
  dsimp only[Bte,gV,cV] at hK⊢
  gi_wp2
  have hb:Below W.heap.size W ((W.alloc (.cells #[.string x.1.name,.int .i64 x.1.policy] 79)).alloc (.cells #[.int .i64 x.2.stamp.n,.int .i64 x.2.stamp.site,.int .i64 x.2.vec.a,.int .i64 x.2.vec.b,.bool x.2.gone,.string x.2.value,.int .i64 x.2.dead.a,.int .i64 x.2.dead.b] 55)):=((Below.refl _ W).alloc (Nat.le_refl _) _).alloc (by simp) _
  exact hK _ _ (IE _ hb) (KB.of_below (hb.mono i4)) ⟨⟨y,E5 i1 hb,i2.keep fun g _ hgy=>hb.block g (i2.1.lt hgy)⟩,i3.trans (hb.mono i3.size),Nat.le_trans i4 hb.size⟩ ⟨W.heap.size,W.heap.size+1,rfl,Oh _ (G5 _ rfl),G5 _ (by simp)⟩
 case body=>
  rintro l pre x a' W hl hr ⟨⟨y,i1,i2⟩,i3,i4⟩ ⟨B6,B7,rfl,e6,e7⟩ hlt
  obtain⟨yb,ym,yd,rfl⟩:=i2.form
  obtain⟨k0,k1⟩:=cb2 e6
  obtain⟨m0,m1,m2,m3,m4,m5,m6,m7⟩:=cb8 e7
  have d0:=cb1 i1
  have hbl:(b0++pre.flatMap (fun x=>pc x.1.policy x.2)).length≤b0.length+4*Nx:=by
   have:=Bef (fun x:TGroup×TCell=>pc x.1.policy x.2) Nx (fun x=>hpc _ _) pre
   have h2:pre.length*Nx≤4*Nx:=Nat.mul_le_mul_right _ (by omega)
   rw[List.length_append]
   omega
  clear hlen hlen0
  generalize hbe:b0++pre.flatMap (fun x=>pc x.1.policy x.2)=bs at*
  gi_wp2_with (refine⟨trivial,?_⟩;gi_at_call 56;refine(CallsIn.inRound l (callsIn_wide.2 (hCP _ _ bs x.1.policy x.2 _ i2 hbl))).mono ?_;rintro e W' ⟨y',rfl,hb,hy'⟩;obtain⟨ye,yn,yf,rfl⟩:=hy'.form;have q1:=E5 i1 hb;have d4:=cb1 q1;have f4:=fb1 q1)
  have hw:=HK i1
  refine⟨(IE _ hb).trans ((KeepsOthers.setCell _ _ _).from _),(KB.of_below (hb.mono i4)).trans (KB.setCell _ _),⟨_,PJ (i:=0) q1 _,?_⟩,(i3.trans (hb.mono i3.size)).setCell (p:=⟨w.heap.size,0,none⟩) (Nat.le_refl _) _,Nat.le_trans i4 (by rw[Ai8];exact hb.size)⟩
  rw[List.flatMap_append,←List.append_assoc,hbe]
  simp only[List.flatMap_cons,List.flatMap_nil,List.append_nil]
  exact(hy'.mono (b':=w.heap.size+1) (by omega)).keep fun g hg _=>Below.heap_setCell W' ⟨w.heap.size,0,none⟩ _ g (by simp;omega)
 case done=>
  rintro D ys W hD rfl ⟨⟨y,i1,i2⟩,i3,i4⟩ hK
  obtain⟨yb,ym,yd,rfl⟩:=i2.form
  have d0:=cb1 i1
  clear hlen hlen0
  gi_wp2
  refine⟨by simp,.inl ⟨_,_,rfl,run_takeDeferred hK,?_⟩⟩
  refine⟨_,results_tmp rfl _ _ _,_,rfl,i3.trans (belowK_b (w:=w) (Nat.le_refl _) W D _ _ (by have:=hB4.size;omega) hK rfl rfl),(i2.mono (Nat.le_succ _)).keep fun g _ hgy=>?_⟩
  refine World.putObj_heap_other fun e=>?_
  subst e
  rcases i2.1.2 with⟨a,e1,_⟩|⟨g',cap,cur,e1,e3,_⟩
  ·rw[e1] at hgy;cases a<;>cases hgy
  ·rw[e1] at hgy
   cases hgy
   rw[hK] at e3
   cases e3
 case stop=>
  rintro D c pre W hD _ h _
  exact h.elim
end Go.Proofs.Yteebobbhhgmeiaa
namespace Go.Proofs.Yteebobbhhgmeiaa
open Go.RowKit
def Bu2 (l:List TGroup) (r:TRow):List UInt8:=A9x r.key++(l.zip r.cells).flatMap (fun x=>Bfr x.1.policy x.2)
def Bu3 (l:List TGroup) (r:TRow):List UInt8:=bif Ai l r==0 then Bu2 l r else[]
def Ui (_a0:List UInt8) (a1:List TGroup) (a2:TRow):Bool:=Ai a1 a2 !=(0:Int)
def A6g (a0:List UInt8) (_a1:List TGroup) (_a2:TRow):List UInt8:=[]++a0
def A6h (_a0:List UInt8) (_a1:List TGroup) (_a2:TRow):A:=.sq 0
def YO (a0:List UInt8) (a1:List TGroup) (a2:TRow):Objs:=[(0,some (.arr 5 1 (.ty .u8 (A6g a0 a1 a2))))]
def A1g (a0:List UInt8) (a1:List TGroup) (a2:TRow):List Prop:=[((Ui a0 a1 a2)=true→Ag ((0:Nat)+a0.length)),((!(Ui a0 a1 a2))=true→Ag (a0.length+(8:Nat)+a2.1.size)),((!(Ui a0 a1 a2))=true→Aeu (4:Nat))]
theorem Bla (a0:List UInt8) (a1:List TGroup) (a2:TRow):Er (Au Cl L0) 9 79 [Ae .bytes a0,.sl .group a1,Ae .row a2] 0 []=some (1,A6h a0 a1 a2,1,YO a0 a1 a2,A1g a0 a1 a2):=by kernel_rfl
theorem Bqa (a0:List UInt8) (a1:List TGroup) (a2:TRow) (hp:∀p∈A1g a0 a1 a2,p):CallOk Try.prog 79 [Ae .bytes a0,.sl .group a1,Ae .row a2] 0 [] 1 (A6h a0 a1 a2) 1 (YO a0 a1 a2):=Az (Ap Bcf Ay) (Bla a0 a1 a2) hp
def A1h (_a0:List UInt8) (_a1:List TGroup) (_a2:TRow):A:=.sq 0
def Mn (a0:List UInt8) (a1:List TGroup) (a2:TRow):Objs:=[(0,some (.arr 5 1 (.ty .u8 (a0++Bu3 a1 a2))))]
def Aq5 (a0:List UInt8) (_a1:List TGroup) (_a2:TRow):List Prop:=[Ag (a0.length+1024)]
section
variable {F:Nat→Prop} {N:Nm} {nx:Nat} {R:World}
theorem A49:∀{l:List UInt8} {zs:List Value},zs.length=l.length→(∀k,k <l.length→HL F N nx R [.v (Bi (l.getD k 0))] ((zs.drop (k*1)).take 1))→zs=l.map Bi
 | [],[],_,_=>rfl
 | [],_::_,h,_=>by cases h
 |_::_,[],h,_=>by cases h
 | x::l,z::zs,h,g=>by
  have h0:=g 0 (Nat.succ_pos _)
  obtain⟨v,vs,e1,e2,e3⟩:=h0.inv
  have hz:z=Bi x:=by
   have e1':[z]=v::vs:=e1
   injection e1' with e1' _
   rw[e1']
   exact e2.v_inv
  rw[List.map_cons,←hz,A49 (l:=l) (zs:=zs) (by simpa using h) fun k hk=>by
   have:=g (k+1) (Nat.succ_lt_succ hk)
   simpa[Nat.mul_one] using this]
theorem Bqb {l:List UInt8} {k:Nat} (hk:k <l.length):HL F N nx R [.v (Bi (l.getD k 0))] (((l.map Bi).drop (k*1)).take 1):=by
 rw[Nat.mul_one,List.drop_eq_getElem_cons (by simpa using hk),List.take_succ_cons,List.take_zero,List.getElem_map,List.getD_eq_getElem?_getD,List.getElem?_eq_getElem hk]
 exact HL.cons (.v _) HL.nil
theorem OwnB.sl {base:Nat} {y:Value} {bs:List UInt8} (h:OwnB base R y bs) (N:Nm):(∀g,CD y=some g→g <R.heap.size)∧Hv (fun g=>CD y=some g) N 0 R (.sl .u8 bs) y:=by
 refine⟨fun g hg=>h.1.lt hg,?_⟩
 obtain⟨hl,h2⟩:=h.1
 rcases h2 with⟨a,e1,e2⟩|⟨g,cap,cur,e1,e2,e3,_,e5,e6⟩
 ·obtain rfl:bs=[]:=List.eq_nil_of_length_eq_zero e2
  rw[e1]
  exact Hv.sl_nil rfl
 ·rw[e1]
  refine Hv.of_sl e3 fun hn=>⟨⟨g,0,none⟩,rfl,?_,fun i d hd j x hx=>?_⟩
  ·obtain⟨m,hm⟩:∃m,bs.length=m+1:=⟨bs.length - 1,by omega⟩
   rw[hm]
   rfl
  ·cases j with
   |succ j=>cases hx
   |zero=>
    have hi:=(List.getElem?_eq_some_iff.1 hd).1
    have hz:(bs.map Bi)[i]?=some (Bi d):=by rw[List.getElem?_map,hd];rfl
    rw[←e6,List.getElem?_take_of_lt (by omega)] at hz
    obtain rfl:A.v (Bi d)=x:=Option.some.inj hx
    refine⟨Bi d,?_,.v _⟩
    rw[DN,E4,FT e2]
    show cur[0+(i*1+0)]?=_
    rw[Nat.zero_add,Nat.add_zero,Nat.mul_one]
    simpa using hz
end
theorem CallOk.bytes {P:Program} {f:FuncId} {args:List A} {bs:List UInt8} (h:CallOk P f args 0 [] 1 (.sq 0) 1 [(0,some (.arr 5 1 (.ty .u8 bs)))]) {F:Nat→Prop} {N:Nm} {R:World} {vs:List Value} (hF:∀g,F g→g <R.heap.size) (hv:HL F N 0 R args vs):
  Calls P f vs.toArray R fun e R'=>∃y,e=.returned y∧Below R.heap.size R R'∧OwnB R.heap.size R' y bs:=by
 refine(h F N R vs (HRel.bare hF) hv).mono fun e R' ⟨y,F',N',e1,h2,h3,h4,h5⟩=>⟨y,e1,h5 (Nat.le_refl _),?_⟩
 obtain rfl:y=N'.q 0:=by cases h4;rfl
 obtain⟨_,zs,g1,g2⟩:=h2.ob 0 _ rfl
 have e:zs=bs.map Bi:=A49 (F:=F') (N:=N') (nx:=1) (R:=R') (by rw[g1.1];exact Nat.mul_one _) g2
 rw[e] at g1
 refine⟨g1,fun g hg=>?_⟩
 rcases h3.foot g ⟨0,_,rfl,hg⟩ with⟨i,ob,hl,_⟩|h
 ·cases hl
 ·exact h
theorem OwnB.made {P:Program} {f:FuncId} {F:Nat→Prop} {N:Nm} {R:World} {vs:List Value} {bs:List UInt8} (hR:HRel F N 0 [] R)
  (h:Calls P f vs.toArray R fun e R'=>∃y,e=.returned y∧Below R.heap.size R R'∧OwnB R.heap.size R' y bs):
  Calls P f vs.toArray R fun e R'=>∃y F' N',e=.returned y∧HRel F' N' 1 [(0,some (.arr 5 1 (.ty .u8 bs)))] R'∧Step F N 0 [] R F' N' 1 [(0,some (.arr 5 1 (.ty .u8 bs)))] R'∧Hv F' N' 1 R' (.sq 0) y∧(1≤1→Below R.heap.size R R'):=by
 refine h.mono fun e R' ⟨y,e1,hb,h2,h3⟩=>⟨y,F,N.setQ 0 y,e1,?_,?_,?_,fun _=>hb⟩
 ·have hq:(N.setQ 0 y).q 0=y:=by show KV N.q 0 y 0=y;exact CC _ _ _
  have one:∀i ob,Ar i [(0,some (Ob.arr 5 1 (.ty .u8 bs)))]=some ob→i=0∧ob=.arr 5 1 (.ty .u8 bs):=fun i ob hl=>by
   cases i with
   |zero=>cases hl;exact⟨rfl,rfl⟩
   |succ i=>cases hl
  refine⟨fun g hg=>Nat.lt_of_lt_of_le (hR.flt g hg) hb.size,fun i ob hl=>?_,fun i ob g hl hg hF=>?_,fun i j x z g hl hl' _ _=>(one i x hl).1.trans (one j z hl').1.symm⟩
  ·obtain⟨rfl,rfl⟩:=one i ob hl
   exact⟨Nat.succ_pos _,bs.map Bi,by rw[hq];exact h2,fun k hk=>Bqb hk⟩
  ·obtain⟨rfl,rfl⟩:=one i ob hl
   have hg':CD ((N.setQ 0 y).q 0)=some g:=hg
   rw[hq] at hg'
   have:=hR.flt g hF
   have:=h3 g hg'
   omega
 ·refine⟨Nat.zero_le _,fun i hi=>absurd hi (Nat.not_lt_zero _),fun i hi=>absurd hi (Nat.not_lt_zero _),fun _ h=>h,fun _ h=> .inl h,fun g ⟨i,ob,hl,hg⟩=> .inr ?_,hb.os,hb.tape,hb.output,hb.size,fun g hg _=>hb.block g hg⟩
  cases i with
  |succ i=>cases hl
  |zero=>
   cases hl
   have hg':CD ((N.setQ 0 y).q 0)=some g:=hg
   rw[show(N.setQ 0 y).q 0=y by show KV N.q 0 y 0=y;exact CC _ _ _] at hg'
   exact h3 g hg'
 ·have hq:(N.setQ 0 y).q 0=y:=by show KV N.q 0 y 0=y;exact CC _ _ _
  have:=Hv.sq (F:=F) (N:=N.setQ 0 y) (nx:=1) (R:=R') (i:=0) (Nat.succ_pos _)
  rw[hq] at this
  exact this
theorem Byp (p:Int) (c:TCell):(Bfr p c).length≤128:=by
 unfold Bfr Bsz
 cases hg:Bo p c with
 |false=>exact Nat.zero_le _
 | true=>
  have n8:=Xq (OJ c)
  have s8:=Bu4 c.stamp
  have v16:=A9y c.vec
  have d16:=A9y c.dead
  have t8:=Bjz c.value
  cases hw:B9 c with
  |false=>cases G3 c.dead<;>simp only[cond_true,cond_false,List.length_append,List.length_nil]<;>omega
  |true=>
   have:=((A5k.1 hg).st hw).2.2.2.1
   cases G3 c.dead<;>cases c.gone<;>simp only[cond_true,cond_false,List.length_append,List.length_nil]<;>omega
theorem Bk9 (a0:List UInt8) (a1:List TGroup) (a2:TRow) (hp:∀p∈Aq5 a0 a1 a2,p):CallOk Try.prog 79 [Ae .bytes a0,.sl .group a1,Ae .row a2] 0 [] 1 (A1h a0 a1 a2) 1 (Mn a0 a1 a2):=by
 have hb:Ag (a0.length+1024):=hp _ (List.mem_cons_self ..)
 unfold Ag at hb
 cases hg:Ai a1 a2==0 with
 | false=>
  have hk:Ui a0 a1 a2=true:=by
   show(Ai a1 a2 !=0)=true
   simpa using hg
  have h:=Bqa a0 a1 a2 (Aa (fun _=>by unfold Ag;omega) (Aa (fun h=>by rw[hk] at h;cases h) (Aa (fun h=>by rw[hk] at h;cases h) Ad)))
  have e:YO a0 a1 a2=Mn a0 a1 a2:=by
   unfold YO Mn A6g Bu3
   rw[hg,cond_false,List.append_nil,List.nil_append]
  rw[e] at h
  exact h
 | true=>
  have h0:Ai a1 a2=0:=by simpa using hg
  obtain⟨h1,hlen,_,h32,_⟩:=AM h0
  obtain⟨hl1,hl4⟩:=G0 h1
  intro F N R vs hR hv
  obtain⟨v,vs,rfl,hv0,hv⟩:=hv.inv
  obtain⟨v0,vs,rfl,k0,hv⟩:=hv.inv
  obtain⟨v1,vs,rfl,k1,hv⟩:=hv.inv
  rw[hv.inv0]
  have hv0':=hv0
  obtain⟨ab,ncap,rfl,_⟩:=Hv.sl_inv (c:=.u8) (l:=a0) hv0
  obtain⟨us,rfl,k2⟩:=Hv.agg_inv (xs:=[.v (.string a2.key),.sl .cell a2.cells]) k1
  obtain⟨u0,us,rfl,m0,k2⟩:=k2.inv
  obtain⟨u1,us,rfl,m1,k2⟩:=k2.inv
  obtain rfl:=k2.inv0
  obtain rfl:=m0.v_inv
  obtain⟨aa,cap0,rfl,g0⟩:=B0k hR.flt k0
  obtain⟨ac,cap1,rfl,g1⟩:=B0i hR.flt m1
  have ho:Mn a0 a1 a2=[(0,some (.arr 5 1 (.ty .u8 ((a0++A9x a2.key)++(a1.zip a2.cells).flatMap (fun x=>Bfr x.1.policy x.2)))))]:=by
   unfold Mn Bu3 Bu2
   rw[hg,cond_true,List.append_assoc]
  rw[ho]
  refine OwnB.made hR (Blc R aa ac a1 a2.cells a2.key cap0 cap1 a0.length ncap ab (a0++A9x a2.key) Bfr 128 Byp ?_ hl1 hl4 (by rw[hlen];exact MM _) ?_ ?_ g0 g1)
  ·intro W hW
   have h:Calls Try.prog 65 #[.slice aa a1.length cap0,.agg #[.string a2.key,.slice ac a2.cells.length cap1]] W fun e W'=>e=.returned (.int .i64 (Ai a1 a2))∧Below W.heap.size W W':=(Aqx a1 a2 (fun _ h=>by cases h)).plain (F:=F) (N:=N) (R:=W) (vs:=[.slice aa a1.length cap0,.agg #[.string a2.key,.slice ac a2.cells.length cap1]]) (fun g hg=>Nat.lt_of_lt_of_le (hR.flt g hg) hW.size) (HL.cons (k0.step (hR.grow hW).2) (HL.cons (k1.step (hR.grow hW).2) HL.nil))
   rw[h0] at h
   exact h
  ·intro W hW
   exact(W6 a0 a2.key (Aa (by unfold Ag;omega) Ad)).bytes (F:=F) (N:=N) (R:=W) (vs:=[_,.string a2.key]) (fun g hg=>Nat.lt_of_lt_of_le (hR.flt g hg) hW.size) (HL.cons (hv0'.step (hR.grow hW).2) (HL.cons (.v _) HL.nil))
  ·intro W v bs q c base ho hl
   obtain⟨f1,f2⟩:=ho.sl N
   have h8:=Bjz a2.key
   rw[List.length_append] at hl
   exact(An2 bs q c (Aa (by unfold Ag;omega) Ad)).bytes (F:=fun g=>CD v=some g) (N:=N) (R:=W) (vs:=[v,.int .i64 q,cV c]) f1 (HL.cons f2 (HL.cons (.v _) (HL.cons (.v _) HL.nil)))
def A6i:List A→Nat→Objs→Option AU:=A5 [.t .bytes,.l .group,.t .row] 1 A1h Mn Aq5
theorem Bhe:Ev Try.prog 79 A6i:=As (ks:=[.t .bytes,.l .group,.t .row]) Bk9
noncomputable def B1j:=AQ 79 A6i Cl
theorem Bmm:Cp Try.prog B1j:=Ak Bhe Bcf
def Aq (a0:Int) (a1:Int) (a2:Int):Int:=bif decide (a0 >a2)||decide (a1 >a2)||decide (a0 >IntKind.i64.wrap (a2 - a1)) then IntKind.i64.wrap (a2+(1:Int)) else IntKind.i64.wrap (a0+a1)
def Alt (a0:Int) (a1:Int) (a2:Int):A:=.v (.int .i64 (Aq a0 a1 a2))
def Als (_a0:Int) (_a1:Int) (_a2:Int):Objs:=[]
def Acs (_a0:Int) (_a1:Int) (_a2:Int):List Prop:=[]
theorem Bj2 (a0:Int) (a1:Int) (a2:Int):Er (Au B1j L0) 9 111 [Ae .i64 a0,Ae .i64 a1,Ae .i64 a2] 0 []=some (1,Alt a0 a1 a2,0,Als a0 a1 a2,Acs a0 a1 a2):=by kernel_rfl
theorem Bpx (a0:Int) (a1:Int) (a2:Int) (hp:∀p∈Acs a0 a1 a2,p):CallOk Try.prog 111 [Ae .i64 a0,Ae .i64 a1,Ae .i64 a2] 0 [] 1 (Alt a0 a1 a2) 0 (Als a0 a1 a2):=Az (Ap Bmm Ay) (Bj2 a0 a1 a2) hp
def Alu:List A→Nat→Objs→Option AU:=A5 [.t .i64,.t .i64,.t .i64] 0 Alt Als Acs
theorem Ao8:Ev Try.prog 111 Alu:=As (ks:=[.t .i64,.t .i64,.t .i64]) Bpx
noncomputable def Bh7:=AQ 111 Alu B1j
theorem Auk:Cp Try.prog Bh7:=Ak Ao8 Bmm
theorem Au9 {n k m:Int} (hn:0≤n) (hk:0≤k∧k≤9223372036854775807) (hm:0≤m∧m≤1099511627776):(Aq n k m≤m→n+k≤m)∧0≤Aq n k m∧(n+k≤m→Aq n k m=n+k):=by
 unfold Aq
 rw[i64_in (n:=m - k) (by omega),i64_in (n:=m+1) (by omega)]
 by_cases h:n+k≤m
 ·have e:(decide (n >m)||decide (k >m)||decide (n >m - k))=false:=by
   rw[decide_eq_false (by omega),decide_eq_false (by omega),decide_eq_false (by omega)];rfl
  rw[e,cond_false,i64_in (by omega)]
  exact⟨fun _=>h,by omega,fun _=>rfl⟩
 ·have e:(decide (n >m)||decide (k >m)||decide (n >m - k))=true:=by
   rw[decide_eq_true (p:=n >m - k) (by omega),Bool.or_true]
  rw[e,cond_true]
  exact⟨fun h'=>by omega,by omega,fun h'=>absurd h' h⟩
theorem Abb {k:Nat} (h:Ao k):(0:Int)≤(k:Int)∧(k:Int)≤9223372036854775807:=by unfold Ao at h;omega
abbrev BS:Type:=(List TRow)×Int×Int×Int
def Le (x:BS):St:=⟨64,0,[(1,.sl .row x.1),(5,.v (.int .i64 x.2.1)),(6,.v (.int .i64 x.2.2.1)),(7,.v (.int .i64 x.2.2.2))],[]⟩
def Nc:St→Option BS
 |⟨64,0,[(1,.sl .row z0),(5,.v (.int .i64 z1)),(6,.v (.int .i64 z2)),(7,.v (.int .i64 z3))],[]⟩=>some (z0,z1,z2,z3)
 |_=>none
theorem Age:∀s x,Nc s=some x→s=Le x:=fun s x h=>by
 unfold Nc at h
 split at h
 ·cases h;rfl
 ·cases h
def Wq:CU:=⟨0,0,[1,5,6,7],[],[],[],[5],[]⟩
def Awu:C9:=⟨[],[],[1,5,6,7],[]⟩
def DT (a0:List TRow) (a1:Int) (a2:Int) (a3:Int):Bool:=!!(decide (a3 <(↑(a0.getD a2.toNat (Ac TC.row)).2.length:Int))&&decide (a1≤(5000:Int)))
def L1 (a0:List TRow) (a1:Int) (a2:Int) (a3:Int):Int:=Aq a1 (↑((a0.getD a2.toNat (Ac TC.row)).2.getD a3.toNat (Ac TC.cell)).4.size:Int) (5000:Int)
def Akq (a0:List TRow) (a1:Int) (a2:Int) (a3:Int):Bool:=!(decide (a3 <(↑(a0.getD a2.toNat (Ac TC.row)).2.length:Int))&&decide (a1≤(5000:Int)))
def Cz (x:BS):BS:=(x.1,L1 x.1 x.2.1 x.2.2.1 x.2.2.2,x.2.2.1,IntKind.i64.wrap (x.2.2.2+(1:Int)))
def Cy (x:BS):Cnd:=some ((DT x.1 x.2.1 x.2.2.1 x.2.2.2))
def L2 (x:BS):List Prop:=[((0:Int)≤x.2.2.1∧x.2.2.1 <(↑x.1.length:Int)),((DT x.1 x.2.1 x.2.2.1 x.2.2.2)=true→(0:Int)≤x.2.2.1∧x.2.2.1 <(↑x.1.length:Int)),((DT x.1 x.2.1 x.2.2.1 x.2.2.2)=true→(0:Int)≤x.2.2.2∧x.2.2.2 <(↑(x.1.getD x.2.2.1.toNat (Ac TC.row)).2.length:Int))]
abbrev Eo:BS→List Prop:=L2
def Qf (x:BS):Bb:=[(some 2,some (Akq x.1 x.2.1 x.2.2.1 x.2.2.2),⟨64,0,[(5,.v (.int .i64 x.2.1))],[]⟩)]
def Db (x:BS):Nat:=((↑(x.1.getD x.2.2.1.toNat (Ac TC.row)).2.length:Int) - x.2.2.2).toNat
def JD (x:BS):BS:=AZ Cz Cy (Db x) x
theorem Ar3 (a0:List TRow) (a1:Int) (a2:Int) (a3:Int):Bl (Au Bh7 L0) 9 (Af Try.prog 60 2) Wq (Le (a0,a1,a2,a3))=some (L2 (a0,a1,a2,a3),Qf (a0,a1,a2,a3),Cy (a0,a1,a2,a3),Le (Cz (a0,a1,a2,a3))):=by kernel_rfl
theorem Ar4 (a0:List TRow) (a1:Int) (a2:Int) (a3:Int) (hp:∀p∈Eo (a0,a1,a2,a3),p):∀p∈L2 (a0,a1,a2,a3),p:=hp
noncomputable def Sq:=Hw (Au Bh7 L0) (Af Try.prog 60 2) Wq Awu Nc Db Cz Cy Eo Qf
theorem Akr:∀s b ps outs,Sq s=some (b,ps,outs)→Wf s ⟨ps,outs,none⟩∧Bh (Au C0 L0) b s ps outs:=
 A9 (T:=Le) Auk Ay (u:=9) (by kernel_rfl) (by decide) (fun⟨a0,a1,a2,a3⟩=>Ar3 a0 a1 a2 a3) (fun⟨a0,a1,a2,a3⟩=>Ar4 a0 a1 a2 a3) Age (fun _=>AH (n:=64) rfl) fun _ _=>rfl
noncomputable def Ld:=Di 2 Sq L0
theorem Sp:G1 Ld:=AS Akr Ay
abbrev BR:Type:=(List TRow)×Int×Int
def Lc (x:BR):St:=⟨64,0,[(1,.sl .row x.1),(5,.v (.int .i64 x.2.1)),(6,.v (.int .i64 x.2.2))],[]⟩
def Nb:St→Option BR
 |⟨64,0,[(1,.sl .row z0),(5,.v (.int .i64 z1)),(6,.v (.int .i64 z2))],[]⟩=>some (z0,z1,z2)
 |_=>none
theorem Agd:∀s x,Nb s=some x→s=Lc x:=fun s x h=>by
 unfold Nb at h
 split at h
 ·cases h;rfl
 ·cases h
def Wp:CU:=⟨0,0,[1,5,6],[],[],[],[5],[]⟩
def Awt:C9:=⟨[],[],[1,5,6],[]⟩
def A6 (a0:List TRow) (a1:Int) (a2:Int):Bool:=!!(decide (a2 <(↑a0.length:Int))&&decide (a1≤(5000:Int)))
def Gh (a0:List TRow) (a1:Int) (a2:Int):Int:=(JD (a0,Aq (Aq a1 (↑(a0.getD a2.toNat (Ac TC.row)).1.size:Int) (5000:Int)) (↑(a0.getD a2.toNat (Ac TC.row)).2.length:Int) (5000:Int),a2,(0:Int))).snd.fst
def Ako (a0:List TRow) (a1:Int) (a2:Int):Bool:=!(decide (a2 <(↑a0.length:Int))&&decide (a1≤(5000:Int)))
def Fh (x:BR):BR:=(x.1,Gh x.1 x.2.1 x.2.2,IntKind.i64.wrap (x.2.2+(1:Int)))
def Fg (x:BR):Cnd:=some ((A6 x.1 x.2.1 x.2.2))
def Sm (x:BR):List Prop:=[((A6 x.1 x.2.1 x.2.2)=true→(0:Int)≤x.2.2∧x.2.2 <(↑x.1.length:Int)),((A6 x.1 x.2.1 x.2.2)=true→(0:Int)≤x.2.2∧x.2.2 <(↑x.1.length:Int)),((A6 x.1 x.2.1 x.2.2)=true→Af Try.prog (60:FuncId) (2:Nat)=Af Try.prog (60:FuncId) (2:Nat)),((A6 x.1 x.2.1 x.2.2)=true→AD Cz Cy Eo (Db (x.1,Aq (Aq x.2.1 (↑(x.1.getD x.2.2.toNat (Ac TC.row)).1.size:Int) (5000:Int)) (↑(x.1.getD x.2.2.toNat (Ac TC.row)).2.length:Int) (5000:Int),x.2.2,(0:Int))) (x.1,Aq (Aq x.2.1 (↑(x.1.getD x.2.2.toNat (Ac TC.row)).1.size:Int) (5000:Int)) (↑(x.1.getD x.2.2.toNat (Ac TC.row)).2.length:Int) (5000:Int),x.2.2,(0:Int)))]
def IF (x:BR):List Prop:=[((A6 x.1 x.2.1 x.2.2)=true→(0:Int)≤x.2.2∧x.2.2 <(↑x.1.length:Int)),((A6 x.1 x.2.1 x.2.2)=true→AD Cz Cy Eo (Db (x.1,Aq (Aq x.2.1 (↑(x.1.getD x.2.2.toNat (Ac TC.row)).1.size:Int) (5000:Int)) (↑(x.1.getD x.2.2.toNat (Ac TC.row)).2.length:Int) (5000:Int),x.2.2,(0:Int))) (x.1,Aq (Aq x.2.1 (↑(x.1.getD x.2.2.toNat (Ac TC.row)).1.size:Int) (5000:Int)) (↑(x.1.getD x.2.2.toNat (Ac TC.row)).2.length:Int) (5000:Int),x.2.2,(0:Int)))]
def Qe (x:BR):Bb:=[(some 0,some (Ako x.1 x.2.1 x.2.2),⟨64,0,[(5,.v (.int .i64 x.2.1))],[]⟩)]
def Ho (x:BR):Nat:=((↑x.1.length:Int) - x.2.2).toNat
def So (x:BR):BR:=AZ Fh Fg (Ho x) x
theorem Ar1 (a0:List TRow) (a1:Int) (a2:Int):Bl (Au Bh7 Ld) 9 (Af Try.prog 60 0) Wp (Lc (a0,a1,a2))=some (Sm (a0,a1,a2),Qe (a0,a1,a2),Fg (a0,a1,a2),Lc (Fh (a0,a1,a2))):=by kernel_rfl
theorem Ar2 (a0:List TRow) (a1:Int) (a2:Int) (hp:∀p∈IF (a0,a1,a2),p):∀p∈Sm (a0,a1,a2),p:=by
 have n0:((A6 a0 a1 a2)=true→(0:Int)≤a2∧a2 <(↑a0.length:Int)):=N0 hp
 have n2:((A6 a0 a1 a2)=true→Af Try.prog (60:FuncId) (2:Nat)=Af Try.prog (60:FuncId) (2:Nat)):=by intros;rfl
 have n3:=N0 (N1 hp)
 exact(Aa n0 (Aa n0 (Aa n2 (Aa n3 Ad))))
noncomputable def Sn:=Hw (Au Bh7 Ld) (Af Try.prog 60 0) Wp Awt Nb Ho Fh Fg IF Qe
theorem Akp:∀s b ps outs,Sn s=some (b,ps,outs)→Wf s ⟨ps,outs,none⟩∧Bh (Au C0 L0) b s ps outs:=
 A9 (T:=Lc) Auk Sp (u:=9) (by kernel_rfl) (by decide) (fun⟨a0,a1,a2⟩=>Ar1 a0 a1 a2) (fun⟨a0,a1,a2⟩=>Ar2 a0 a1 a2) Agd (fun _=>AH (n:=64) rfl) fun _ _=>rfl
noncomputable def Wo:=Di 0 Sn Ld
theorem Akn:G1 Wo:=AS Akp Sp
def Qd (a0:List TGroup) (a1:List TRow):Bool:=decide ((So (a1,Aq (0:Int) (↑a0.length:Int) (5000:Int),(0:Int))).snd.fst≤(5000:Int))
def Aoi (a0:List TGroup) (a1:List TRow):A:=.v (.bool (Qd a0 a1))
def Aoh (_a0:List TGroup) (_a1:List TRow):Objs:=[]
def Agg (a0:List TGroup) (a1:List TRow):List Prop:=[(AD Fh Fg IF (Ho (a1,Aq (0:Int) (↑a0.length:Int) (5000:Int),(0:Int))) (a1,Aq (0:Int) (↑a0.length:Int) (5000:Int),(0:Int)))]
theorem A8r (a0:List TGroup) (a1:List TRow):Er (Au Bh7 Wo) 9 60 [.sl .group a0,Ae .rows a1] 0 []=some (1,Aoi a0 a1,0,Aoh a0 a1,[(Af Try.prog (60:FuncId) (0:Nat)=Af Try.prog (60:FuncId) (0:Nat)),(AD Fh Fg IF (Ho (a1,Aq (0:Int) (↑a0.length:Int) (5000:Int),(0:Int))) (a1,Aq (0:Int) (↑a0.length:Int) (5000:Int),(0:Int)))]):=by kernel_rfl
theorem Beu (a0:List TGroup) (a1:List TRow) (hp:∀p∈Agg a0 a1,p):CallOk Try.prog 60 [.sl .group a0,Ae .rows a1] 0 [] 1 (Aoi a0 a1) 0 (Aoh a0 a1):=by
 have n1:=N0 hp
 exact Az (Ap Auk Akn) (A8r a0 a1) (Aa rfl (Aa n1 Ad))
def Agh (a0:List TGroup) (a1:List TRow):A:=.v (.bool (Qd a0 a1))
def Agf (_a0:List TGroup) (_a1:List TRow):Objs:=[]
def Zv (a0:List TGroup) (a1:List TRow):List Prop:=[Ao a0.length∧Ao a1.length∧∀r∈a1,Ao r.key.size∧Ao r.cells.length∧∀c∈r.cells,Ao c.value.size]
def Um (m:Nat) (r:TRow):Prop:=r.key.size≤m∧r.cells.length≤m∧∀c∈r.cells,c.value.size≤m
def Abg (r:TRow):Prop:=Ao r.key.size∧Ao r.cells.length∧∀c∈r.cells,Ao c.value.size
theorem getD_in {α:Type} (l:List α) (d:α) (i:Nat) (h:i <l.length):l.getD i d∈l:=by
 rw[List.getD_eq_getElem?_getD,List.getElem?_eq_getElem h]
 exact List.getElem_mem h
def nk (cs:List TCell) (n0:Int):Nat→Int
 |0=>n0
 |k+1=>Aq (nk cs n0 k) ((cs.getD k (Ac TC.cell)).4.size:Int) 5000
theorem B0n (cs:List TCell) (n0:Int) (h0:0≤n0) (hw:∀c∈cs,Ao c.value.size):∀k,k≤cs.length→0≤nk cs n0 k∧(nk cs n0 k≤5000→n0≤5000∧∀j,j <k→(cs.getD j (Ac TC.cell)).value.size≤5000)
 |0,_=>⟨h0,fun h=>⟨h,fun j hj=>absurd hj (Nat.not_lt_zero _)⟩⟩
 | k+1,hk=>by
  obtain⟨g1,g2⟩:=B0n cs n0 h0 hw k (by omega)
  obtain⟨a1,a2,_⟩:=Au9 g1 (Abb (hw _ (getD_in cs (Ac TC.cell) k (by omega)))) (m:=5000) (by omega)
  refine⟨a2,fun h=>?_⟩
  have h':=a1 h
  obtain⟨b1,b2⟩:=g2 (by omega)
  refine⟨b1,fun j hj=>?_⟩
  by_cases e:j <k
  ·exact b2 j e
  ·obtain rfl:j=k:=by omega
   show(cs.getD j (Ac TC.cell)).4.size≤5000
   omega
theorem Be6 (rows:List TRow) (i:Nat) (hi:i <rows.length) (n0:Int) (h0:0≤n0) (hl:n0≤5000→(rows.getD i (Ac TC.row)).cells.length≤5000) (hw:∀c∈(rows.getD i (Ac TC.row)).cells,Ao c.value.size):
  AD Cz Cy Eo (Db (rows,n0,(i:Int),0)) (rows,n0,(i:Int),0)∧
  0≤(JD (rows,n0,(i:Int),0)).snd.fst∧((JD (rows,n0,(i:Int),0)).snd.fst≤5000→n0≤5000∧∀c∈(rows.getD i (Ac TC.row)).cells,c.value.size≤5000):=by
 generalize hcs:(rows.getD i (Ac TC.row)).cells=cs at*
 have hcs2:(rows.getD i (Ac TC.row)).2=cs:=hcs
 have hgo:∀k:Nat,DT rows (nk cs n0 k) (i:Int) (k:Int)=(decide (k <cs.length)&&!!decide (nk cs n0 k≤5000)):=fun k=>by
  unfold DT
  rw[Int.toNat_natCast,hcs2,nn,nn,Mp]
 obtain⟨h1,k,hk,hx,hs,hst,_⟩:=Ij (fun k=>((rows,nk cs n0 k,(i:Int),(k:Int)):BS)) cs.length (fun k=>!decide (nk cs n0 k≤5000)) Cz Cy Eo (Db (rows,n0,(i:Int),0)) (rows,n0,(i:Int),0) rfl
  (by show cs.length≤(((rows.getD ((i:Int)).toNat (Ac TC.row)).2.length:Int) - 0).toNat;rw[Int.toNat_natCast,hcs2];omega)
  (fun k _ _=>by
   show DT rows (nk cs n0 k) (i:Int) (k:Int)=_
   rw[hgo])
  (fun k hk hs=>by
   have h5:n0≤5000:=by
    have:=hs 0 (Nat.succ_pos k)
    rw[Bool.not_eq_false'] at this
    exact of_decide_eq_true this
   have:=hl h5
   show(rows,L1 rows (nk cs n0 k) (i:Int) (k:Int),(i:Int),IntKind.i64.wrap ((k:Int)+1))=(rows,nk cs n0 (k+1),(i:Int),((k+1:Nat):Int))
   rw[Eu (by omega)]
   unfold L1
   rw[Int.toNat_natCast,Int.toNat_natCast,hcs2]
   rfl)
  (fun k _ _=>Aa (by show(0:Int)≤(i:Int)∧(i:Int) <(rows.length:Int);omega) (Aa (fun _=>by show(0:Int)≤(i:Int)∧(i:Int) <(rows.length:Int);omega) (Aa (fun h=>by
   have h':DT rows (nk cs n0 k) (i:Int) (k:Int)=true:=h
   rw[hgo,Bool.and_eq_true] at h'
   have:=of_decide_eq_true h'.1
   show(0:Int)≤(k:Int)∧(k:Int) <((rows.getD ((i:Int)).toNat (Ac TC.row)).2.length:Int)
   rw[Int.toNat_natCast,hcs2]
   omega) Ad)))
 have hr:JD (rows,n0,(i:Int),0)=(rows,nk cs n0 k,(i:Int),(k:Int)):=hx
 obtain⟨g1,g2⟩:=B0n cs n0 h0 hw k hk
 rw[hr]
 refine⟨h1,g1,fun h=>?_⟩
 obtain⟨b1,b2⟩:=g2 h
 refine⟨b1,fun c hc=>?_⟩
 have hkn:k=cs.length:=by
  rcases Nat.lt_or_ge k cs.length with h'|h'
  ·have:=hst h'
   rw[decide_eq_true h] at this
   cases this
  ·omega
 obtain⟨j,hj,rfl⟩:=List.mem_iff_getElem.1 hc
 have:=b2 j (by omega)
 rw[List.getD_eq_getElem?_getD,List.getElem?_eq_getElem hj] at this
 exact this
def nr (rows:List TRow) (n0:Int):Nat→Int
 |0=>n0
 |i+1=>Gh rows (nr rows n0 i) (i:Int)
theorem Aw5 (rows:List TRow) (i:Nat) (hi:i <rows.length) (n:Int) (hn:0≤n) (hw:Abg (rows.getD i (Ac TC.row))):
  AD Cz Cy Eo (Db (rows,Aq (Aq n ((rows.getD i (Ac TC.row)).1.size:Int) 5000) ((rows.getD i (Ac TC.row)).2.length:Int) 5000,(i:Int),0)) (rows,Aq (Aq n ((rows.getD i (Ac TC.row)).1.size:Int) 5000) ((rows.getD i (Ac TC.row)).2.length:Int) 5000,(i:Int),0)∧
  0≤Gh rows n (i:Int)∧(Gh rows n (i:Int)≤5000→n≤5000∧Um 5000 (rows.getD i (Ac TC.row))):=by
 obtain⟨w1,w2,w3⟩:=hw
 obtain⟨a1,a2,_⟩:=Au9 (k:=((rows.getD i (Ac TC.row)).1.size:Int)) hn (Abb w1) (m:=5000) (by omega)
 obtain⟨c1,c2,_⟩:=Au9 (k:=((rows.getD i (Ac TC.row)).2.length:Int)) a2 (Abb w2) (m:=5000) (by omega)
 obtain⟨g1,g2,g3⟩:=Be6 rows i hi _ c2 (fun h=>by have:=c1 h;show(rows.getD i (Ac TC.row)).2.length≤5000;omega) w3
 unfold Gh
 rw[Int.toNat_natCast]
 refine⟨g1,g2,fun h=>?_⟩
 obtain⟨h1,h2⟩:=g3 h
 have q1:=c1 h1
 have q2:=a1 (by omega)
 exact⟨by omega,by show(rows.getD i (Ac TC.row)).1.size≤5000;omega,by show(rows.getD i (Ac TC.row)).2.length≤5000;omega,h2⟩
theorem Buo (rows:List TRow) (n0:Int) (h0:0≤n0) (hw:∀r∈rows,Abg r):∀k,k≤rows.length→0≤nr rows n0 k∧(nr rows n0 k≤5000→n0≤5000∧∀j,j <k→Um 5000 (rows.getD j (Ac TC.row)))
 |0,_=>⟨h0,fun h=>⟨h,fun j hj=>absurd hj (Nat.not_lt_zero _)⟩⟩
 | k+1,hk=>by
  obtain⟨g1,g2⟩:=Buo rows n0 h0 hw k (by omega)
  obtain⟨_,a2,a3⟩:=Aw5 rows k (by omega) (nr rows n0 k) g1 (hw _ (getD_in rows (Ac TC.row) k (by omega)))
  refine⟨a2,fun h=>?_⟩
  obtain⟨h1,h2⟩:=a3 h
  obtain⟨b1,b2⟩:=g2 h1
  refine⟨b1,fun j hj=>?_⟩
  by_cases e:j <k
  ·exact b2 j e
  ·obtain rfl:j=k:=by omega
   exact h2
theorem Bt8 (l:List TGroup) (rows:List TRow) (hl:Ao l.length) (hr:Ao rows.length) (hw:∀r∈rows,Abg r):(∀p∈Agg l rows,p)∧(Qd l rows=true→l.length≤5000∧∀r∈rows,Um 5000 r):=by
 have hr':=hr
 unfold Ao at hr'
 obtain⟨a1,a2,_⟩:=Au9 (n:=0) (k:=(l.length:Int)) (Int.le_refl _) (Abb hl) (m:=5000) (by omega)
 generalize hn0:Aq 0 (l.length:Int) 5000=n0 at*
 have hgo:∀k:Nat,A6 rows (nr rows n0 k) (k:Int)=(decide (k <rows.length)&&!!decide (nr rows n0 k≤5000)):=fun k=>by
  unfold A6
  rw[nn,nn,Mp]
 obtain⟨h1,k,hk,hx,hs,hst,_⟩:=Ij (fun k=>((rows,nr rows n0 k,(k:Int)):BR)) rows.length (fun k=>!decide (nr rows n0 k≤5000)) Fh Fg IF (Ho (rows,n0,0)) (rows,n0,0) rfl
  (by show rows.length≤((rows.length:Int) - 0).toNat;omega)
  (fun k _ _=>by
   show A6 rows (nr rows n0 k) (k:Int)=_
   rw[hgo])
  (fun k hk hs=>by
   show(rows,Gh rows (nr rows n0 k) (k:Int),IntKind.i64.wrap ((k:Int)+1))=(rows,nr rows n0 (k+1),((k+1:Nat):Int))
   rw[Eu (by omega)]
   rfl)
  (fun k hk _=>by
   have hin:A6 rows (nr rows n0 k) (k:Int)=true→k <rows.length:=fun h=>by
    rw[hgo,Bool.and_eq_true] at h
    exact of_decide_eq_true h.1
   refine Aa (fun h=>?_) (Aa (fun h=>?_) Ad)
   ·have:=hin h
    show(0:Int)≤(k:Int)∧(k:Int) <(rows.length:Int)
    omega
   ·have hk':=hin h
    have:=(Aw5 rows k hk' (nr rows n0 k) (Buo rows n0 a2 hw k hk).1 (hw _ (getD_in rows (Ac TC.row) k hk'))).1
    have e:((k:Int)).toNat=k:=Int.toNat_natCast k
    show AD Cz Cy Eo (Db (rows,Aq (Aq (nr rows n0 k) ((rows.getD ((k:Int)).toNat (Ac TC.row)).1.size:Int) 5000) ((rows.getD ((k:Int)).toNat (Ac TC.row)).2.length:Int) 5000,(k:Int),0)) (rows,Aq (Aq (nr rows n0 k) ((rows.getD ((k:Int)).toNat (Ac TC.row)).1.size:Int) 5000) ((rows.getD ((k:Int)).toNat (Ac TC.row)).2.length:Int) 5000,(k:Int),0)
    rw[e]
    exact this)
 have hrun:So (rows,n0,0)=(rows,nr rows n0 k,(k:Int)):=hx
 refine⟨Aa (by rw[hn0];exact h1) Ad,fun h=>?_⟩
 unfold Qd at h
 rw[hn0,hrun] at h
 have h5:nr rows n0 k≤5000:=of_decide_eq_true h
 obtain⟨b1,b2⟩:=(Buo rows n0 a2 hw k hk).2 h5
 have hkn:k=rows.length:=by
  rcases Nat.lt_or_ge k rows.length with h'|h'
  ·have:=hst h'
   rw[decide_eq_true h5] at this
   cases this
  ·omega
 refine⟨by have:=a1 b1;omega,fun r hr=>?_⟩
 obtain⟨j,hj,rfl⟩:=List.mem_iff_getElem.1 hr
 have:=b2 j (by omega)
 rw[List.getD_eq_getElem?_getD,List.getElem?_eq_getElem hj] at this
 exact this
theorem A8q (a0:List TGroup) (a1:List TRow) (hp:∀p∈Zv a0 a1,p):CallOk Try.prog 60 [.sl .group a0,Ae .rows a1] 0 [] 1 (Agh a0 a1) 0 (Agf a0 a1):=by
 obtain⟨h1,h2,h3⟩:=hp _ (List.mem_cons_self ..)
 exact Beu a0 a1 (Bt8 a0 a1 h1 h2 h3).1
def Wr:List A→Nat→Objs→Option AU:=A5 [.l .group,.t .rows] 0 Agh Agf Zv
theorem Zw:Ev Try.prog 60 Wr:=As (ks:=[.l .group,.t .rows]) A8q
noncomputable def B1k:=AQ 60 Wr Bh7
theorem Bmn:Cp Try.prog B1k:=Ak Zw Auk
def A8t:ByteArray:=ByteArray.mk #[(97:UInt8)]
def A8u:ByteArray:=ByteArray.mk #[(98:UInt8)]
def TR:A:=.sq 0
def TQ:Objs:=[(0,some (.arr 79 2 (.lst [[.v (.string A8t),.v (.int .i64 ((1:Int)))],[.v (.string A8u),.v (.int .i64 ((2:Int)))]])))]
def Rc:List Prop:=[]
theorem A2v:Er (Au B1k L0) 9 127 [] 0 []=some (1,TR,1,TQ,Rc):=by kernel_rfl
theorem A8v (hp:∀p∈Rc,p):CallOk Try.prog 127 [] 0 [] 1 (TR) 1 (TQ):=Az (Ap Bmn Ay) (A2v) hp
def Agj:List A→Nat→Objs→Option AU:=A5 [] 1 TR TQ Rc
theorem Awv:Ev Try.prog 127 Agj:=As (ks:=[]) A8v
noncomputable def B23:=AQ 127 Agj B1k
theorem Bwy:Cp Try.prog B23:=Ak Awv Bmn
def Wt:A:=.v (.bool (true))
def Ws:Objs:=[]
def Agi:List Prop:=[]
theorem A8s:Er (Au B23 L0) 1040 61 [] 0 []=some (1,Wt,0,Ws,[(Ag (2:Nat)),(true=true→Ag (2:Nat)),(true=true→Ag (1024:Nat)),(false=false),(true=true→false=false),(false=false),(true=true→false=false),(false=false),(true=true→false=false),(false=false)]):=by kernel_rfl
theorem Bev (_hp:∀p∈Agi,p):CallOk Try.prog 61 [] 0 [] 1 (Wt) 0 (Ws):=by
 have n0:(Ag (2:Nat)):=by first|rfl|decide+kernel
 have n1:(true=true→Ag (2:Nat)):=by first|rfl|decide+kernel
 have n2:(true=true→Ag (1024:Nat)):=by first|rfl|decide+kernel
 have n3:(false=false):=by first|rfl|decide+kernel
 have n4:(true=true→false=false):=by first|rfl|decide+kernel
 exact Az (Ap Bwy Ay) (A8s) (Aa n0 (Aa n1 (Aa n2 (Aa n3 (Aa n4 (Aa n3 (Aa n4 (Aa n3 (Aa n4 (Aa n3 Ad))))))))))
def Aoj:List A→Nat→Objs→Option AU:=A5 [] 0 Wt Ws Agi
theorem A2u:Ev Try.prog 61 Aoj:=As (ks:=[]) Bev
end Go.Proofs.Yteebobbhhgmeiaa
namespace Go.Proofs.Yteebobbhhgmeiaa
open Go.RowKit
def Jy (a b:ByteArray):Bool:=Op.bytesLess a.toList b.toList
theorem Tt:∀x:List UInt8,Op.bytesLess x x=false
 | []=>rfl
 |a::x=>by
  unfold Op.bytesLess
  rw[Tt x]
  simp
theorem Ant:∀{x y z:List UInt8},Op.bytesLess x y=true→Op.bytesLess y z=true→Op.bytesLess x z=true
 |x,[],_,h,_=>by cases x<;>cases h
 |_,_::_,[],_,h=>by cases h
 | [],_::_,_::_,_,_=>rfl
 |a::x,b::y,c::z,h,g=>by
  unfold Op.bytesLess at*
  simp only[Bool.or_eq_true,decide_eq_true_eq,Bool.and_eq_true,beq_iff_eq] at*
  rcases h with h|⟨rfl,h⟩<;>rcases g with g|⟨rfl,g⟩
  ·exact .inl (UInt8.lt_trans h g)
  ·exact .inl h
  ·exact .inl g
  ·exact .inr ⟨rfl,Ant h g⟩
theorem Ans:∀{x y:List UInt8},Op.bytesLess x y=false→x≠y→Op.bytesLess y x=true
 | [],[],_,h=>absurd rfl h
 | [],_::_,h,_=>by cases h
 |_::_,[],_,_=>rfl
 | a::x,b::y,h,g=>by
  unfold Op.bytesLess at*
  simp only[Bool.or_eq_true,Bool.or_eq_false_iff,decide_eq_true_eq,decide_eq_false_iff_not,Bool.and_eq_true,beq_iff_eq] at*
  obtain⟨h1,h2⟩:=h
  by_cases e:a=b
  ·subst e
   refine .inr ⟨rfl,Ans (by simpa using h2) fun e=>g (by rw[e])⟩
  ·left
   have h1':¬a.toNat <b.toNat:=h1
   have h3:a.toNat≠b.toNat:=fun h=>e (UInt8.toNat_inj.1 h)
   show b.toNat <a.toNat
   omega
theorem L7 {a b c:ByteArray} (h:Jy a b=true) (g:Jy b c=true):Jy a c=true:=Ant h g
theorem Ak6 {a b:ByteArray} (h:Jy a b=true):a≠b:=by
 rintro rfl
 unfold Jy at h
 rw[Tt] at h
 cases h
theorem YF {a b:ByteArray} (h:Jy a b=false) (g:a≠b):Jy b a=true:=by
 refine Ans h fun e=>g ?_
 have:(a.toList==b.toList)=true:=beq_iff_eq.2 e
 rw[tlb] at this
 exact eq_of_beq this
def Acl (l:List TGroup) (i:Nat):Int:=(l.getD i (Ac TC.group)).policy
def HE (cs:List TCell) (i:Nat):TCell:=cs.getD i (Ac TC.cell)
def Bn (rows:List TRow) (i:Nat):TRow:=rows.getD i (Ac TC.row)
def OU (rows:List TRow):Nat→ByteArray
 |0=>⟨#[]⟩
 |i+1=>(Bn rows i).key
def leS (a b:ByteArray):Bool:=Jy a b||a==b
def Vy (l:List TGroup) (rows:List TRow) (i:Nat):Int:=bif Ai l (Bn rows i) !=0 then Ai l (Bn rows i) else bif G2 (Bn rows i)||leS (Bn rows i).key (OU rows i) then 100 else 0
def F5 (l:List TGroup) (rows:List TRow):Nat→Int
 |0=>0
 |i+1=>bif F5 l rows i !=0 then F5 l rows i else Vy l rows i
def CZ (l:List TGroup) (rows:List TRow):Int:=bif AP l !=0 then AP l else F5 l rows rows.length
theorem Af1 (l:List TGroup) (rows:List TRow):∀n,F5 l rows n=0↔∀i,i <n→Vy l rows i=0
 |0=>⟨fun _ i h=>absurd h (Nat.not_lt_zero _),fun _=>rfl⟩
 | n +1=>by
  have ih:=Af1 l rows n
  unfold F5
  cases h:F5 l rows n !=0 with
  |true=>
   rw[cond_true]
   have h':F5 l rows n≠0:=by simpa using h
   exact⟨fun e=>absurd e h',fun e=>absurd (ih.2 fun i hi=>e i (by omega)) h'⟩
  | false=>
   rw[cond_false]
   have h':F5 l rows n=0:=by simpa using h
   constructor
   ·intro e i hi
    rcases Nat.lt_or_ge i n with g|g
    ·exact ih.1 h' i g
    ·obtain rfl:i=n:=by omega
     exact e
   ·intro e
    exact e n (Nat.lt_succ_self n)
theorem Wc {l:List TGroup} {rows:List TRow} {k:Nat} (h:F5 l rows k≠0):∀n,k≤n→F5 l rows n=F5 l rows k
 |0,hn=>by
  obtain rfl:k=0:=by omega
  rfl
 | n+1,hn=>by
  rcases Nat.lt_or_ge n k with g|g
  ·obtain rfl:k=n+1:=by omega
   rfl
  ·have ih:=Wc h n g
   have hb:(F5 l rows k !=0)=true:=by simpa using h
   show(bif F5 l rows n !=0 then F5 l rows n else _)=_
   rw[ih,hb,cond_true]
theorem Aup {l:List TGroup} {rows:List TRow}:CZ l rows=0↔AP l=0∧∀i,i <rows.length→Vy l rows i=0:=by
 unfold CZ
 cases h:AP l !=0 with
 |true=>
  rw[cond_true]
  have h':AP l≠0:=by simpa using h
  exact⟨fun e=>absurd e h',fun e=>absurd e.1 h'⟩
 |false=>
  rw[cond_false,Af1]
  have h':AP l=0:=by simpa using h
  exact⟨fun e=>⟨h',e⟩,fun e=>e.2⟩
theorem Bi3 {l:List TGroup} {rows:List TRow} {i:Nat}:Vy l rows i=0↔Ai l (Bn rows i)=0∧G2 (Bn rows i)=false∧leS (Bn rows i).key (OU rows i)=false:=by
 unfold Vy
 cases h:Ai l (Bn rows i) !=0 with
 |true=>
  rw[cond_true]
  have h':Ai l (Bn rows i)≠0:=by simpa using h
  exact⟨fun e=>absurd e h',fun e=>absurd e.1 h'⟩
 |false=>
  rw[cond_false]
  have h':Ai l (Bn rows i)=0:=by simpa using h
  cases G2 (Bn rows i)<;>cases leS (Bn rows i).key (OU rows i)<;>simp[h']
def YW (rows:List TRow):Prop:=rows.Pairwise fun a b=>Jy a.key b.key=true
theorem Tg {rows:List TRow} {i:Nat} (h:i <rows.length):Bn rows i=rows[i]:=by
 unfold Bn
 rw[List.getD_eq_getElem?_getD,List.getElem?_eq_getElem h]
 rfl
theorem Byy {l:List TGroup} {rows:List TRow} (h:∀i,i <rows.length→Vy l rows i=0):YW rows:=by
 unfold YW
 rw[List.pairwise_iff_getElem]
 have step:∀i,i+1 <rows.length→Jy (Bn rows i).key (Bn rows (i+1)).key=true:=fun i hi=>by
  have:=(Bi3.1 (h (i+1) hi)).2.2
  have h2:leS (Bn rows (i+1)).key (Bn rows i).key=false:=this
  unfold leS at h2
  obtain⟨h3,h4⟩:=Bool.or_eq_false_iff.1 h2
  exact YF h3 (by simpa using h4)
 have far:∀d i,i+d+1 <rows.length→Jy (Bn rows i).key (Bn rows (i+d+1)).key=true:=fun d=>by
  induction d with
  |zero=>intro i hi;exact step i hi
  |succ d ih=>intro i hi;exact L7 (ih i (by omega)) (step (i+d+1) (by omega))
 intro i j hi hj hij
 have:=far (j - i - 1) i (by omega)
 rw[show i+(j - i - 1)+1=j by omega,Tg hi,Tg hj] at this
 exact this
theorem A8e {l:List TGroup} {rows:List TRow} (hp:AP l=0) (hg:∀r∈rows,Ai l r=0∧G2 r=false) (hr:YW rows):CZ l rows=0:=by
 refine Aup.2 ⟨hp,fun i hi=>Bi3.2 ?_⟩
 have hm:Bn rows i∈rows:=by rw[Tg hi];exact List.getElem_mem hi
 obtain⟨g1,g2⟩:=hg _ hm
 refine⟨g1,g2,?_⟩
 unfold leS
 cases i with
 | zero=>
  have hk:(Bn rows 0).key.size≠0:=(AM g1).2.2.1
  rw[Bool.or_eq_false_iff]
  constructor
  ·show Op.bytesLess (Bn rows 0).key.toList (ByteArray.mk #[]).toList=false
   rw[show(ByteArray.mk #[]).toList=[] by decide+kernel]
   cases(Bn rows 0).key.toList<;>rfl
  ·refine beq_eq_false_iff_ne.2 fun e=>hk ?_
   rw[e]
   rfl
 | succ i=>
  have hlt:Jy (Bn rows i).key (Bn rows (i+1)).key=true:=by
   rw[Tg hi,Tg (show i <rows.length by omega)]
   exact List.pairwise_iff_getElem.1 hr i (i+1) _ _ (by omega)
  rw[Bool.or_eq_false_iff]
  constructor
  ·cases h:Jy (Bn rows (i+1)).key (OU rows (i+1)) with
   |false=>rfl
   |true=>exact absurd rfl (Ak6 (L7 hlt h))
  ·exact beq_eq_false_iff_ne.2 fun e=>Ak6 hlt e.symm
def B2h (p:Int) (st:TVec) (c:TCell):Bool:=!eqC c zeroC&&(Bo p c&&(Bdz st (Ab5 c)&&!Tm p c))
theorem Awj {l:List TGroup} {r:TRow} (h1:AP l=0) (h2:r.key.size≠0) (h3:r.key.size≤32) (h4:r.cells.length=l.length) (h5:(l.zip r.cells).all (fun x=>Bo x.1.policy x.2)=true):Ai l r=0:=by
 unfold Ai
 have g1:(AP l !=0)=false:=by rw[h1];rfl
 have g2:(r.key.size==0)=false:=by simpa using h2
 have g4:(r.cells.length !=l.length)=false:=by rw[h4];simp
 rw[g1,g2,decide_eq_false (by omega),g4,h5]
 rfl
theorem A8d {l:List TGroup} {cs:List TCell} (hl:cs.length=l.length):(l.zip cs).all (fun x=>Bo x.1.policy x.2)=true↔∀i,i <l.length→Bo (Acl l i) (HE cs i)=true:=by
 rw[B0r l cs (Ac TC.group) (Ac TC.cell) (fun g c=>Bo g.policy c) hl,I7]
 exact Iff.rfl
end Go.Proofs.Yteebobbhhgmeiaa
namespace Go.Proofs.Yteebobbhhgmeiaa
open Go.RowKit
def Lex (r e s:Prop):Prop:=r∨(e∧s)
theorem SJ {r1 r2 r3 e1 e2 e3 s1 s2 s3:Prop} (hr:r1→r2→r3) (hre:r1→e2→r3) (her:e1→r2→r3) (hee:e1→e2→e3) (hs:s1→s2→s3):Lex r1 e1 s1→Lex r2 e2 s2→Lex r3 e3 s3
 | .inl a,.inl b=> .inl (hr a b)
 | .inl a,.inr b=> .inl (hre a b.1)
 | .inr a,.inl b=> .inl (her a.1 b)
 | .inr a,.inr b=> .inr ⟨hee a.1 b.1,hs a.2 b.2⟩
theorem SI {r1 r2 e1 e2 s1 s2 t e:Prop} (h:r1∨e∨r2) (h1:e→e1) (h2:e→e2) (hs:s1∨t∨s2):Lex r1 e1 s1∨(e∧t)∨Lex r2 e2 s2:=by
 rcases h with h|h|h
 ·exact .inl (.inl h)
 ·rcases hs with g|g|g
  ·exact .inl (.inr ⟨h1 h,g⟩)
  ·exact .inr (.inl ⟨h,g⟩)
  ·exact .inr (.inr (.inr ⟨h2 h,g⟩))
 ·exact .inr (.inr (.inl h))
def UB (a b:TCell):Prop:=
 Lex (a.stamp.n <b.stamp.n) (a.stamp.n=b.stamp.n) (Lex (a.stamp.site <b.stamp.site) (a.stamp.site=b.stamp.site) (Lex (a.gone=false∧b.gone=true) (a.gone=b.gone) (Lex (Jy a.value b.value=true) (a.value=b.value) (Lex (a.vec.a <b.vec.a) (a.vec.a=b.vec.a) (a.vec.b <b.vec.b)))))
theorem Ab7 {a b c:TCell}:UB a b→UB b c→UB a c:=
 SJ (by omega) (by omega) (by omega) (by omega) (SJ (by omega) (by omega) (by omega) (by omega)
  (SJ (fun h g=>by rw[h.2] at g;exact absurd g.1 (by decide)) (fun h g=>⟨h.1,g▸h.2⟩) (fun h g=>⟨h▸g.1,g.2⟩) (fun h g=>h.trans g)
   (SJ L7 (fun h g=>g▸h) (fun h g=>h▸g) (fun h g=>h.trans g) (SJ (by omega) (by omega) (by omega) (by omega) (by omega)))))
theorem Be2 {a:TCell} (h:UB a a):False:=by
 rcases h with h|⟨_,h|⟨_,h|⟨_,h|⟨_,h|⟨_,h⟩⟩⟩⟩⟩
 ·omega
 ·omega
 ·rw[h.1] at h;exact absurd h.2 (by decide)
 ·exact Ak6 h rfl
 ·omega
 ·omega
def B0p (a b:TCell):Prop:=a.stamp.n=b.stamp.n∧a.stamp.site=b.stamp.site∧a.gone=b.gone∧a.value=b.value∧a.vec.a=b.vec.a∧a.vec.b=b.vec.b
theorem Aw2 (a b:TCell):UB a b∨B0p a b∨UB b a:=by
 refine SI (by omega) id Eq.symm (SI (by omega) id Eq.symm (SI ?_ id Eq.symm (SI ?_ id Eq.symm (SI (by omega) id Eq.symm (by omega)))))
 ·cases a.gone<;>cases b.gone<;>simp
 ·by_cases h:a.value=b.value
  ·exact .inr (.inl h)
  ·cases h1:Jy a.value b.value with
   |true=>exact .inl rfl
   |false=>exact .inr (.inr (YF h1 h))
def Jg (a b:TCell):Bool:=
 bif !(a.stamp.n==b.stamp.n&&a.stamp.site==b.stamp.site) then decide (a.stamp.n <b.stamp.n)||(a.stamp.n==b.stamp.n&&decide (a.stamp.site <b.stamp.site))
 else bif a.gone !=b.gone then b.gone
 else bif !(a.value==b.value) then Jy a.value b.value
 else bif a.vec.a !=b.vec.a then decide (a.vec.a <b.vec.a)
 else decide (a.vec.b <b.vec.b)
theorem A5r {a b:TCell}:Jg a b=true↔UB a b:=by
 unfold Jg UB Lex
 by_cases h1:a.stamp.n=b.stamp.n
 ·by_cases h2:a.stamp.site=b.stamp.site
  ·have e:(a.stamp.n==b.stamp.n&&a.stamp.site==b.stamp.site)=true:=by rw[h1,h2];simp
   rw[e,Bool.not_true,cond_false]
   simp only[h1,h2,false_or,true_and,Int.lt_irrefl]
   by_cases h3:a.gone=b.gone
   ·have e3:(a.gone !=b.gone)=false:=by rw[h3];simp
    have n3:¬(a.gone=false∧b.gone=true):=by rw[h3];rintro⟨x,y⟩;rw[x] at y;cases y
    rw[e3,cond_false]
    have n3':¬(b.gone=false∧b.gone=true):=by rintro⟨x,y⟩;rw[x] at y;cases y
    simp only[h3,n3',false_or,true_and]
    by_cases h4:a.value=b.value
    ·have e4:(a.value==b.value)=true:=beq_iff_eq.2 h4
     rw[e4,Bool.not_true,cond_false]
     simp only[h4,true_and]
     have n4':¬Jy b.value b.value=true:=fun h=>Ak6 h rfl
     simp only[n4',Bool.false_eq_true,false_or]
     by_cases h5:a.vec.a=b.vec.a
     ·have e5:(a.vec.a !=b.vec.a)=false:=by rw[h5];simp
      rw[e5,cond_false,decide_eq_true_eq]
      omega
     ·have e5:(a.vec.a !=b.vec.a)=true:=by simpa using h5
      rw[e5,cond_true,decide_eq_true_eq]
      omega
    ·have e4:(a.value==b.value)=false:=beq_eq_false_iff_ne.2 h4
     rw[e4,Bool.not_false,cond_true]
     simp only[h4,false_and,or_false]
   ·have e3:(a.gone !=b.gone)=true:=by simpa using h3
    rw[e3,cond_true]
    simp only[h3,false_and,or_false]
    revert h3
    cases a.gone<;>cases b.gone<;>simp
  ·have e:(a.stamp.n==b.stamp.n&&a.stamp.site==b.stamp.site)=false:=by rw[beq_eq_false_iff_ne.2 h2,Bool.and_false]
   rw[e,Bool.not_false,cond_true]
   simp[h1,h2]
 ·have e:(a.stamp.n==b.stamp.n&&a.stamp.site==b.stamp.site)=false:=by rw[beq_eq_false_iff_ne.2 h1,Bool.false_and]
  rw[e,Bool.not_false,cond_true]
  simp[h1]
def Hp (a b:TCell):TCell:=bif Jg a b then b else a
def JV (a b:TCell):TCell:=⟨(Hp a b).stamp,(Hp a b).vec,(Hp a b).gone,(Hp a b).value,M3 a.dead b.dead⟩
def Og (a:TCell):TCell:=⟨a.stamp,a.vec,a.gone,a.value,⟨0,0⟩⟩
theorem Bbu {a b:TCell} (h:B0p a b):Og a=Og b:=by
 obtain⟨⟨an,asi⟩,⟨ava,avb⟩,ag,av,ad⟩:=a
 obtain⟨⟨bn,bsi⟩,⟨bva,bvb⟩,bg,bv,bd⟩:=b
 obtain⟨h1,h2,h3,h4,h5,h6⟩:=h
 simp only at h1 h2 h3 h4 h5 h6
 subst h1 h2 h3 h4 h5 h6
 rfl
def mkC (w:TCell) (d:TVec):TCell:=⟨w.stamp,w.vec,w.gone,w.value,d⟩
theorem A11 (a b:TCell):JV a b=mkC (Og (Hp a b)) (M3 a.dead b.dead):=rfl
theorem Be3 {a b:TCell}:UB a (Og b)↔UB a b:=Iff.rfl
theorem IR (a b:TCell):(UB a b∧Hp a b=b)∨(¬UB a b∧Hp a b=a):=by
 unfold Hp
 cases h:Jg a b with
 |true=>exact .inl ⟨A5r.1 h,rfl⟩
 |false=>exact .inr ⟨fun g=>(by rw[A5r.2 g] at h;cases h),rfl⟩
theorem Bud (a b:TCell):Og (Hp a b)=Og (Hp b a):=by
 rcases IR a b with⟨h,e⟩|⟨h,e⟩<;>rcases IR b a with⟨g,f⟩|⟨g,f⟩<;>rw[e,f]
 ·exact(Be2 (Ab7 h g)).elim
 ·rcases Aw2 a b with q|q|q
  ·exact absurd q h
  ·exact Bbu q
  ·exact absurd q g
theorem Ak8 (a b:TCell):Og (Hp a b)=Hp (Og a) (Og b):=by
 have:Jg (Og a) (Og b)=Jg a b:=rfl
 unfold Hp
 rw[this]
 cases Jg a b<;>rfl
theorem max_assoc (a b c:TCell):Og (Hp (Hp a b) c)=Og (Hp a (Hp b c)):=by
 rcases IR a b with⟨h,e⟩|⟨h,e⟩<;>rcases IR b c with⟨g,f⟩|⟨g,f⟩
 ·rw[e,f]
  rcases IR a c with⟨_,q⟩|⟨r,_⟩
  ·rw[q]
  ·exact absurd (Ab7 h g) r
 ·rw[e,f,e]
 ·rw[e,f]
 ·rw[e,f,e]
  rcases IR a c with⟨r,q⟩|⟨_,q⟩
  ·rcases Aw2 b c with t|t|t
   ·exact absurd t g
   ·have:=Bbu t
    rw[←Be3 (b:=c),←this] at r
    exact absurd (Be3.1 r) h
   ·exact absurd (Ab7 r t) h
  ·rw[q]
theorem Bqz (a b:TVec):M3 a b=M3 b a:=by
 unfold M3
 congr 1<;>omega
theorem Bls (a b c:TVec):M3 (M3 a b) c=M3 a (M3 b c):=by
 unfold M3
 congr 1<;>simp only<;>omega
theorem Bwa (a b:TCell):JV a b=JV b a:=by
 rw[A11,A11 b a,Bud,Bqz]
theorem Bwd (a b:TCell):Og (JV a b)=Og (Hp a b):=rfl
theorem Bqv (a b c:TCell):JV (JV a b) c=JV a (JV b c):=by
 have l:Og (Hp (JV a b) c)=Og (Hp (Hp a b) c):=by rw[Ak8,Ak8 (Hp a b) c,Bwd]
 have r:Og (Hp a (JV b c))=Og (Hp a (Hp b c)):=by rw[Ak8,Ak8 a (Hp b c),Bwd]
 have h:=l.trans ((max_assoc a b c).trans r.symm)
 show mkC (Og (Hp (JV a b) c)) (M3 (M3 a.dead b.dead) c.dead)=mkC (Og (Hp a (JV b c))) (M3 a.dead (M3 b.dead c.dead))
 rw[h,Bls]
theorem Bue (a:TCell):Hp a a=a:=by
 rcases IR a a with⟨_,e⟩|⟨_,e⟩<;>exact e
def Bh4 (c:TCell):Bool:=bif !B9 c then true else HF c.stamp&&decide (0 <c.stamp.n)&&Cx c.vec&&decide ((c.value.size:Int)≤64)&&!(c.gone&&!(c.value.size==0))
theorem Awh {p:Int} {c:TCell}:Bo p c=true↔((p=1∧c.dead=⟨0,0⟩)∨(p=2∧c.gone=false∧Cx c.dead=true))∧Bh4 c=true:=by
 unfold Bo
 show(bif p==1&&!G3 c.dead||(p==2&&(c.gone||!Cx c.dead)||!(p==1||p==2)) then false else Bh4 c)=true↔_
 by_cases h1:p=1
 ·subst h1
  have e:((1:Int)==1&&!G3 c.dead||((1:Int)==2&&(c.gone||!Cx c.dead)||!((1:Int)==1||(1:Int)==2)))=!G3 c.dead:=by
   cases G3 c.dead<;>rfl
  rw[e,←A62]
  cases G3 c.dead<;>simp
 ·by_cases h2:p=2
  ·subst h2
   have e:((2:Int)==1&&!G3 c.dead||((2:Int)==2&&(c.gone||!Cx c.dead)||!((2:Int)==1||(2:Int)==2)))=(c.gone||!Cx c.dead):=by
    cases c.gone<;>cases Cx c.dead<;>rfl
   rw[e]
   cases c.gone<;>cases Cx c.dead<;>simp
  ·have e1:(p==1)=false:=beq_eq_false_iff_ne.2 h1
   have e2:(p==2)=false:=beq_eq_false_iff_ne.2 h2
   rw[e1,e2]
   simp[h1,h2]
theorem Bq0 {a b:TVec} (h:Cx a=true) (g:Cx b=true):Cx (M3 a b)=true:=by
 unfold Cx M3 at*
 simp only[Bool.and_eq_true,decide_eq_true_eq] at*
 omega
theorem Bq1 {a:TVec} (h:Cx a=true):M3 a a=a:=by
 unfold Cx at h
 unfold M3
 simp only[Bool.and_eq_true,decide_eq_true_eq] at h
 exact Bbq (by show max (max 0 a.a) a.a=a.a;omega) (by show max (max 0 a.b) a.b=a.b;omega)
theorem Bwb {p:Int} {a b:TCell} (h:Bo p a=true) (g:Bo p b=true):Bo p (JV a b)=true:=by
 rw[Awh] at h g⊢
 obtain⟨h1,h2⟩:=h
 obtain⟨g1,g2⟩:=g
 have hw:Bh4 (JV a b)=true:=by
  show Bh4 (Hp a b)=true
  rcases IR a b with⟨_,e⟩|⟨_,e⟩<;>rw[e]
  ·exact g2
  ·exact h2
 refine⟨?_,hw⟩
 rcases h1 with⟨hp,h1⟩|⟨hp,h1,h3⟩
 ·rcases g1 with⟨_,g1⟩|⟨gp,_⟩
  ·refine .inl ⟨hp,?_⟩
   show M3 a.dead b.dead=_
   rw[h1,g1]
   rfl
  ·omega
 ·rcases g1 with⟨gp,_⟩|⟨_,g1,g3⟩
  ·omega
  ·refine .inr ⟨hp,?_,Bq0 h3 g3⟩
   show(Hp a b).gone=false
   rcases IR a b with⟨_,e⟩|⟨_,e⟩<;>rw[e]
   ·exact g1
   ·exact h1
theorem A5f {p:Int} {a:TCell} (h:Bo p a=true):Cx a.dead=true:=by
 rcases(Awh.1 h).1 with⟨_,h1⟩|⟨_,_,h1⟩
 ·rw[h1];rfl
 ·exact h1
theorem Bwc {p:Int} {a:TCell} (h:Bo p a=true):JV a a=a:=by
 rw[A11,Bue,Bq1 (A5f h)]
 rfl
theorem Bfa {p:Int} {a:TCell} (h:Bo p a=true):Og (Hp zeroC a)=Og a:=by
 rcases IR zeroC a with⟨_,e⟩|⟨q,e⟩
 ·rw[e]
 ·rw[e]
  have hw:=(Awh.1 h).2
  cases hwr:B9 a with
  |true=>
   unfold Bh4 at hw
   rw[hwr] at hw
   simp only[Bool.not_true,cond_false,Bool.and_eq_true,decide_eq_true_eq] at hw
   exact absurd (.inl hw.1.1.1.2) q
  |false=>
   unfold B9 at hwr
   simp only[Bool.not_eq_false',Bool.and_eq_true,beq_iff_eq,Bool.not_eq_true'] at hwr
   obtain⟨⟨⟨h1,h2⟩,h3,h4⟩,h5,h6⟩:=hwr
   exact Bbu ⟨h1.symm,h2.symm,h5.symm,(B4a h6).symm,h3.symm,h4.symm⟩
def Lb (a b:TCell):TCell:=mkC (Og (Hp (Hp zeroC a) b)) (M3 a.dead b.dead)
theorem A5p {p:Int} {a b:TCell} (h:Bo p a=true):Lb a b=JV a b:=by
 unfold Lb
 rw[A11,Ak8 (Hp zeroC a),Bfa h,←Ak8]
def jnN (us ws:List TCell):Nat→List TCell
 |0=>us
 |i+1=>(jnN us ws i).set i (Lb (HE (jnN us ws i) i) (HE ws i))
theorem Af6 (us ws:List TCell):∀i,(jnN us ws i).length=us.length
 |0=>rfl
 |i+1=>by
  unfold jnN
  rw[List.length_set,Af6 us ws i]
theorem Bje (us ws:List TCell) (j:Nat) (hj:j <us.length):∀i,HE (jnN us ws i) j=bif decide (j <i) then Lb (HE us j) (HE ws j) else HE us j
 |0=>rfl
 | i+1=>by
  have ih:=Bje us ws j hj i
  unfold jnN
  unfold HE at ih⊢
  rw[List.getD_eq_getElem?_getD,List.getElem?_set,Af6]
  by_cases e:i=j
  ·subst e
   rw[if_pos rfl,if_pos hj,decide_eq_true (by omega)]
   rw[decide_eq_false (Nat.lt_irrefl _),cond_false] at ih
   show Lb ((jnN us ws i).getD i (Ac TC.cell)) _=_
   rw[ih]
   rfl
  ·rw[if_neg e,←List.getD_eq_getElem?_getD,ih]
   congr 1
   exact decide_eq_decide.2 (by omega)
def jnR (a b:TRow):TRow:=⟨a.key,jnN a.cells b.cells b.cells.length⟩
def jnE (l:List TGroup) (a b:TRow):Int:=bif Ai l a !=0 then Ai l a else bif Ai l b !=0 then Ai l b else bif !(a.key==b.key) then 100 else 0
theorem Bep {l:List TGroup} {a b:TRow}:jnE l a b=0↔Ai l a=0∧Ai l b=0∧a.key=b.key:=by
 unfold jnE
 cases h:Ai l a !=0 with
 |true=>
  rw[cond_true]
  have h':Ai l a≠0:=by simpa using h
  exact⟨fun e=>absurd e h',fun e=>absurd e.1 h'⟩
 | false=>
  rw[cond_false]
  have h':Ai l a=0:=by simpa using h
  cases g:Ai l b !=0 with
  |true=>
   rw[cond_true]
   have g':Ai l b≠0:=by simpa using g
   exact⟨fun e=>absurd e g',fun e=>absurd e.2.1 g'⟩
  | false=>
   rw[cond_false]
   have g':Ai l b=0:=by simpa using g
   by_cases k:a.key=b.key
   ·rw[beq_iff_eq.2 k]
    exact⟨fun _=>⟨h',g',k⟩,fun _=>rfl⟩
   ·rw[beq_eq_false_iff_ne.2 k]
    exact⟨fun e=>(by cases e),fun e=>absurd e.2.2 k⟩
theorem Ku {l:List TGroup} {r:TRow} (h:Ai l r=0) {i:Nat} (hi:i <l.length):Bo (Acl l i) (HE r.cells i)=true:=
 (A8d (AM h).2.1).1 (AM h).2.2.2.2 i hi
theorem Bt4 {l:List TGroup} {a b:TRow} (ha:Ai l a=0) (hb:Ai l b=0) {i:Nat} (hi:i <l.length):HE (jnR a b).cells i=JV (HE a.cells i) (HE b.cells i):=by
 have h1:=(AM ha).2.1
 have h2:=(AM hb).2.1
 show HE (jnN a.cells b.cells b.cells.length) i=_
 rw[Bje _ _ i (by omega),decide_eq_true (by omega),cond_true,A5p (Ku ha hi)]
theorem A8h {l:List TGroup} {a b:TRow} (ha:Ai l a=0):(jnR a b).cells.length=l.length:=by
 show(jnN a.cells b.cells b.cells.length).length=_
 rw[Af6]
 exact(AM ha).2.1
theorem Bt6 {l:List TGroup} {a b:TRow} (ha:Ai l a=0) (hb:Ai l b=0):Ai l (jnR a b)=0:=by
 obtain⟨h1,h2,h3,h4,_⟩:=AM ha
 refine Awj h1 h3 h4 (A8h ha) ((A8d (A8h ha)).2 fun i hi=>?_)
 rw[Bt4 ha hb hi]
 exact Bwb (Ku ha hi) (Ku hb hi)
end Go.Proofs.Yteebobbhhgmeiaa
