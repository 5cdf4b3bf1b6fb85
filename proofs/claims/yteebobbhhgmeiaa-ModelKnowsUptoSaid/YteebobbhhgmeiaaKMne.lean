/- made by a program (rowgen.py): ModelKnows: for every input the law returns true, and each argument reads behind the call as it read before. -/
import Derived.Test.YteebobbhhgmeiaaKMnd

set_option maxRecDepth 100000
namespace Go.Proofs.Yteebobbhhgmeiaa
open Go.RowKit Go.Shelf
attribute [local go_sem] Oper.semAt_some
def gV (g:TGroup):Value:=.agg #[.string g.name,.int .i64 g.policy]
def cV (c:TCell):Value:=.agg #[.int .i64 c.stamp.n,.int .i64 c.stamp.site,.int .i64 c.vec.a,.int .i64 c.vec.b,.bool c.gone,.string c.value,.int .i64 c.dead.a,.int .i64 c.dead.b]
structure KB (n₀ X:Nat) (W W':World):Prop where
 os:W'.os=W.os
 tape:W'.tape=W.tape
 output:W'.output=W.output
 size:W.heap.size≤W'.heap.size
 block:∀k,k <n₀→k≠X→W'.heap[k]?=W.heap[k]?
theorem KB.refl (n₀ X:Nat) (W:World):KB n₀ X W W:=⟨rfl,rfl,rfl,Nat.le_refl _,fun _ _ _=>rfl⟩
theorem KB.trans {n₀ X:Nat} {A B C:World} (h:KB n₀ X A B) (k:KB n₀ X B C):KB n₀ X A C:=
 ⟨k.os.trans h.os,k.tape.trans h.tape,k.output.trans h.output,Nat.le_trans h.size k.size,fun i h1 h2=>(k.block i h1 h2).trans (h.block i h1 h2)⟩
theorem KB.of_below {n₀ X:Nat} {A B:World} (h:Below n₀ A B):KB n₀ X A B:=⟨h.os,h.tape,h.output,h.size,fun k hk _=>h.block k hk⟩
theorem KB.cell {n₀ X:Nat} {A B:World} {p:Addr} (h:KB n₀ X A B) (hp:p.block <n₀) (hx:p.block≠X):B.cell? p=A.cell? p:=World.cell?_of_block (h.block _ hp hx)
theorem KB.putObj {n₀ X:Nat} {w:World} (hn:n₀≤w.heap.size) (W:World) (l:Nat) (o o':Obj) (hl:w.heap.size≤l) (h:W.heap[l]?=some o) (h1:o.isCells=false) (h2:o.isWalk=false):KB n₀ X W (W.putObj l o'):=
 KB.of_below (belowK_b hn W l o o' hl h h1 h2)
def GsAt (n₀ X:Nat) (W:World) (b off:Nat) (l:List TGroup):Prop:=(b <n₀∧b≠X)∧∀j g,l[j]?=some g→W.cell? ⟨b,off+j*2,none⟩=some (.string g.name)∧W.cell? ⟨b,off+j*2+1,none⟩=some (.int .i64 g.policy)
def CsAt (n₀ X:Nat) (W:World) (b off:Nat) (l:List TCell):Prop:=(b <n₀∧b≠X)∧∀j c,l[j]?=some c→W.cell? ⟨b,off+j*8,none⟩=some (.int .i64 c.stamp.n)∧W.cell? ⟨b,off+j*8+1,none⟩=some (.int .i64 c.stamp.site)∧W.cell? ⟨b,off+j*8+2,none⟩=some (.int .i64 c.vec.a)∧W.cell? ⟨b,off+j*8+3,none⟩=some (.int .i64 c.vec.b)∧W.cell? ⟨b,off+j*8+4,none⟩=some (.bool c.gone)∧W.cell? ⟨b,off+j*8+5,none⟩=some (.string c.value)∧W.cell? ⟨b,off+j*8+6,none⟩=some (.int .i64 c.dead.a)∧W.cell? ⟨b,off+j*8+7,none⟩=some (.int .i64 c.dead.b)
theorem GsAt.kept {n₀ X:Nat} {W W':World} {b off:Nat} {l:List TGroup} (h:GsAt n₀ X W b off l) (hb:KB n₀ X W W'):GsAt n₀ X W' b off l:=
 ⟨h.1,fun j g hg=>⟨(hb.cell (p:=⟨b,_,none⟩) h.1.1 h.1.2).trans (h.2 j g hg).1,(hb.cell (p:=⟨b,_,none⟩) h.1.1 h.1.2).trans (h.2 j g hg).2⟩⟩
theorem CsAt.kept {n₀ X:Nat} {W W':World} {b off:Nat} {l:List TCell} (h:CsAt n₀ X W b off l) (hb:KB n₀ X W W'):CsAt n₀ X W' b off l:=by
 refine⟨h.1,fun j c hc=>?_⟩
 obtain⟨h0,h1,h2,h3,h4,h5,h6,h7⟩:=h.2 j c hc
 have k:∀o,W'.cell? ⟨b,o,none⟩=W.cell? ⟨b,o,none⟩:=fun o=>hb.cell (p:=⟨b,o,none⟩) h.1.1 h.1.2
 exact⟨(k _).trans h0,(k _).trans h1,(k _).trans h2,(k _).trans h3,(k _).trans h4,(k _).trans h5,(k _).trans h6,(k _).trans h7⟩
theorem Bht {W W':World} (h:Below W.heap.size W W'):W.grownBy W' none:=⟨h.os,h.tape,h.output,h.size,fun k hk _=>h.block k hk⟩
def Brx (x:TGroup×TCell):Array Value:=#[gV x.1,cV x.2]
theorem Bu8 {α β:Type} (l:List α) (r:List β) (k:Nat) (x:α) (y:β) (hx:l[k]?=some x) (hy:r[k]?=some y):(l.zip r).take (k+1)=(l.zip r).take k++[(x,y)]:=by
 rw[List.take_add_one,(List.getElem?_zip_eq_some (z:=(x,y))).2 ⟨hx,hy⟩]
 rfl
set_option maxHeartbeats 4000000 in
theorem Boh (n:Nat) (hn:1≤n) (l B2 B3 n₀ b off cap b' off' cap' X:Nat) (gs:List TGroup) (cs:List TCell) (hlen:cs.length=gs.length) (hl4:gs.length≤4)
    (J Jx:List (TGroup×TCell)→World→Prop) (n1:Nat) (hn1:n₀≤n1)
    (hJa:AbidesFrom n1 J)
    (hY:∀pre x W,J pre W→pre.length <gs.length→YieldAt Fence.wide (n - 1) Try.prog l (Brx x) W fun e W'=>
      (e=.returned (.bool true)∧J (pre++[x]) W'∧KB n₀ X W W')∨(e=.returned (.bool false)∧Jx (pre++[x]) W'))
    (W:World) (hW1:n1=W.heap.size) (h2:W.cell? ⟨B2,0,none⟩=some (.slice (some ⟨b,off,none⟩) gs.length cap)) (h3:W.cell? ⟨B3,1,none⟩=some (.slice (some ⟨b',off',none⟩) cs.length cap')) (hB2:B2 <n₀∧B2≠X) (hB3:B3 <n₀∧B3≠X)
    (hg:GsAt n₀ X W b off gs) (hc:CsAt n₀ X W b' off' cs) (h0:J [] W):
    CallsIn Fence.wide n Try.prog 165 #[.func (.yield l) #[] #[],.pointer (some ⟨B2,0,none⟩),.pointer (some ⟨B3,0,none⟩)] W fun e W'=>(∃v,e=.returned v)∧
      ((∃ys,ys=gs.zip cs∧J ys W')∨(∃pre,(∃k,k≤gs.length∧pre=(gs.zip cs).take k)∧Jx pre W')):=by
  refine callsIn_of_wp Try.func165 rfl trivial ?_ rfl
  simp only[Try.ntmps165,List.size_toArray,List.length_cons,List.length_nil,Nat.reduceAdd,Nat.reduceSub,Array.replicate_succ,Array.replicate_zero,List.push_toArray,List.append_toArray,List.nil_append,List.cons_append]
  gi_wp2
  gi_loopw [8] (fun i wr=>∃k:Nat,k≤gs.length∧i=.int .i64 k∧J ((gs.zip cs).take k) wr∧KB n₀ X W wr∧W.heap.size≤wr.heap.size) (fun i _=>gs.length - (intOf i).toNat)
  case atStart=>exact⟨0,Nat.zero_le _,rfl,h0,KB.refl _ _ _,Nat.le_refl _⟩
  case round=>
    obtain⟨k,hk,rfl,hJs,hnx,hsz⟩:=hrel
    by_cases hlt:k <gs.length
    · have hlt':k <cs.length:=by omega
      obtain⟨hg1,hg2⟩:=(hg.kept hnx).2 k gs[k] (List.getElem?_eq_getElem hlt)
      have h2':=(hnx.cell (p:=⟨B2,0,none⟩) hB2.1 hB2.2).trans h2
      gi_wp2
      have hb3:Below wr.heap.size wr (wr.alloc (.cells #[.string gs[k].name,.int .i64 gs[k].policy] 79)):=(Below.refl _ wr).alloc (Nat.le_refl _) _
      have hv:wr.heap.size=wr.heap.size:=rfl
      have hn:=World.alloc_heap_new wr (.cells #[.string gs[k].name,.int .i64 gs[k].policy] 79)
      generalize wr.alloc (.cells #[.string gs[k].name,.int .i64 gs[k].policy] 79)=W3 at hb3 hn⊢
      have hb4:KB n₀ X wr W3:=KB.of_below (hb3.mono (Nat.le_trans hn1 (by rw[hW1];exact hsz)))
      have hb5:KB n₀ X W3 W3.drew:=KB.of_below ((Below.refl _ W3).drew)
      obtain⟨hc0,hc1,hc2,hc3,hc4,hc5,hc6,hc7⟩:=((hc.kept hnx).kept hb4).2 k cs[k] (List.getElem?_eq_getElem hlt')
      have h3':=((hnx.trans hb4).cell (p:=⟨B3,1,none⟩) hB3.1 hB3.2).trans h3
      have hz:((gs.zip cs).take k).length <gs.length:=by rw[List.length_take,List.length_zip];omega
      have hJ3:J ((gs.zip cs).take k) W3.drew:=hJa _ wr _ none hJs (Bht hb3.drew) (fun r e=>by cases e)
      obtain⟨fn,tmps,assign,body,hy,hR⟩:=hY _ (gs[k],cs[k]) _ hJ3 hz
      have hR2:RoundIn Fence.wide (n - 1) Try.prog l fn tmps assign body W3.drew fun e W'=>∃q:Bool,e=.returned (.bool q)∧(q=true→J ((gs.zip cs).take (k+1)) W'∧KB n₀ X wr W')∧(q=false→Jx ((gs.zip cs).take (k+1)) W'):=by
        refine hR.mono ?_
        rw[←Bu8 gs cs k gs[k] cs[k] (List.getElem?_eq_getElem hlt) (List.getElem?_eq_getElem hlt')]
        rintro e W' (⟨rfl,h1,h2⟩|⟨rfl,h1⟩)
        ·exact⟨true,rfl,⟨fun _=>⟨h1,(hb4.trans hb5).trans h2⟩,fun h=>by cases h⟩⟩
        ·exact⟨false,rfl,⟨fun h=>(by cases h),fun _=>h1⟩⟩
      clear hR
      have hm:Try.prog.follows .mixedOrders=true:=by kernel_rfl
      dsimp only[Brx,gV,cV] at hy
      obtain⟨hn0,hn1'⟩:=cb2 hn
      gi_region_with_o (refine hR2.mono ?_;rintro e W4 ⟨q,rfl,hq1,hq2⟩)
      all_goals (cases q)
      all_goals gi_wp2
      all_goals first
        |(refine bodyPost_ret (results_none rfl _ _ _) rfl ?_;exact⟨⟨_,rfl⟩,.inr ⟨_,⟨k+1,by omega,rfl⟩,hq2 (by trivial)⟩⟩)
        | (obtain⟨q1,q2⟩:=hq1 (by trivial)
           exact⟨⟨k+1,by omega,rfl,q1,hnx.trans q2,Nat.le_trans hsz q2.size⟩,by simp[intOf];omega⟩)
    · obtain rfl:k=gs.length:=by omega
      gi_wp2
      go_end0
      exact⟨⟨_,rfl⟩,.inl ⟨_,rfl,by rw[List.take_of_length_le (by rw[List.length_zip];omega)] at hJs;exact hJs⟩⟩
set_option maxHeartbeats 1000000 in
theorem Bd7 (n:Nat) (a:Option Addr) (len cap:Nat) (v1:Value) (key:ByteArray) (w:World):
  CallsIn Fence.wide n Try.prog 132 #[.slice a len cap,.agg #[.string key,v1]] w fun e w'=>e=.returned (.func (.func 165) #[] #[.pointer (some ⟨w.heap.size,0,none⟩),.pointer (some ⟨w.heap.size+1,0,none⟩)])∧w'=(w.alloc (.cells #[.slice a len cap] 66)).alloc (.cells #[.string key,v1] 71):=by
 refine callsIn_of_wp Try.func132 rfl trivial ?_ rfl
 simp only[Try.ntmps132,List.size_toArray,List.length_cons,List.length_nil,Nat.reduceAdd,Nat.reduceSub,Array.replicate_succ,Array.replicate_zero,List.push_toArray,List.append_toArray,List.nil_append,List.cons_append]
 gi_wp2
 go_ret
 exact⟨rfl,rfl⟩
theorem Aog (n:Nat) (hn:1≤n) (B2 B3 n₀ X b off cap b' off' cap':Nat) (gs:List TGroup) (cs:List TCell) (hlen:cs.length=gs.length) (hl4:gs.length≤4) (w:World) (hn₀:n₀≤w.heap.size)
  (h2:w.cell? ⟨B2,0,none⟩=some (.slice (some ⟨b,off,none⟩) gs.length cap)) (h3:w.cell? ⟨B3,1,none⟩=some (.slice (some ⟨b',off',none⟩) cs.length cap')) (hB2:B2 <n₀∧B2≠X) (hB3:B3 <n₀∧B3≠X)
  (hg:GsAt n₀ X w b off gs) (hc:CsAt n₀ X w b' off' cs):
  SeqStopsK Fence.wide n Try.prog 165 #[.pointer (some ⟨B2,0,none⟩),.pointer (some ⟨B3,0,none⟩)] Brx (KB n₀ X) (fun ys=>ys=gs.zip cs) (fun pre=>∃k,k≤gs.length∧pre=(gs.zip cs).take k) gs.length w:=fun l J Jx W hW hJ _ hY h0=>by
 have hk:KB n₀ X w W:=KB.of_below (hW.mono hn₀)
 exact Boh n hn l B2 B3 n₀ b off cap b' off' cap' X gs cs hlen hl4 J Jx W.heap.size (Nat.le_trans hn₀ hW.size) hJ hY W rfl ((hk.cell (p:=⟨B2,0,none⟩) hB2.1 hB2.2).trans h2) ((hk.cell (p:=⟨B3,1,none⟩) hB3.1 hB3.2).trans h3) hB2 hB3 (hg.kept hk) (hc.kept hk) h0
def Sz (p:Int) (G:Int→TCell→Bool) (gs:List TGroup) (key:ByteArray) (cs:List TCell):Int:=
 if(p !=0)=true then p else if key.toList.isEmpty=true then 2 else if 32 <(key.size:Int) then 3 else if((cs.length:Int) !=(gs.length:Int))=true then 100 else bif(gs.zip cs).all (fun x=>G x.1.policy x.2) then 0 else 80
theorem YC {β:Type} (B:Nat) (cs:Array Value) (t:TypeId):Own (fun(_:β) W=>W.heap[B]?=some (.cells cs t (0,0))):=fun s W W' row hs hg hr=>by
 refine(hg.block B (HW hs) fun e=>?_).trans hs
 obtain⟨o,h1,h2⟩:=hr B e.symm
 rw[hs] at h1
 cases h1
 cases h2
theorem IL (B:Nat) {W W':World} (h:Below W.heap.size W W'):KeepsFrom B W W':=⟨h.size,fun k _ _ hk _=>(h.block k (HW hk)).trans hk⟩
theorem Um {β:Type} (B n:Nat):OwnFrom B (fun(_:β) W=>n≤W.heap.size):=fun _ _ _ _ hs hg _=>Nat.le_trans hs hg.size
set_option maxHeartbeats 4000000 in
theorem Bfl (w:World) (a0 a1:Option Addr) (gs:List TGroup) (cs:List TCell) (key:ByteArray) (cap0 cap1:Nat) (p:Int) (G:Int→TCell→Bool)
    (hP:∀W,Below w.heap.size w W→Calls Try.prog 131 #[.slice a0 gs.length cap0] W fun e W'=>e=.returned (.int .i64 p)∧Below W.heap.size W W')
    (hp0:p=0→1≤gs.length∧gs.length≤4)
    (hC:∀(q:Int) (c:TCell) W,Calls Try.prog 38 #[.int .i64 q,cV c] W fun e W'=>e=.returned (.bool (G q c))∧Below W.heap.size W W')
    (hG:0 <gs.length→∃b off,a0=some ⟨b,off,none⟩∧GsAt w.heap.size w.heap.size w b off gs)
    (hS:0 <cs.length→∃b off,a1=some ⟨b,off,none⟩∧CsAt w.heap.size w.heap.size w b off cs):
    Calls Try.prog 65 #[.slice a0 gs.length cap0,.agg #[.string key,.slice a1 cs.length cap1]] w fun e W'=>e=.returned (.int .i64 (Sz p G gs key cs))∧Below w.heap.size w W':=by
  refine(callsIn_wide (n:=5)).1 ?_
  refine callsIn_of_wp_marks Try.func65 rfl trivial ?_ rfl
  simp only[Try.ntmps65,List.size_toArray,List.length_cons,List.length_nil,Nat.reduceAdd,Nat.reduceSub,Array.replicate_succ,Array.replicate_zero,List.push_toArray,List.append_toArray,List.nil_append,List.cons_append]
  have hw2:Below w.heap.size w ((w.alloc (.cells #[.string key,.slice a1 cs.length cap1] 71)).alloc (.cells #[.int .i64 0] 26)):=((Below.refl _ w).alloc (Nat.le_refl _) _).alloc (by simp) _
  have hr1:=OE (.cells #[.int .i64 0] 26) (Hb (w:=w) (.cells #[.string key,.slice a1 cs.length cap1] 71) rfl)
  have hr2:=Hb (w:=w.alloc (.cells #[.string key,.slice a1 cs.length cap1] 71)) (.cells #[.int .i64 0] 26) (n:=w.heap.size+1) (by simp)
  gi_wp2_with (first
    |(refine⟨trivial,?_⟩;gi_at_call 131;refine(callsIn_wide.2 (hP _ hw2)).mono ?_;rintro e W1 ⟨rfl,hb1⟩;have hx1:=Fk hr1 hb1;have hx2:=Fk hr2 hb1;obtain⟨c0,c1⟩:=cb2 hx1;have d0:=cb1 hx2;have f0:=fb1 hx2;have hB1:Below w.heap.size w W1:=hw2.trans (hb1.mono (by simp;omega));clear hr1 hr2 hb1)
    |(refine⟨trivial,?_⟩;gi_at_call 132;refine(Bd7 _ _ _ _ _ _ _).mono ?_;rintro e W2 ⟨rfl,rfl⟩))
  · have h1:(p !=0)=true:=by assumption
    have e:Sz p G gs key cs=p:=by unfold Sz;rw[if_pos h1]
    have hc:=cb1 (P0 (i:=0) hx2 (.int .i64 p))
    exact⟨.int .i64 p,by simp[results,Try.f65,go_sem,hc],by rw[e],hB1.setCell (p:=⟨w.heap.size+1,0,none⟩) (by simp) _⟩
  · have h1:(p !=0)=false:=by assumption
    have h2:key.toList.isEmpty=true:=by assumption
    have e:Sz p G gs key cs=2:=by unfold Sz;rw[if_neg (by rw[h1];simp),if_pos h2]
    have hc:=cb1 (P0 (i:=0) hx2 (.int .i64 2))
    exact⟨.int .i64 2,by simp[results,Try.f65,go_sem,hc],by rw[e],hB1.setCell (p:=⟨w.heap.size+1,0,none⟩) (by simp) _⟩
  · have h1:(p !=0)=false:=by assumption
    have h2:key.toList.isEmpty=false:=by assumption
    have h3:32 <(key.size:Int):=by assumption
    have e:Sz p G gs key cs=3:=by unfold Sz;rw[if_neg (by rw[h1];simp),if_neg (by rw[h2];simp),if_pos h3]
    have hc:=cb1 (P0 (i:=0) hx2 (.int .i64 3))
    exact⟨.int .i64 3,by simp[results,Try.f65,go_sem,hc],by rw[e],hB1.setCell (p:=⟨w.heap.size+1,0,none⟩) (by simp) _⟩
  · have h1:(p !=0)=false:=by assumption
    have h2:key.toList.isEmpty=false:=by assumption
    have h3:(key.size:Int)≤32:=by assumption
    have h4:((cs.length:Int) !=(gs.length:Int))=true:=by assumption
    have e:Sz p G gs key cs=100:=by unfold Sz;rw[if_neg (by rw[h1];simp),if_neg (by rw[h2];simp),if_neg (by omega),if_pos h4]
    have hc:=cb1 (P0 (i:=0) hx2 (.int .i64 100))
    exact⟨.int .i64 100,by simp[results,Try.f65,go_sem,hc],by rw[e],hB1.setCell (p:=⟨w.heap.size+1,0,none⟩) (by simp) _⟩
  have h1:(p !=0)=false:=by assumption
  have h2:key.toList.isEmpty=false:=by assumption
  have h3:(key.size:Int)≤32:=by assumption
  have h4:((cs.length:Int) !=(gs.length:Int))=false:=by assumption
  have e:Sz p G gs key cs=bif(gs.zip cs).all (fun x=>G x.1.policy x.2) then 0 else 80:=by unfold Sz;rw[if_neg (by rw[h1];simp),if_neg (by rw[h2];simp),if_neg (by omega),if_neg (by rw[h4];simp)]
  have hp:p=0:=by simpa using h1
  clear h1
  subst hp
  have hlen : cs.length = gs.length := by have:(cs.length:Int)=gs.length:=by simpa using h4
                                          omega
  obtain⟨hl1,hl4⟩:=hp0 rfl
  obtain⟨b,off,rfl,hg⟩:=hG (by omega)
  obtain⟨b',off',rfl,hc⟩:=hS (by omega)
  have hW2:Below W1.heap.size W1 ((W1.alloc (.cells #[.slice (some ⟨b,off,none⟩) gs.length cap0] 66)).alloc (.cells #[.string key,.slice (some ⟨b',off',none⟩) cs.length cap1] 71)):=((Below.refl _ W1).alloc (Nat.le_refl _) _).alloc (by simp) _
  have hy2:=OE (.cells #[.string key,.slice (some ⟨b',off',none⟩) cs.length cap1] 71) (Hb (w:=W1) (.cells #[.slice (some ⟨b,off,none⟩) gs.length cap0] 66) rfl)
  have hy3:=Hb (w:=W1.alloc (.cells #[.slice (some ⟨b,off,none⟩) gs.length cap0] 66)) (.cells #[.string key,.slice (some ⟨b',off',none⟩) cs.length cap1] 71) (n:=W1.heap.size+1) (by simp)
  have hz2:=Fk hx2 hW2
  have hs1:=HW hx2
  have hs2:=HW hy3
  have hB2:=hB1.trans (hW2.mono hB1.size)
  generalize (W1.alloc (.cells #[.slice (some ⟨b,off,none⟩) gs.length cap0] 66)).alloc (.cells #[.string key,.slice (some ⟨b',off',none⟩) cs.length cap1] 71)=W2 at hW2 hy2 hy3 hz2 hs2 hB2⊢
  have hg2:GsAt W2.heap.size W2.heap.size W2 b off gs:=⟨⟨by have:=hg.1.1;omega,by have:=hg.1.1;omega⟩,fun j g hj=>⟨(hB2.cell (p:=⟨b,_,none⟩) hg.1.1).trans (hg.2 j g hj).1,(hB2.cell (p:=⟨b,_,none⟩) hg.1.1).trans (hg.2 j g hj).2⟩⟩
  have hc2:CsAt W2.heap.size W2.heap.size W2 b' off' cs:=by
    refine⟨⟨by have:=hc.1.1;omega,by have:=hc.1.1;omega⟩,fun j c hj=>?_⟩
    have k:∀o,W2.cell? ⟨b',o,none⟩=w.cell? ⟨b',o,none⟩:=fun o=>hB2.cell (p:=⟨b',o,none⟩) hc.1.1
    simp only[k]
    exact hc.2 j c hj
  refine wpIn_rangeFunc_ownH (F:=Fence.wide) rfl (by omega) (gf:=165) (lb:=#[.pointer (some ⟨W1.heap.size,0,none⟩),.pointer (some ⟨W1.heap.size+1,0,none⟩)]) rfl trivial (enters_of Try.func165 (by kernel_rfl) rfl)
    (Aog _ (by omega) W1.heap.size (W1.heap.size+1) W2.heap.size W2.heap.size b off cap0 b' off' cap1 gs cs hlen hl4 W2 (Nat.le_refl _) (cb1 hy2) (cb2 hy3).2 ⟨by omega,by omega⟩ ⟨by omega,by omega⟩ hg2 hc2)
    KB.trans (KB.putObj (Nat.le_refl _)) (Below.refl _ _) (fun _=>rfl)
    (fun pre W=>((∀x∈pre,G x.1.policy x.2=true)∧W.heap[w.heap.size+1]?=some (.cells #[.int .i64 0] 26 (0,0)))∧Below w.heap.size w W∧W2.heap.size≤W.heap.size)
    (fun c pre W=>((c=.ret∧∃x∈pre,G x.1.policy x.2=false)∧W.heap[w.heap.size+1]?=some (.cells #[.int .i64 80] 26 (0,0)))∧Below w.heap.size w W∧W2.heap.size≤W.heap.size)
    (OwnFrom.and (OwnFrom.and (ownFrom_pure _ _) (Own.from (YC _ _ _) _)) (OwnFrom.and (ownFrom_below (Nat.le_refl _) hB2.size) (Um _ _)))
    (fun c=>OwnFrom.and (OwnFrom.and (ownFrom_pure _ _) (Own.from (YC _ _ _) _)) (OwnFrom.and (ownFrom_below (Nat.le_refl _) hB2.size) (Um _ _)))
    ⟨⟨by simp,hz2⟩,hB2,Nat.le_refl _⟩
    (fun x a' W=>(∃B6 B7,a'={tmps:=#[Value.slice (some ⟨b,off,none⟩) gs.length cap0,Value.agg #[Value.string key,Value.slice (some ⟨b',off',none⟩) cs.length cap1],undef,
          Value.pointer (some {block:=w.heap.size,off:=0}),
          Value.pointer (some {block:=w.heap.size+1,off:=0}),Value.int IntKind.i64 0,Value.pointer (some ⟨B6,0,none⟩),Value.pointer (some ⟨B7,0,none⟩),
          Value.slice (some ⟨b,off,none⟩) gs.length cap0,Value.int IntKind.i64 0,Value.int IntKind.i64 0,Value.bool false,undef,
          Value.bool false,Value.pointer (some {block:=w.heap.size,off:=0}),Value.string key,Value.bool false,
          Value.bool (decide (32 <(key.size:Int))),Value.pointer (some {block:=w.heap.size,off:=0}),
          Value.string key,Value.int IntKind.i64 key.size,Value.bool (decide (32 <(key.size:Int))),Value.bool false,
          Value.pointer (some {block:=w.heap.size,off:=1}),Value.slice (some ⟨b',off',none⟩) cs.length cap1,
          Value.int IntKind.i64 cs.length,Value.slice (some ⟨b,off,none⟩) gs.length cap0,Value.int IntKind.i64 gs.length,
          Value.bool false,Value.slice (some ⟨b,off,none⟩) gs.length cap0,Value.agg #[Value.string key,Value.slice (some ⟨b',off',none⟩) cs.length cap1],
          Value.func (Fn.func 165) #[] #[Value.pointer (some {block:=W1.heap.size,off:=0}),Value.pointer (some {block:=W1.heap.size+1,off:=0})],
          gV x.1,cV x.2,undef,undef,undef,undef,undef],defers:=[]}∧
        (W.heap[B6]?=some (.cells #[.string x.1.name,.int .i64 x.1.policy] 79 (0,0))∧W.heap[B7]?=some (.cells #[.int .i64 x.2.stamp.n,.int .i64 x.2.stamp.site,.int .i64 x.2.vec.a,.int .i64 x.2.vec.b,.bool x.2.gone,.string x.2.value,.int .i64 x.2.dead.a,.int .i64 x.2.dead.b] 55 (0,0)))))
    (fun x a'=>Own.from (fun s X Y row hs hgr hr=>by
      obtain⟨B6,B7,e1,e2,e3⟩:=hs
      exact⟨B6,B7,e1,YC B6 _ _ s X Y row e2 hgr hr,YC B7 _ _ s X Y row e3 hgr hr⟩) _) ?assign ?body ?done ?stop
  case assign=>
    rintro l pre x W K ⟨⟨i1,i2⟩,i3,i4⟩ hK
    clear hlen h4
    dsimp only[Brx,gV,cV] at hK⊢
    gi_wp2
    have hb:Below W.heap.size W ((W.alloc (.cells #[.string x.1.name,.int .i64 x.1.policy] 79)).alloc (.cells #[.int .i64 x.2.stamp.n,.int .i64 x.2.stamp.site,.int .i64 x.2.vec.a,.int .i64 x.2.vec.b,.bool x.2.gone,.string x.2.value,.int .i64 x.2.dead.a,.int .i64 x.2.dead.b] 55)):=((Below.refl _ W).alloc (Nat.le_refl _) _).alloc (by simp) _
    exact hK _ _ (IL _ hb) (KB.of_below (hb.mono i4)) ⟨⟨i1,Fk i2 hb⟩,i3.trans (hb.mono i3.size),Nat.le_trans i4 hb.size⟩ ⟨W.heap.size,W.heap.size+1,rfl,OE _ (Hb _ rfl),Hb _ (by simp)⟩
  case body=>
    rintro l pre x a' W hl hr ⟨⟨i1,i2⟩,i3,i5⟩ ⟨B6,B7,rfl,e6,e7⟩ hlt
    obtain⟨k0,k1⟩:=cb2 e6
    obtain⟨m0,m1,m2,m3,m4,m5,m6,m7⟩:=cb8 e7
    have d0:=cb1 i2
    have f0:=fb1 i2
    cases hGx:G x.1.policy x.2 with
    | true=>
      gi_wp2_with (refine⟨trivial,?_⟩;gi_at_call 38;refine(CallsIn.inRound l (callsIn_wide.2 (hC x.1.policy x.2 _))).mono ?_;rw[hGx];rintro e W' ⟨rfl,hb⟩)
      exact⟨IL _ hb,KB.of_below (hb.mono i5),⟨fun y hy=>(List.mem_append.1 hy).elim (i1 y) (fun e=>by simp at e;subst e;exact hGx),Fk i2 hb⟩,i3.trans (hb.mono i3.size),Nat.le_trans i5 hb.size⟩
    | false=>
      gi_wp2_with (refine⟨trivial,?_⟩;gi_at_call 38;refine(CallsIn.inRound l (callsIn_wide.2 (hC x.1.policy x.2 _))).mono ?_;rw[hGx];rintro e W' ⟨rfl,hb⟩;have i4:=Fk i2 hb;have d4:=cb1 i4;have f4:=fb1 i4)
      exact⟨(IL _ hb).trans ((KeepsOthers.setCell _ _ _).from _),⟨⟨rfl,x,by simp,hGx⟩,P0 (i:=0) i4 (.int .i64 80)⟩,(i3.trans (hb.mono i3.size)).setCell (p:=⟨w.heap.size+1,0,none⟩) (by simp) _,Nat.le_trans i5 (by rw[Aiw];exact hb.size)⟩
  case done=>
    rintro D ys W hD rfl ⟨⟨i1,i2⟩,i3,i5⟩ hK
    have d0:=cb1 i2
    have f0:=fb1 i2
    gi_wp2
    have hK':=(KeepsOthers.setCell W ⟨w.heap.size+1,0,none⟩ (.int .i64 0)).same D _ hK rfl
    refine⟨by simp,.inl ⟨_,_,rfl,run_takeDeferred hK',?_⟩⟩
    have hc5:=cell_kept (World.cell?_setCell_same' W ⟨w.heap.size+1,0,none⟩ (.int .i64 0) (by rw[d0];rfl)) (grownBy_putObj' _ D (.deferred none)) (fun r e=>by cases e;exact⟨_,hK',rfl⟩)
    refine⟨.int .i64 0,?_,?_,(i3.setCell (p:=⟨w.heap.size+1,0,none⟩) (by simp) _).trans (belowK_b (w:=w) (Nat.le_refl _) _ D _ _ (by have:=hB2.size;omega) hK' rfl rfl)⟩
    ·simp[results,Try.f65,go_sem,hc5]
    ·rw[List.all_eq_true.2 (fun x hx=>i1 x hx)];rfl
  case stop=>
    rintro D c pre W hD ⟨k,hk,rfl⟩ ⟨⟨⟨rfl,x,hx,hGx⟩,i2⟩,i3,i5⟩ hK
    gi_wp2
    refine⟨by simp,.inl ⟨_,_,rfl,run_takeDeferred hK,?_⟩⟩
    have hc5:=cell_kept (cb1 i2) (grownBy_putObj' _ D (.deferred none)) (fun r e=>by cases e;exact⟨_,hK,rfl⟩)
    refine⟨.int .i64 80,?_,?_,i3.trans (belowK_b (w:=w) (Nat.le_refl _) W D _ _ (by have:=hB2.size;omega) hK rfl rfl)⟩
    ·simp[results,Try.f65,go_sem,hc5]
    · have:(gs.zip cs).all (fun x=>G x.1.policy x.2)=false:=by
        cases ha:(gs.zip cs).all (fun x=>G x.1.policy x.2) with
        |false=>rfl
        |true=>have:=(List.all_eq_true.1 ha) x (List.mem_of_mem_take hx);rw[hGx] at this;cases this
      rw[this];rfl
end Go.Proofs.Yteebobbhhgmeiaa
namespace Go.Proofs.Yteebobbhhgmeiaa
open Go.RowKit
def Ai (l:List TGroup) (r:TRow):Int:=bif AR l !=0 then AR l else bif r.key.size==0 then 2 else bif decide (32 <r.key.size) then 3 else bif r.cells.length !=l.length then 100 else bif(l.zip r.cells).all (fun x=>Bv x.1.policy x.2) then 0 else 80
def Ap2 (a0:List TGroup) (a1:TRow):A:=.v (.int .i64 (Ai a0 a1))
def Ap1 (_a0:List TGroup) (_a1:TRow):Objs:=[]
def Aij (_a0:List TGroup) (_a1:TRow):List Prop:=[]
theorem A6x (k:ByteArray):k.toList.isEmpty=(k.size==0):=by
 rw[ByteArray.toList_eq,Bool.eq_iff_iff,List.isEmpty_iff,beq_iff_eq,←K2]
 exact⟨fun h=>by rw[h];rfl,fun h=>List.eq_nil_of_length_eq_zero h⟩
theorem Bsa (l:List TGroup) (key:ByteArray) (cs:List TCell):Sz (AR l) Bv l key cs=Ai l ⟨key,cs⟩:=by
 unfold Sz Ai
 rw[A6x]
 have e3:decide (32 <((key.size:Nat):Int))=decide (32 <key.size):=decide_eq_decide.2 (by omega)
 have e4:(((cs.length:Nat):Int) !=(l.length:Int))=(cs.length !=l.length):=by
  rw[Bool.eq_iff_iff,bne_iff_ne,bne_iff_ne];omega
 simp only[Bool.cond_eq_ite,e4,decide_eq_true_eq,show(32 <((key.size:Nat):Int))=(32 <key.size) from propext (by omega)]
theorem A46 {R:World} {ad:Addr} {v:Value} (h:R.cell? ad=some v):ad=⟨ad.block,ad.off,none⟩:=by
 cases ad with|mk b o s=>
 cases s with
 |none=>rfl
 |some q=>
  exfalso
  unfold World.cell? at h
  cases hb:R.heap[b]? with
  |none=>simp only[hb] at h;cases h
  |some ob=>cases ob<;>simp[hb] at h
theorem Bvr (b o k j:Nat):((⟨b,o,none⟩:Addr).add k).add j=⟨b,o+k+j,none⟩:=by
 rw[Fj,Fj]
section
variable {F:Nat→Prop} {N:Nm} {nx:Nat} {R:World}
theorem HC.at0 {l:List A} {b o k j:Nat} {x:Value} (h:HC F N nx R l ((⟨b,o,none⟩:Addr).add k)) (hx:l[j]?=some (.v x)):R.cell? ⟨b,o+k+j,none⟩=some x:=by
 obtain⟨y,h1,h2⟩:=h j _ hx
 rw[Bvr] at h1
 rw[h1,h2.v_inv]
theorem By0 {gs:List TGroup} {v:Value} (hF:∀g,F g→g <R.heap.size) (h:Hv F N nx R (.sl .group gs) v):
  ∃a cap,v=.slice a gs.length cap∧(0 <gs.length→∃b off,a=some ⟨b,off,none⟩∧GsAt R.heap.size R.heap.size R b off gs):=by
 obtain⟨a,cap,e,_,h2⟩:=h.sl_inv
 refine⟨a,cap,e,fun hn=>?_⟩
 obtain⟨ad,rfl,hb,h3⟩:=h2 hn
 have hlt:=hF _ hb
 obtain⟨y,hy,_⟩:=h3 0 gs[0] (List.getElem?_eq_getElem hn) 0 (.v (.string gs[0].name)) rfl
 rw[Nat.zero_mul,add_zero,add_zero] at hy
 have hs:=A46 hy
 rw[hs] at h3⊢
 refine⟨ad.block,ad.off,rfl,⟨hlt,Nat.ne_of_lt hlt⟩,fun j g hj=>?_⟩
 have h4:=h3 j g hj
 exact⟨h4.at0 (j:=0) (x:=.string g.name) rfl,h4.at0 (j:=1) (x:=.int .i64 g.policy) rfl⟩
theorem Byy {cs:List TCell} {v:Value} (hF:∀g,F g→g <R.heap.size) (h:Hv F N nx R (.sl .cell cs) v):
  ∃a cap,v=.slice a cs.length cap∧(0 <cs.length→∃b off,a=some ⟨b,off,none⟩∧CsAt R.heap.size R.heap.size R b off cs):=by
 obtain⟨a,cap,e,_,h2⟩:=h.sl_inv
 refine⟨a,cap,e,fun hn=>?_⟩
 obtain⟨ad,rfl,hb,h3⟩:=h2 hn
 have hlt:=hF _ hb
 obtain⟨y,hy,_⟩:=h3 0 cs[0] (List.getElem?_eq_getElem hn) 0 (.v (.int .i64 cs[0].stamp.n)) rfl
 rw[Nat.zero_mul,add_zero,add_zero] at hy
 have hs:=A46 hy
 rw[hs] at h3⊢
 refine⟨ad.block,ad.off,rfl,⟨hlt,Nat.ne_of_lt hlt⟩,fun j c hj=>?_⟩
 have h4:=h3 j c hj
 exact⟨h4.at0 (j:=0) (x:=.int .i64 c.stamp.n) rfl,h4.at0 (j:=1) (x:=.int .i64 c.stamp.site) rfl,h4.at0 (j:=2) (x:=.int .i64 c.vec.a) rfl,h4.at0 (j:=3) (x:=.int .i64 c.vec.b) rfl,h4.at0 (j:=4) (x:=.bool c.gone) rfl,h4.at0 (j:=5) (x:=.string c.value) rfl,h4.at0 (j:=6) (x:=.int .i64 c.dead.a) rfl,h4.at0 (j:=7) (x:=.int .i64 c.dead.b) rfl⟩
theorem HRel.bare (hF:∀g,F g→g <R.heap.size):HRel F N 0 [] R:=⟨hF,fun _ _ h=>(by cases h),fun _ _ _ h=>(by cases h),fun _ _ _ _ _ h=>(by cases h)⟩
end
theorem CallOk.plain {P:Program} {f:FuncId} {args:List A} {x:Value} (h:CallOk P f args 0 [] 1 (.v x) 0 []) {F:Nat→Prop} {N:Nm} {R:World} {vs:List Value} (hF:∀g,F g→g <R.heap.size) (hv:HL F N 0 R args vs):
  Calls P f vs.toArray R fun e R'=>e=.returned x∧Below R.heap.size R R':=
 (h F N R vs (HRel.bare hF) hv).mono fun e R' ⟨y,F',N',e1,_,_,h4,h5⟩=>⟨by rw[e1,h4.v_inv],h5 (Nat.le_refl _)⟩
theorem Ap0 (a0:List TGroup) (a1:TRow) (_hp:∀p∈Aij a0 a1,p):CallOk Try.prog 65 [.sl .group a0,Af .row a1] 0 [] 1 (Ap2 a0 a1) 0 (Ap1 a0 a1):=by
 intro F N R vs hR hv
 obtain⟨v0,vs,rfl,h0,hv⟩:=hv.inv
 obtain⟨v1,vs,rfl,h1,hv⟩:=hv.inv
 rw[hv.inv0]
 obtain⟨us,rfl,h2⟩:=Hv.agg_inv (xs:=[.v (.string a1.key),.sl .cell a1.cells]) h1
 clear h1
 have h1:=h2
 obtain⟨u0,us,rfl,k0,h1⟩:=h1.inv
 obtain⟨u1,us,rfl,k1,h1⟩:=h1.inv
 rw[h1.inv0]
 rw[k0.v_inv]
 obtain⟨aa,cap0,rfl,g0⟩:=By0 hR.flt h0
 obtain⟨ab,cap1,rfl,g1⟩:=Byy hR.flt k1
 refine(Bfl R aa ab a0 a1.cells a1.key cap0 cap1 (AR a0) Bv ?_ G7 ?_ g0 g1).mono ?_
 ·intro W hW
  exact(Xx a0 (fun _ h=>by cases h)).plain (F:=F) (N:=N) (vs:=[_]) (fun g hg=>Nat.lt_of_lt_of_le (hR.flt g hg) hW.size) (HL.cons (h0.step (hR.grow hW).2) HL.nil)
 ·intro q c W
  have h:=(Am7 q c (fun _ h=>by cases h)).plain (F:=fun _=>False) (N:=N) (R:=W) (vs:=[.int .i64 q,cV c]) (fun g hg=>hg.elim) (HL.cons (.v _) (HL.cons (.v _) HL.nil))
  rw[IB] at h
  exact h
 ·rintro e W ⟨rfl,hb⟩
  rw[Bsa]
  exact⟨_,F,N,rfl,(hR.grow hb).1,Step.of_below hb,.v _,fun _=>hb⟩
def Azu:List A→Nat→Objs→Option A3:=Bg [.l .group,.t .row] 0 Ap2 Ap1 Aij
theorem A9g:Fi Try.prog 65 Azu:=Aq (ks:=[.l .group,.t .row]) Ap0
noncomputable def B1u:=A4 65 Azu Ch
theorem Bvd:Dd Try.prog B1u:=Am A9g B1t
noncomputable def Ci:=B1u
theorem Byl:Dd Try.prog Ci:=Bvd
end Go.Proofs.Yteebobbhhgmeiaa
namespace Go.Proofs.Yteebobbhhgmeiaa
open Go.RowKit
def SB (k:ByteArray):Int:=bif k.size==0 then 2 else bif decide (32 <k.size) then 3 else 0
def eqC (a b:TCell):Bool:=a.stamp.n==b.stamp.n&&a.stamp.site==b.stamp.site&&(a.vec.a==b.vec.a&&a.vec.b==b.vec.b)&&a.gone==b.gone&&a.value==b.value&&(a.dead.a==b.dead.a&&a.dead.b==b.dead.b)
def Afl:List TCell→List TCell→Bool
 | [],[]=>true
 |x::xs,y::ys=>eqC x y&&Afl xs ys
 |_,_=>false
def Bn3 (a b:TRow):Bool:=a.key==b.key&&Afl a.cells b.cells
def Hn (r:TRow):Bool:=r.cells.all fun c=>eqC c zeroC
def Alw (a0:ByteArray):Int:=bif a0.toList==(ByteArray.mk #[]).toList then(2:Int) else bif decide ((↑a0.size:Int) >(32:Int)) then(3:Int) else(0:Int)
def Alx (a0:ByteArray):A:=.v (.int .i64 (Alw a0))
def A4r (_a0:ByteArray):Objs:=[]
def Ayv (_a0:ByteArray):List Prop:=[]
theorem Bjb (a0:ByteArray):Ff (As Ci L0) 9 129 [Af .str a0] 0 []=some (1,Alx a0,0,A4r a0,Ayv a0):=by kernel_rfl
theorem Bor (a0:ByteArray) (hp:∀p∈Ayv a0,p):CallOk Try.prog 129 [Af .str a0] 0 [] 1 (Alx a0) 0 (A4r a0):=Az (An Byl Ay) (Bjb a0) hp
def Ayw (a0:ByteArray):A:=.v (.int .i64 (SB a0))
def Ayu (_a0:ByteArray):Objs:=[]
def Ape (_a0:ByteArray):List Prop:=[]
theorem Afk {a b:TCell}:eqC a b=true↔a=b:=by
 unfold eqC
 simp only[Bool.and_eq_true,beq_iff_eq]
 constructor
 ·rintro⟨⟨⟨⟨⟨h1,h2⟩,h3,h4⟩,h5⟩,h6⟩,h7,h8⟩
  cases a with|mk s v g t d=>cases b with|mk s' v' g' t' d'=>
  cases s;cases s';cases v;cases v';cases d;cases d'
  cases h1;cases h2;cases h3;cases h4;cases h5;cases h6;cases h7;cases h8
  rfl
 ·rintro rfl
  exact⟨⟨⟨⟨⟨rfl,rfl⟩,rfl,rfl⟩,rfl⟩,rfl⟩,rfl,rfl⟩
theorem Afm:∀{a b:List TCell},Afl a b=true↔a=b
 | [],[]=>by simp[Afl]
 | [],_::_=>by simp[Afl]
 |_::_,[]=>by simp[Afl]
 |x::xs,y::ys=>by
  unfold Afl
  rw[Bool.and_eq_true,Afk,Afm]
  simp
theorem Bry:∀(a b:List TCell),a.length=b.length→Afl a b=J9 a.length (fun i=>eqC (a.getD i (Ac TC.cell)) (b.getD i (Ac TC.cell))):=fun a b h=>by
 rw[Bool.eq_iff_iff,Afm,Hm]
 constructor
 ·rintro rfl i _
  exact Afk.2 rfl
 ·intro g
  refine List.ext_getElem h fun i h1 h2=>?_
  have:=Afk.1 (g i h1)
  rw[List.getD_eq_getElem?_getD,List.getD_eq_getElem?_getD,List.getElem?_eq_getElem h1,List.getElem?_eq_getElem h2] at this
  exact this
theorem Bja (k:ByteArray):Alw k=SB k:=by
 unfold Alw SB
 rw[RG]
 congr 2
 exact dgt k.size 32
theorem Bi9 (a0:ByteArray) (_hp:∀p∈Ape a0,p):CallOk Try.prog 129 [Af .str a0] 0 [] 1 (Ayw a0) 0 (Ayu a0):=by
 have h:=Bor a0 (fun _ h=>by cases h)
 unfold Alx at h
 rw[Bja] at h
 exact h
def A4s:List A→Nat→Objs→Option A3:=Bg [.t .str] 0 Ayw Ayu Ape
theorem Be7:Fi Try.prog 129 A4s:=Aq (ks:=[.t .str]) Bi9
noncomputable def Bqk:=A4 129 A4s Ci
theorem A5q:Dd Try.prog Bqk:=Am Be7 Byl
abbrev CB:Type:=(List TGroup)×Int×TRow
def MU (x:CB):St:=⟨42,1,[(0,.sl .group x.1),(3,.own 0 0),(6,.v (.int .i64 x.2.1))],[(0,some (.box 71 [.v (.string x.2.2.key),.sl .cell x.2.2.cells]))]⟩
def PH:St→Option CB
 |⟨42,1,[(0,.sl .group z0),(3,.own 0 0),(6,.v (.int .i64 z1))],[(0,some (.box 71 [.v (.string z2),.sl .cell z3]))]⟩=>some (z0,z1,⟨z2,z3⟩)
 |_=>none
theorem Alu:∀s x,PH s=some x→s=MU x:=fun s x h=>by
 unfold PH at h
 split at h
 ·cases h;rfl
 ·cases h
def Aas:De:=⟨1,1,[0,3,6],[],[(0,0)],[0],[4],[0]⟩
def A2d:Dy:=⟨[],[(0,0)],[0,3,6],[0]⟩
def Ie (a0:List TGroup) (a1:Int) (_a2:TRow):Bool:=!!decide (a1 <(↑a0.length:Int))
def DX (a0:List TGroup) (a1:Int) (a2:TRow):Bool:=(Ie a0 a1 a2)&&!PD (a0.getD a1.toNat (Ac TC.group)).2 (a2.2.getD a1.toNat (Ac TC.cell))
def Asb (a0:List TGroup) (a1:Int) (a2:TRow):Bool:=(Ie a0 a1 a2)&&!(DX a0 a1 a2)
def E0 (x:CB):CB:=(x.1,IntKind.i64.wrap (x.2.1+(1:Int)),x.2.2)
def EZ (x:CB):Cnd:=some (Asb x.1 x.2.1 x.2.2)
def NN (x:CB):List Prop:=[((Ie x.1 x.2.1 x.2.2)=true→(0:Int)≤x.2.1∧x.2.1 <(↑x.1.length:Int)),((Ie x.1 x.2.1 x.2.2)=true→(0:Int)≤x.2.1∧x.2.1 <(↑x.2.2.2.length:Int))]
abbrev Ig:CB→List Prop:=NN
def Tj (x:CB):Bj:=[(some 0,some (!decide (x.2.1 <(↑x.1.length:Int))),⟨42,1,[(4,.dead)],[(0,some (.box 71 [.v (.string x.2.2.1),.sl .cell x.2.2.2]))]⟩),(none,some ((DX x.1 x.2.1 x.2.2)),⟨42,1,[(4,.v (.int .i64 ((80:Int))))],[(0,some (.box 71 [.v (.string x.2.2.1),.sl .cell x.2.2.2]))]⟩)]
def GE (x:CB):Nat:=((↑x.1.length:Int) - x.2.1).toNat
def Asd (x:CB):CB:=A9 E0 EZ (GE x) x
theorem Ayn (a0:List TGroup) (a1:Int) (a2:TRow):Bw (As Bqk L0) 9 (Ae Try.prog 66 0) Aas (MU (a0,a1,a2))=some (NN (a0,a1,a2),Tj (a0,a1,a2),EZ (a0,a1,a2),MU (E0 (a0,a1,a2))):=by kernel_rfl
theorem Ayo (a0:List TGroup) (a1:Int) (a2:TRow) (hp:∀p∈Ig (a0,a1,a2),p):∀p∈NN (a0,a1,a2),p:=hp
noncomputable def Vm:=HG (As Bqk L0) (Ae Try.prog 66 0) Aas A2d PH GE E0 EZ Ig Tj
theorem Asc:∀s b ps outs,Vm s=some (b,ps,outs)→Wf s ⟨ps,outs,none⟩∧Bt (As C0 L0) b s ps outs:=
 Bh (T:=MU) A5q Ay (u:=9) (by kernel_rfl) (by decide) (fun⟨a0,a1,a2⟩=>Ayn a0 a1 a2) (fun⟨a0,a1,a2⟩=>Ayo a0 a1 a2) Alu (fun _=>AK (n:=42) rfl) fun _ _=>rfl
noncomputable def Aar:=DI 0 Vm L0
theorem Asa:G9 Aar:=AV Asc Ay
def JF (_a0:List TGroup) (a1:TRow):Bool:=SB a1.1 !=(0:Int)
def Iu (a0:List TGroup) (_a1:TRow):Bool:=AR a0 !=(0:Int)
def JE (a0:List TGroup) (a1:TRow):CB:=Asd (a0,(0:Int),a1)
def It (a0:List TGroup) (a1:TRow):Bool:=(↑a1.2.length:Int) !=(↑a0.length:Int)
def Adv (a0:List TGroup) (a1:TRow):Int:=bif(Iu a0 a1) then AR a0 else bif(JF a0 a1) then SB a1.1 else bif(It a0 a1) then(100:Int) else bif DX (JE a0 a1).fst (JE a0 a1).snd.fst (JE a0 a1).snd.snd then(80:Int) else(0:Int)
def Adw (a0:List TGroup) (a1:TRow):A:=.v (.int .i64 (Adv a0 a1))
def Ayp (_a0:List TGroup) (_a1:TRow):Objs:=[]
def Apa (a0:List TGroup) (a1:TRow):List Prop:=[(∀(g:TGroup),g∈a0→Ar g.1.size),((!(Iu a0 a1))=true→(!(JF a0 a1))=true→(!(It a0 a1))=true→AD E0 EZ Ig (GE (a0,(0:Int),a1)) (a0,(0:Int),a1))]
theorem Be3 (a0:List TGroup) (a1:TRow):Ff (As Bqk Aar) 9 66 [.sl .group a0,Af .row a1] 0 []=some (1,Adw a0 a1,0,Ayp a0 a1,[(∀(g:TGroup),g∈a0→Ar g.1.size),((!(Iu a0 a1))=true→(!(JF a0 a1))=true→(!(It a0 a1))=true→Ae Try.prog (66:FuncId) (0:Nat)=Ae Try.prog (66:FuncId) (0:Nat)),((!(Iu a0 a1))=true→(!(JF a0 a1))=true→(!(It a0 a1))=true→AD E0 EZ Ig (GE (a0,(0:Int),a1)) (a0,(0:Int),a1))]):=by kernel_rfl
theorem Bi7 (a0:List TGroup) (a1:TRow) (hp:∀p∈Apa a0 a1,p):CallOk Try.prog 66 [.sl .group a0,Af .row a1] 0 [] 1 (Adw a0 a1) 0 (Ayp a0 a1):=by
 have n0:=N0 hp
 have n1:((!(Iu a0 a1))=true→(!(JF a0 a1))=true→(!(It a0 a1))=true→Ae Try.prog (66:FuncId) (0:Nat)=Ae Try.prog (66:FuncId) (0:Nat)):=by intros;rfl
 have n2:=N0 (N1 hp)
 exact Az (An A5q Asa) (Be3 a0 a1) (Aa n0 (Aa n1 (Aa n2 Ad)))
def Apb (a0:List TGroup) (a1:TRow):A:=.v (.int .i64 (Ai a0 a1))
def Ao9 (_a0:List TGroup) (_a1:TRow):Objs:=[]
def Ah3 (a0:List TGroup) (_a1:TRow):List Prop:=[∀g∈a0,Ar g.name.size]
theorem Ao8 (l:List TGroup) (r:TRow) (hb:∀g∈l,Ar g.name.size):(∀p∈Apa l r,p)∧Adv l r=Ai l r:=by
 have hk2:Iu l r=(AR l !=0):=rfl
 have hk3:JF l r=(SB r.key !=0):=rfl
 have hk0:It l r=(r.cells.length !=l.length):=by
  show((r.cells.length:Int) !=(l.length:Int))=_
  rw[Bool.eq_iff_iff,bne_iff_ne,bne_iff_ne];omega
 have main:Iu l r=false→It l r=false→AD E0 EZ Ig (GE (l,0,r)) (l,0,r)∧DX (JE l r).fst (JE l r).snd.fst (JE l r).snd.snd=!(l.zip r.cells).all (fun x=>Bv x.1.policy x.2):=fun h2 h0=>by
  rw[hk0] at h0
  have hlen:r.cells.length=l.length:=by simpa using h0
  have hl4:l.length≤4:=(G7 (by rw[hk2] at h2;simpa using h2)).2
  have hf:∀i:Nat,DX l (i:Int) r=(decide (i <l.length)&&!Bv (l.getD i (Ac TC.group)).2 (r.2.getD i (Ac TC.cell))):=fun i=>by
   unfold DX Ie
   rw[nn,M9,Int.toNat_natCast,Aov]
  obtain⟨h1,k,hk,hx,_,_,hb'⟩:=IW (fun i=>((l,(i:Int),r):CB)) l.length (fun i=>!Bv (l.getD i (Ac TC.group)).2 (r.2.getD i (Ac TC.cell))) E0 EZ Ig (GE (l,0,r)) (l,0,r) rfl (by show l.length≤((l.length:Int) - 0).toNat;omega)
   (fun i _ _=>by
    show((!!decide ((i:Int) <(l.length:Int)))&&!DX l i r)=_
    rw[hf,nn,M9]
    cases decide (i <l.length)<;>rfl)
   (fun i hi _=>by
    show(l,IntKind.i64.wrap ((i:Int)+1),r)=(l,((i+1:Nat):Int),r)
    rw[Fd (by omega)])
   (fun i _ _=>by
    have hin:(!!decide ((i:Int) <(l.length:Int)))=true→(i:Int) <(l.length:Int):=fun h=>by rw[nn] at h;exact of_decide_eq_true h
    exact Aa (fun h=>⟨by show(0:Int)≤(i:Int);omega,hin h⟩) (Aa (fun h=>⟨by show(0:Int)≤(i:Int);omega,by have:=hin h;show(i:Int) <(r.cells.length:Int);omega⟩) Ad))
  refine⟨h1,?_⟩
  have hr:JE l r=(l,(k:Int),r):=hx
  rw[hr]
  show DX l (k:Int) r=_
  rw[hf,hb',Bzd l r.cells (Ac TC.group) (Ac TC.cell) (fun g c=>Bv g.policy c) hlen]
  congr 1
  exact Ji fun i _=>Bool.not_not _
 refine⟨Aa hb (Aa (fun h1 _ h3=>(main (by simpa using h1) (by simpa using h3)).1) Ad),?_⟩
 unfold Adv Ai
 have ek:SB r.key=bif r.key.size==0 then 2 else bif decide (32 <r.key.size) then 3 else 0:=rfl
 cases h2:Iu l r with
 |true=>rw[hk2] at h2;rw[h2];rfl
 | false=>
  rw[hk2] at h2
  rw[h2,cond_false,cond_false]
  cases h3:JF l r with
  | true=>
   rw[cond_true]
   rw[hk3,ek] at h3
   rw[ek]
   cases h5:r.key.size==0 with
   |true=>rfl
   |false=>
    rw[h5] at h3
    cases h6:decide (32 <r.key.size) with
    |true=>rfl
    |false=>rw[h6] at h3;cases h3
  | false=>
   rw[hk3,ek] at h3
   have h5:(r.key.size==0)=false:=by
    cases h5:r.key.size==0 with
    |false=>rfl
    |true=>rw[h5] at h3;cases h3
   rw[h5] at h3
   have h6:decide (32 <r.key.size)=false:=by
    cases h6:decide (32 <r.key.size) with
    |false=>rfl
    |true=>rw[h6] at h3;cases h3
   rw[h5,h6,cond_false,cond_false,cond_false]
   cases h0:It l r with
   |true=>rw[hk0] at h0;rw[h0];rfl
   |false=>
    rw[cond_false,(main (by rw[hk2];exact h2) h0).2]
    rw[hk0] at h0
    rw[h0,cond_false]
    cases(l.zip r.cells).all (fun x=>Bv x.1.policy x.2)<;>rfl
theorem Be2 (a0:List TGroup) (a1:TRow) (hp:∀p∈Ah3 a0 a1,p):CallOk Try.prog 66 [.sl .group a0,Af .row a1] 0 [] 1 (Apb a0 a1) 0 (Ao9 a0 a1):=by
 have hb:∀g∈a0,Ar g.name.size:=hp _ (List.mem_cons_self ..)
 have h:=Bi7 a0 a1 (Ao8 a0 a1 hb).1
 unfold Adw at h
 rw[(Ao8 a0 a1 hb).2] at h
 exact h
def Ayq:List A→Nat→Objs→Option A3:=Bg [.l .group,.t .row] 0 Apb Ao9 Ah3
theorem A8z:Fi Try.prog 66 Ayq:=Aq (ks:=[.l .group,.t .row]) Be2
noncomputable def Bzy:=A4 66 Ayq Bqk
theorem Bk0:Dd Try.prog Bzy:=Am A8z A5q
def Adj (a0:TCell) (a1:TCell):Bool:=a0.1.1==a1.1.1&&a0.1.2==a1.1.2&&(a0.2.1==a1.2.1&&a0.2.2==a1.2.2)&&a0.3==a1.3&&a0.4.toList==a1.4.toList&&(a0.5.1==a1.5.1&&a0.5.2==a1.5.2)
def Adk (a0:TCell) (a1:TCell):A:=.v (.bool (Adj a0 a1))
def Ax8 (_a0:TCell) (_a1:TCell):Objs:=[]
def Aoy (_a0:TCell) (_a1:TCell):List Prop:=[]
theorem Ber (a0:TCell) (a1:TCell):Ff (As Bzy L0) 9 76 [Af .cell a0,Af .cell a1] 0 []=some (1,Adk a0 a1,0,Ax8 a0 a1,Aoy a0 a1):=by kernel_rfl
theorem Biy (a0:TCell) (a1:TCell) (hp:∀p∈Aoy a0 a1,p):CallOk Try.prog 76 [Af .cell a0,Af .cell a1] 0 [] 1 (Adk a0 a1) 0 (Ax8 a0 a1):=Az (An Bk0 Ay) (Ber a0 a1) hp
def Aoz (a0:TCell) (a1:TCell):A:=.v (.bool (eqC a0 a1))
def Aox (_a0:TCell) (_a1:TCell):Objs:=[]
def Ahx (_a0:TCell) (_a1:TCell):List Prop:=[]
theorem Beq (a0:TCell) (a1:TCell) (_hp:∀p∈Ahx a0 a1,p):CallOk Try.prog 76 [Af .cell a0,Af .cell a1] 0 [] 1 (Aoz a0 a1) 0 (Aox a0 a1):=by
 have h:=Biy a0 a1 (fun _ h=>by cases h)
 have e:Adj a0 a1=eqC a0 a1:=by unfold Adj;rw[tlb];rfl
 unfold Adk at h
 rw[e] at h
 exact h
def Ax9:List A→Nat→Objs→Option A3:=Bg [.t .cell,.t .cell] 0 Aoz Aox Ahx
theorem A8q:Fi Try.prog 76 Ax9:=Aq (ks:=[.t .cell,.t .cell]) Beq
noncomputable def Bql:=A4 76 Ax9 Bzy
theorem A5r:Dd Try.prog Bql:=Am A8q Bk0
abbrev CC:Type:=Int×TRow×TRow
def MW (x:CC):St:=⟨39,2,[(2,.own 0 0),(3,.own 1 0),(5,.v (.int .i64 x.1))],[(0,some (.box 71 [.v (.string x.2.1.key),.sl .cell x.2.1.cells])),(1,some (.box 71 [.v (.string x.2.2.key),.sl .cell x.2.2.cells]))]⟩
def PL:St→Option CC
 |⟨39,2,[(2,.own 0 0),(3,.own 1 0),(5,.v (.int .i64 z0))],[(0,some (.box 71 [.v (.string z1),.sl .cell z2])),(1,some (.box 71 [.v (.string z3),.sl .cell z4]))]⟩=>some (z0,⟨z1,z2⟩,⟨z3,z4⟩)
 |_=>none
theorem Al7:∀s x,PL s=some x→s=MW x:=fun s x h=>by
 unfold PL at h
 split at h
 ·cases h;rfl
 ·cases h
def Aax:De:=⟨2,2,[2,3,5],[],[(0,0),(1,1)],[0,1],[4],[0,1]⟩
def A2g:Dy:=⟨[],[(0,0),(1,1)],[2,3,5],[0,1]⟩
def Ii (a0:Int) (a1:TRow) (_a2:TRow):Bool:=!!decide (a0 <(↑a1.2.length:Int))
def D0 (a0:Int) (a1:TRow) (a2:TRow):Bool:=(Ii a0 a1 a2)&&!eqC (a1.2.getD a0.toNat (Ac TC.cell)) (a2.2.getD a0.toNat (Ac TC.cell))
def Asl (a0:Int) (a1:TRow) (a2:TRow):Bool:=(Ii a0 a1 a2)&&!(D0 a0 a1 a2)
def E5 (x:CC):CC:=(IntKind.i64.wrap (x.1+(1:Int)),x.2.1,x.2.2)
def E4 (x:CC):Cnd:=some (Asl x.1 x.2.1 x.2.2)
def NQ (x:CC):List Prop:=[((Ii x.1 x.2.1 x.2.2)=true→(0:Int)≤x.1∧x.1 <(↑x.2.1.2.length:Int)),((Ii x.1 x.2.1 x.2.2)=true→(0:Int)≤x.1∧x.1 <(↑x.2.2.2.length:Int))]
abbrev Ij:CC→List Prop:=NQ
def Tn (x:CC):Bj:=[(some 0,some (!decide (x.1 <(↑x.2.1.2.length:Int))),⟨39,2,[(4,.dead)],[(0,some (.box 71 [.v (.string x.2.1.1),.sl .cell x.2.1.2])),(1,some (.box 71 [.v (.string x.2.2.1),.sl .cell x.2.2.2]))]⟩),(none,some ((D0 x.1 x.2.1 x.2.2)),⟨39,2,[(4,.v (.bool (false)))],[(0,some (.box 71 [.v (.string x.2.1.1),.sl .cell x.2.1.2])),(1,some (.box 71 [.v (.string x.2.2.1),.sl .cell x.2.2.2]))]⟩)]
def GG (x:CC):Nat:=((↑x.2.1.2.length:Int) - x.1).toNat
def Asn (x:CC):CC:=A9 E5 E4 (GG x) x
theorem Ay2 (a0:Int) (a1:TRow) (a2:TRow):Bw (As Bql L0) 9 (Ae Try.prog 67 0) Aax (MW (a0,a1,a2))=some (NQ (a0,a1,a2),Tn (a0,a1,a2),E4 (a0,a1,a2),MW (E5 (a0,a1,a2))):=by kernel_rfl
theorem Ay3 (a0:Int) (a1:TRow) (a2:TRow) (hp:∀p∈Ij (a0,a1,a2),p):∀p∈NQ (a0,a1,a2),p:=hp
noncomputable def Vt:=HG (As Bql L0) (Ae Try.prog 67 0) Aax A2g PL GG E5 E4 Ij Tn
theorem Asm:∀s b ps outs,Vt s=some (b,ps,outs)→Wf s ⟨ps,outs,none⟩∧Bt (As C0 L0) b s ps outs:=
 Bh (T:=MW) A5r Ay (u:=9) (by kernel_rfl) (by decide) (fun⟨a0,a1,a2⟩=>Ay2 a0 a1 a2) (fun⟨a0,a1,a2⟩=>Ay3 a0 a1 a2) Al7 (fun _=>AK (n:=39) rfl) fun _ _=>rfl
noncomputable def Aaw:=DI 0 Vt L0
theorem Ask:G9 Aaw:=AV Asm Ay
def JG (a0:TRow) (a1:TRow):CC:=Asn ((0:Int),a0,a1)
def Iv (a0:TRow) (a1:TRow):Bool:=!a0.1.toList==a1.1.toList||(↑a0.2.length:Int) !=(↑a1.2.length:Int)
def Ad3 (a0:TRow) (a1:TRow):Bool:=bif(Iv a0 a1) then false else bif D0 (JG a0 a1).fst (JG a0 a1).snd.fst (JG a0 a1).snd.snd then false else true
def Ad4 (a0:TRow) (a1:TRow):A:=.v (.bool (Ad3 a0 a1))
def Ay4 (_a0:TRow) (_a1:TRow):Objs:=[]
def Apk (a0:TRow) (a1:TRow):List Prop:=[((!(Iv a0 a1))=true→AD E5 E4 Ij (GG ((0:Int),a0,a1)) ((0:Int),a0,a1))]
theorem Bfb (a0:TRow) (a1:TRow):Ff (As Bql Aaw) 9 67 [Af .row a0,Af .row a1] 0 []=some (1,Ad4 a0 a1,0,Ay4 a0 a1,[((!(Iv a0 a1))=true→Ae Try.prog (67:FuncId) (0:Nat)=Ae Try.prog (67:FuncId) (0:Nat)),((!(Iv a0 a1))=true→AD E5 E4 Ij (GG ((0:Int),a0,a1)) ((0:Int),a0,a1))]):=by kernel_rfl
theorem Bje (a0:TRow) (a1:TRow) (hp:∀p∈Apk a0 a1,p):CallOk Try.prog 67 [Af .row a0,Af .row a1] 0 [] 1 (Ad4 a0 a1) 0 (Ay4 a0 a1):=by
 have n0:((!(Iv a0 a1))=true→Ae Try.prog (67:FuncId) (0:Nat)=Ae Try.prog (67:FuncId) (0:Nat)):=by intros;rfl
 have n1:=N0 hp
 exact Az (An A5r Ask) (Bfb a0 a1) (Aa n0 (Aa n1 Ad))
def Apl (a0:TRow) (a1:TRow):A:=.v (.bool (Bn3 a0 a1))
def Apj (_a0:TRow) (_a1:TRow):Objs:=[]
def Aib (a0:TRow) (_a1:TRow):List Prop:=[Ag a0.cells.length]
theorem Api (a b:TRow) (hb:Ag a.cells.length):(∀p∈Apk a b,p)∧Ad3 a b=Bn3 a b:=by
 unfold Ag at hb
 have hk0:Iv a b=(!(a.key==b.key)||a.cells.length !=b.cells.length):=by
  show(!(a.key.toList==b.key.toList)||((a.cells.length:Int) !=(b.cells.length:Int)))=_
  rw[tlb]
  congr 1
  rw[Bool.eq_iff_iff,bne_iff_ne,bne_iff_ne];omega
 have main:Iv a b=false→AD E5 E4 Ij (GG (0,a,b)) (0,a,b)∧D0 (JG a b).fst (JG a b).snd.fst (JG a b).snd.snd=!Afl a.cells b.cells:=fun h0=>by
  rw[hk0] at h0
  have hlen:a.cells.length=b.cells.length:=by simpa using(Bool.or_eq_false_iff.1 h0).2
  have hf:∀i:Nat,D0 (i:Int) a b=(decide (i <a.cells.length)&&!eqC (a.2.getD i (Ac TC.cell)) (b.2.getD i (Ac TC.cell))):=fun i=>by
   unfold D0 Ii
   rw[nn,M9,Int.toNat_natCast]
  obtain⟨h1,k,hk,hx,_,_,hb'⟩:=IW (fun i=>(((i:Int),a,b):CC)) a.cells.length (fun i=>!eqC (a.2.getD i (Ac TC.cell)) (b.2.getD i (Ac TC.cell))) E5 E4 Ij (GG (0,a,b)) (0,a,b) rfl (by show a.cells.length≤((a.cells.length:Int) - 0).toNat;omega)
   (fun i _ _=>by
    show((!!decide ((i:Int) <(a.cells.length:Int)))&&!D0 i a b)=_
    rw[hf,nn,M9]
    cases decide (i <a.cells.length)<;>rfl)
   (fun i hi _=>by
    show(IntKind.i64.wrap ((i:Int)+1),a,b)=(((i+1:Nat):Int),a,b)
    rw[Fd (by omega)])
   (fun i _ _=>by
    have hin:(!!decide ((i:Int) <(a.cells.length:Int)))=true→(i:Int) <(a.cells.length:Int):=fun h=>by rw[nn] at h;exact of_decide_eq_true h
    exact Aa (fun h=>⟨by show(0:Int)≤(i:Int);omega,hin h⟩) (Aa (fun h=>⟨by show(0:Int)≤(i:Int);omega,by have:=hin h;show(i:Int) <(b.cells.length:Int);omega⟩) Ad))
  refine⟨h1,?_⟩
  have hr:JG a b=((k:Int),a,b):=hx
  rw[hr]
  show D0 (k:Int) a b=_
  rw[hf,hb',Bry _ _ hlen]
  congr 1
  exact Ji fun i _=>Bool.not_not _
 refine⟨Aa (fun h=>(main (by simpa using h)).1) Ad,?_⟩
 unfold Ad3 Bn3
 cases h0:Iv a b with
 | true=>
  rw[hk0] at h0
  rw[cond_true]
  cases hk:a.key==b.key with
  |false=>rfl
  |true=>
   rw[hk] at h0
   have hne:a.cells.length≠b.cells.length:=by simpa using h0
   cases he:Afl a.cells b.cells with
   |false=>rfl
   |true=>exact absurd (congrArg List.length (Afm.1 he)) hne
 |false=>
  rw[cond_false,(main h0).2]
  rw[hk0] at h0
  have:(a.key==b.key)=true:=by simpa using(Bool.or_eq_false_iff.1 h0).1
  rw[this,Bool.true_and]
  cases Afl a.cells b.cells<;>rfl
theorem Bfa (a0:TRow) (a1:TRow) (hp:∀p∈Aib a0 a1,p):CallOk Try.prog 67 [Af .row a0,Af .row a1] 0 [] 1 (Apl a0 a1) 0 (Apj a0 a1):=by
 have hb:Ag a0.cells.length:=hp _ (List.mem_cons_self ..)
 have h:=Bje a0 a1 (Api a0 a1 hb).1
 unfold Ad4 at h
 rw[(Api a0 a1 hb).2] at h
 exact h
def Ay5:List A→Nat→Objs→Option A3:=Bg [.t .row,.t .row] 0 Apl Apj Aib
theorem A83:Fi Try.prog 67 Ay5:=Aq (ks:=[.t .row,.t .row]) Bfa
noncomputable def Bqm:=A4 67 Ay5 Bql
theorem A5s:Dd Try.prog Bqm:=Am A83 A5r
abbrev C2:Type:=Int×TRow
def MT (x:C2):St:=⟨19,1,[(1,.own 0 0),(3,.v (.int .i64 x.1))],[(0,some (.box 71 [.v (.string x.2.key),.sl .cell x.2.cells]))]⟩
def PG:St→Option C2
 |⟨19,1,[(1,.own 0 0),(3,.v (.int .i64 z0))],[(0,some (.box 71 [.v (.string z1),.sl .cell z2]))]⟩=>some (z0,⟨z1,z2⟩)
 |_=>none
theorem Alq:∀s x,PG s=some x→s=MT x:=fun s x h=>by
 unfold PG at h
 split at h
 ·cases h;rfl
 ·cases h
def Aap:De:=⟨1,1,[1,3],[],[(0,0)],[0],[2],[0]⟩
def A2b:Dy:=⟨[],[(0,0)],[1,3],[0]⟩
def J1 (a0:Int) (a1:TRow):Bool:=!!decide (a0 <(↑a1.2.length:Int))
def EY (a0:Int) (a1:TRow):Bool:=(J1 a0 a1)&&!eqC (a1.2.getD a0.toNat (Ac TC.cell)) (TCell.mk (TStamp.mk (0:Int) (0:Int)) (TVec.mk (0:Int) (0:Int)) false (ByteArray.mk #[]) (TVec.mk (0:Int) (0:Int)))
def Ar6 (a0:Int) (a1:TRow):Bool:=(J1 a0 a1)&&!(EY a0 a1)
def GD (x:C2):C2:=(IntKind.i64.wrap (x.1+(1:Int)),x.2)
def GC (x:C2):Cnd:=some (Ar6 x.1 x.2)
def NK (x:C2):List Prop:=[((J1 x.1 x.2)=true→(0:Int)≤x.1∧x.1 <(↑x.2.2.length:Int))]
abbrev JD:C2→List Prop:=NK
def Th (x:C2):Bj:=[(some 0,some (!decide (x.1 <(↑x.2.2.length:Int))),⟨19,1,[(2,.dead)],[(0,some (.box 71 [.v (.string x.2.1),.sl .cell x.2.2]))]⟩),(none,some ((EY x.1 x.2)),⟨19,1,[(2,.v (.bool (false)))],[(0,some (.box 71 [.v (.string x.2.1),.sl .cell x.2.2]))]⟩)]
def Ib (x:C2):Nat:=((↑x.2.2.length:Int) - x.1).toNat
def NL (x:C2):C2:=A9 GD GC (Ib x) x
theorem Ayh (a0:Int) (a1:TRow):Bw (As Bqm L0) 9 (Ae Try.prog 68 0) Aap (MT (a0,a1))=some (NK (a0,a1),Th (a0,a1),GC (a0,a1),MT (GD (a0,a1))):=by kernel_rfl
theorem Ayi (a0:Int) (a1:TRow) (hp:∀p∈JD (a0,a1),p):∀p∈NK (a0,a1),p:=hp
noncomputable def Vl:=HG (As Bqm L0) (Ae Try.prog 68 0) Aap A2b PG Ib GD GC JD Th
theorem Ar7:∀s b ps outs,Vl s=some (b,ps,outs)→Wf s ⟨ps,outs,none⟩∧Bt (As C0 L0) b s ps outs:=
 Bh (T:=MT) A5s Ay (u:=9) (by kernel_rfl) (by decide) (fun⟨a0,a1⟩=>Ayh a0 a1) (fun⟨a0,a1⟩=>Ayi a0 a1) Alq (fun _=>AK (n:=19) rfl) fun _ _=>rfl
noncomputable def Aao:=DI 0 Vl L0
theorem Ar5:G9 Aao:=AV Ar7 Ay
def Adr (a0:TRow):Bool:=bif EY (NL ((0:Int),a0)).fst (NL ((0:Int),a0)).snd then false else true
def Ads (a0:TRow):A:=.v (.bool (Adr a0))
def Ayj (_a0:TRow):Objs:=[]
def Ao3 (a0:TRow):List Prop:=[(AD GD GC JD (Ib ((0:Int),a0)) ((0:Int),a0))]
theorem Bez (a0:TRow):Ff (As Bqm Aao) 9 68 [Af .row a0] 0 []=some (1,Ads a0,0,Ayj a0,[(Ae Try.prog (68:FuncId) (0:Nat)=Ae Try.prog (68:FuncId) (0:Nat)),(AD GD GC JD (Ib ((0:Int),a0)) ((0:Int),a0))]):=by kernel_rfl
theorem Bi5 (a0:TRow) (hp:∀p∈Ao3 a0,p):CallOk Try.prog 68 [Af .row a0] 0 [] 1 (Ads a0) 0 (Ayj a0):=by
 have n1:=N0 hp
 exact Az (An A5s Ar5) (Bez a0) (Aa rfl (Aa n1 Ad))
def Ao4 (a0:TRow):A:=.v (.bool (Hn a0))
def Ao2 (_a0:TRow):Objs:=[]
def Ahy (a0:TRow):List Prop:=[Ag a0.cells.length]
theorem Ao1 (a:TRow) (hb:Ag a.cells.length):(∀p∈Ao3 a,p)∧Adr a=Hn a:=by
 unfold Ag at hb
 have hf:∀i:Nat,EY (i:Int) a=(decide (i <a.cells.length)&&!eqC (a.2.getD i (Ac TC.cell)) zeroC):=fun i=>by
  unfold EY J1
  rw[nn,M9,Int.toNat_natCast]
  rfl
 obtain⟨h1,k,hk,hx,_,_,hb'⟩:=IW (fun i=>(((i:Int),a):C2)) a.cells.length (fun i=>!eqC (a.2.getD i (Ac TC.cell)) zeroC) GD GC JD (Ib (0,a)) (0,a) rfl (by show a.cells.length≤((a.cells.length:Int) - 0).toNat;omega)
  (fun i _ _=>by
   show((!!decide ((i:Int) <(a.cells.length:Int)))&&!EY i a)=_
   rw[hf,nn,M9]
   cases decide (i <a.cells.length)<;>rfl)
  (fun i hi _=>by
   show(IntKind.i64.wrap ((i:Int)+1),a)=(((i+1:Nat):Int),a)
   rw[Fd (by omega)])
  (fun i _ _=>Aa (fun h=>⟨by show(0:Int)≤(i:Int);omega,by
   have h':(!!decide ((i:Int) <(a.cells.length:Int)))=true:=h
   rw[nn] at h';exact of_decide_eq_true h'⟩) Ad)
 refine⟨Aa h1 Ad,?_⟩
 have hr:NL (0,a)=((k:Int),a):=hx
 unfold Adr
 rw[hr]
 show(bif EY (k:Int) a then false else true)=_
 rw[hf,hb']
 unfold Hn
 rw[Bra a.cells (Ac TC.cell)]
 rw[show J9 a.cells.length (fun i=>!!eqC (a.2.getD i (Ac TC.cell)) zeroC)=J9 a.cells.length (fun i=>eqC (a.cells.getD i (Ac TC.cell)) zeroC) from Ji fun i _=>Bool.not_not _]
 cases J9 a.cells.length (fun i=>eqC (a.cells.getD i (Ac TC.cell)) zeroC)<;>rfl
theorem Bey (a0:TRow) (hp:∀p∈Ahy a0,p):CallOk Try.prog 68 [Af .row a0] 0 [] 1 (Ao4 a0) 0 (Ao2 a0):=by
 have hb:Ag a0.cells.length:=hp _ (List.mem_cons_self ..)
 have h:=Bi5 a0 (Ao1 a0 hb).1
 unfold Ads at h
 rw[(Ao1 a0 hb).2] at h
 exact h
def Ayk:List A→Nat→Objs→Option A3:=Bg [.t .row] 0 Ao4 Ao2 Ahy
theorem A8u:Fi Try.prog 68 Ayk:=Aq (ks:=[.t .row]) Bey
noncomputable def Bqn:=A4 68 Ayk Bqm
theorem A5t:Dd Try.prog Bqn:=Am A8u A5s
abbrev CE:Type:=(List TCell)×Int×Int
def MZ (x:CE):St:=⟨16,1,[(6,.sl .cell x.1),(7,.v (.int .i64 x.2.1)),(8,.v (.int .i64 x.2.2))],[]⟩
def PV:St→Option CE
 |⟨16,1,[(6,.sl .cell z0),(7,.v (.int .i64 z1)),(8,.v (.int .i64 z2))],[]⟩=>some (z0,z1,z2)
 |_=>none
theorem Amj:∀s x,PV s=some x→s=MZ x:=fun s x h=>by
 unfold PV at h
 split at h
 ·cases h;rfl
 ·cases h
def Aa6:De:=⟨1,1,[6,7,8],[],[],[],[2],[]⟩
def A2p:Dy:=⟨[],[],[6,7,8],[]⟩
def E8 (a0:List TCell) (a1:Int) (a2:Int):Bool:=!!decide (a2 <a1)&&!((a0.getD a2.toNat (Ac TC.cell)).1.1==(0:Int)&&(a0.getD a2.toNat (Ac TC.cell)).1.2==(0:Int)&&((a0.getD a2.toNat (Ac TC.cell)).2.1==(0:Int)&&(a0.getD a2.toNat (Ac TC.cell)).2.2==(0:Int)&&((a0.getD a2.toNat (Ac TC.cell)).3==false&&((a0.getD a2.toNat (Ac TC.cell)).4.toList==(ByteArray.mk #[]).toList&&((a0.getD a2.toNat (Ac TC.cell)).5.1==(0:Int)&&(a0.getD a2.toNat (Ac TC.cell)).5.2==(0:Int))))))
def Asz (a0:List TCell) (a1:Int) (a2:Int):Bool:=!!decide (a2 <a1)&&!(E8 a0 a1 a2)
def GM (x:CE):CE:=(x.1,x.2.1,IntKind.i64.wrap (x.2.2+(1:Int)))
def GL (x:CE):Cnd:=some (Asz x.1 x.2.1 x.2.2)
def NT (x:CE):List Prop:=[((!!decide (x.2.2 <x.2.1))=true→(0:Int)≤x.2.2∧x.2.2 <(↑x.1.length:Int))]
abbrev JK:CE→List Prop:=NT
def Tt (x:CE):Bj:=[(some 0,some (!decide (x.2.2 <x.2.1)),⟨16,1,[(2,.dead)],[]⟩),(none,some ((E8 x.1 x.2.1 x.2.2)),⟨16,2,[(2,.v (.bool (false)))],[]⟩)]
def Im (x:CE):Nat:=(x.2.1 - x.2.2).toNat
def As1 (x:CE):CE:=A9 GM GL (Im x) x
theorem Azq (a0:List TCell) (a1:Int) (a2:Int):Bw (As Bqn L0) 9 (Ae Try.prog 52 0) Aa6 (MZ (a0,a1,a2))=some (NT (a0,a1,a2),Tt (a0,a1,a2),GL (a0,a1,a2),MZ (GM (a0,a1,a2))):=by kernel_rfl
theorem Azr (a0:List TCell) (a1:Int) (a2:Int) (hp:∀p∈JK (a0,a1,a2),p):∀p∈NT (a0,a1,a2),p:=hp
noncomputable def Vy:=HG (As Bqn L0) (Ae Try.prog 52 0) Aa6 A2p PV Im GM GL JK Tt
theorem As0:∀s b ps outs,Vy s=some (b,ps,outs)→Wf s ⟨ps,outs,none⟩∧Bt (As C0 L0) b s ps outs:=
 Bh (T:=MZ) A5t Ay (u:=9) (by kernel_rfl) (by decide) (fun⟨a0,a1,a2⟩=>Azq a0 a1 a2) (fun⟨a0,a1,a2⟩=>Azr a0 a1 a2) Amj (fun _=>AK (n:=16) rfl) fun _ _=>rfl
noncomputable def Aa5:=DI 0 Vy L0
theorem Asy:G9 Aa5:=AV As0 Ay
def Q3 (a0:TRow):CE:=As1 (a0.2,(↑a0.2.length:Int),(0:Int))
def Aec (a0:TRow):Bool:=bif E8 (Q3 a0).fst (Q3 a0).snd.fst (Q3 a0).snd.snd then false else true
def Aed (a0:TRow):A:=.v (.bool (Aec a0))
def Azs (_a0:TRow):Objs:=[]
def Apy (a0:TRow):List Prop:=[(AD GM GL JK (Im (a0.2,(↑a0.2.length:Int),(0:Int))) (a0.2,(↑a0.2.length:Int),(0:Int)))]
theorem Bfp (a0:TRow):Ff (As Bqn Aa5) 9 52 [Af .row a0] 0 []=some (1,Aed a0,0,Azs a0,[(Ae Try.prog (52:FuncId) (0:Nat)=Ae Try.prog (52:FuncId) (0:Nat)),(AD GM GL JK (Im (a0.2,(↑a0.2.length:Int),(0:Int))) (a0.2,(↑a0.2.length:Int),(0:Int)))]):=by kernel_rfl
theorem Bjo (a0:TRow) (hp:∀p∈Apy a0,p):CallOk Try.prog 52 [Af .row a0] 0 [] 1 (Aed a0) 0 (Azs a0):=by
 have n1:=N0 hp
 exact Az (An A5t Asy) (Bfp a0) (Aa rfl (Aa n1 Ad))
def Apz (a0:TRow):A:=.v (.bool (Hn a0))
def Apx (_a0:TRow):Objs:=[]
def Aii (a0:TRow):List Prop:=[Ag a0.cells.length]
theorem Apw (a:TRow) (hb:Ag a.cells.length):(∀p∈Apy a,p)∧Aec a=Hn a:=by
 unfold Ag at hb
 have hz:∀c:TCell,(c.1.1==(0:Int)&&c.1.2==(0:Int)&&(c.2.1==(0:Int)&&c.2.2==(0:Int)&&(c.3==false&&(c.4.toList==(ByteArray.mk #[]).toList&&(c.5.1==(0:Int)&&c.5.2==(0:Int))))))=eqC c zeroC:=fun c=>by
  rw[tlb]
  unfold eqC zeroC
  simp only[Bool.and_assoc]
 have hf:∀i:Nat,E8 a.2 (a.2.length:Int) (i:Int)=(decide (i <a.cells.length)&&!eqC (a.2.getD i (Ac TC.cell)) zeroC):=fun i=>by
  unfold E8
  rw[nn,M9,Int.toNat_natCast,hz]
 obtain⟨h1,k,hk,hx,_,_,hb'⟩:=IW (fun i=>((a.2,(a.2.length:Int),(i:Int)):CE)) a.cells.length (fun i=>!eqC (a.2.getD i (Ac TC.cell)) zeroC) GM GL JK (Im (a.2,(a.2.length:Int),0)) (a.2,(a.2.length:Int),0) rfl (by show a.cells.length≤((a.cells.length:Int) - 0).toNat;omega)
  (fun i _ _=>by
   show((!!decide ((i:Int) <(a.cells.length:Int)))&&!E8 a.2 (a.2.length:Int) i)=_
   rw[hf,nn,M9]
   cases decide (i <a.cells.length)<;>rfl)
  (fun i hi _=>by
   show(a.2,(a.2.length:Int),IntKind.i64.wrap ((i:Int)+1))=(a.2,(a.2.length:Int),((i+1:Nat):Int))
   rw[Fd (by omega)])
  (fun i _ _=>Aa (fun h=>⟨by show(0:Int)≤(i:Int);omega,by
   have h':(!!decide ((i:Int) <(a.cells.length:Int)))=true:=h
   rw[nn] at h';exact of_decide_eq_true h'⟩) Ad)
 refine⟨Aa h1 Ad,?_⟩
 have hr:Q3 a=(a.2,(a.2.length:Int),(k:Int)):=hx
 unfold Aec
 rw[hr]
 show(bif E8 a.2 (a.2.length:Int) (k:Int) then false else true)=_
 rw[hf,hb']
 unfold Hn
 rw[Bra a.cells (Ac TC.cell)]
 rw[show J9 a.cells.length (fun i=>!!eqC (a.2.getD i (Ac TC.cell)) zeroC)=J9 a.cells.length (fun i=>eqC (a.cells.getD i (Ac TC.cell)) zeroC) from Ji fun i _=>Bool.not_not _]
 cases J9 a.cells.length (fun i=>eqC (a.cells.getD i (Ac TC.cell)) zeroC)<;>rfl
theorem Bfo (a0:TRow) (hp:∀p∈Aii a0,p):CallOk Try.prog 52 [Af .row a0] 0 [] 1 (Apz a0) 0 (Apx a0):=by
 have hb:Ag a0.cells.length:=hp _ (List.mem_cons_self ..)
 have h:=Bjo a0 (Apw a0 hb).1
 unfold Aed at h
 rw[(Apw a0 hb).2] at h
 exact h
def Azt:List A→Nat→Objs→Option A3:=Bg [.t .row] 0 Apz Apx Aii
theorem A9f:Fi Try.prog 52 Azt:=Aq (ks:=[.t .row]) Bfo
noncomputable def B1v:=A4 52 Azt Bqn
theorem Bve:Dd Try.prog B1v:=Am A9f A5t
noncomputable def Cj:=B1v
theorem Bym:Dd Try.prog Cj:=Bve
end Go.Proofs.Yteebobbhhgmeiaa
namespace Go.Proofs.Yteebobbhhgmeiaa
open Go.RowKit
def KU (a b:TVec):TVec:=⟨max (max 0 a.a) b.a,max (max 0 a.b) b.b⟩
def Aci (c:TCell):TVec:=KU c.vec c.dead
def Jr (cs:List TCell):TVec:=cs.foldl (fun v c=>KU v (Aci c)) ⟨0,0⟩
def VO (l:List TGroup) (k:ByteArray):Int:=bif AR l !=0 then AR l else SB k
def Ahk (l:List TGroup) (k:ByteArray):TRow:=⟨bif VO l k !=0 then⟨#[]⟩ else k,bif VO l k !=0 then[] else List.replicate l.length zeroC⟩
noncomputable def Bzz:=A4 155 (inl (As Cj L0) 4 155) Cj
theorem Bk1:Dd Try.prog Bzz:=Am (Acg (An Bym Ay) 4 155) Bym
noncomputable def Bz0:=A4 109 (inl (As Bzz L0) 4 109) Bzz
theorem Bk2:Dd Try.prog Bz0:=Am (Acg (An Bk1 Ay) 4 109) Bk1
def Td (a0:TVec) (a1:TVec):TVec:=TVec.mk (max (max (0:Int) a0.1) a1.1) (max (max (0:Int) a0.2) a1.2)
def Alk (a0:TVec) (a1:TVec):A:=.v (.agg ⟨[.int .i64 ((Td a0 a1).a),.int .i64 ((Td a0 a1).b)]⟩)
def Alj (_a0:TVec) (_a1:TVec):Objs:=[]
def Axu (_a0:TVec) (_a1:TVec):List Prop:=[]
theorem Bis (a0:TVec) (a1:TVec):Ff (As Bz0 L0) 9 110 [Af .vec a0,Af .vec a1] 0 []=some (1,Alk a0 a1,0,Alj a0 a1,[((0:Int)≤(0:Int)∧(0:Int) <(↑(2:Nat):Int)),((0:Nat) <(2:Nat)),((0:Int)≤(0:Int)∧(0:Int) <(↑(2:Nat):Int)),((0:Nat) <(2:Nat)),((0:Int)≤(1:Int)∧(1:Int) <(↑(2:Nat):Int)),((1:Nat) <(2:Nat)),((0:Int)≤(1:Int)∧(1:Int) <(↑(2:Nat):Int)),((1:Nat) <(2:Nat))]):=by kernel_rfl
theorem Boo (a0:TVec) (a1:TVec) (_hp:∀p∈Axu a0 a1,p):CallOk Try.prog 110 [Af .vec a0,Af .vec a1] 0 [] 1 (Alk a0 a1) 0 (Alj a0 a1):=by
 have n0:((0:Int)≤(0:Int)∧(0:Int) <(↑(2:Nat):Int)):=by first|rfl|decide+kernel
 have n1:((0:Nat) <(2:Nat)):=by first|rfl|decide+kernel
 have n4:((0:Int)≤(1:Int)∧(1:Int) <(↑(2:Nat):Int)):=by first|rfl|decide+kernel
 have n5:((1:Nat) <(2:Nat)):=by first|rfl|decide+kernel
 exact Az (An Bk2 Ay) (Bis a0 a1) (Aa n0 (Aa n1 (Aa n0 (Aa n1 (Aa n4 (Aa n5 (Aa n4 (Aa n5 Ad))))))))
def A4n:List A→Nat→Objs→Option A3:=Bg [.t .vec,.t .vec] 0 Alk Alj Axu
theorem Bei:Fi Try.prog 110 A4n:=Aq (ks:=[.t .vec,.t .vec]) Boo
noncomputable def Bz1:=A4 110 A4n Bz0
theorem Bk3:Dd Try.prog Bz1:=Am Bei Bk2
def XR (a0:TCell):TVec:=Td a0.2 a0.5
def XT (a0:TCell):A:=.v (.agg ⟨[.int .i64 ((XR a0).a),.int .i64 ((XR a0).b)]⟩)
def XS (_a0:TCell):Objs:=[]
def Ut (_a0:TCell):List Prop:=[]
theorem A8p (a0:TCell):Ff (As Bz1 L0) 9 44 [Af .cell a0] 0 []=some (1,XT a0,0,XS a0,Ut a0):=by kernel_rfl
theorem Beo (a0:TCell) (hp:∀p∈Ut a0,p):CallOk Try.prog 44 [Af .cell a0] 0 [] 1 (XT a0) 0 (XS a0):=Az (An Bk3 Ay) (A8p a0) hp
def Aow:List A→Nat→Objs→Option A3:=Bg [.t .cell] 0 XT XS Ut
theorem A19:Fi Try.prog 44 Aow:=Aq (ks:=[.t .cell]) Beo
noncomputable def Bz2:=A4 44 Aow Bz1
theorem Bk4:Dd Try.prog Bz2:=Am A19 Bk3
def K6 (a0:TCell):TVec:=TVec.mk (max (max (0:Int) a0.2.1) a0.5.1) (max (max (0:Int) a0.2.2) a0.5.2)
def TM (a0:TCell):A:=.v (.agg ⟨[.int .i64 ((K6 a0).a),.int .i64 ((K6 a0).b)]⟩)
def TL (_a0:TCell):Objs:=[]
def ZA (_a0:TCell):List Prop:=[]
theorem A01 (a0:TCell):Ff (As Bz2 L0) 9 43 [Af .cell a0] 0 []=some (1,TM a0,0,TL a0,[((0:Int)≤(0:Int)∧(0:Int) <(↑(2:Nat):Int)),((0:Nat) <(2:Nat)),((0:Int)≤(0:Int)∧(0:Int) <(2:Int)),((0:Nat) <(2:Nat)),((0:Int)≤(0:Int)∧(0:Int) <(2:Int)),((0:Nat) <(2:Nat)),((0:Int)≤(0:Int)∧(0:Int) <(2:Int)),((0:Nat) <(2:Nat)),((0:Int)≤(1:Int)∧(1:Int) <(2:Int)),((1:Nat) <(2:Nat)),((0:Int)≤(1:Int)∧(1:Int) <(2:Int)),((1:Nat) <(2:Nat)),((0:Int)≤(1:Int)∧(1:Int) <(2:Int)),((1:Nat) <(2:Nat)),((0:Int)≤(1:Int)∧(1:Int) <(↑(2:Nat):Int)),((1:Nat) <(2:Nat)),((0:Int)≤(0:Int)∧(0:Int) <(2:Int)),((0:Nat) <(2:Nat)),((0:Int)≤(0:Int)∧(0:Int) <(2:Int)),((0:Nat) <(2:Nat)),((0:Int)≤(0:Int)∧(0:Int) <(2:Int)),((0:Nat) <(2:Nat)),((0:Int)≤(1:Int)∧(1:Int) <(2:Int)),((1:Nat) <(2:Nat)),((0:Int)≤(1:Int)∧(1:Int) <(2:Int)),((1:Nat) <(2:Nat)),((0:Int)≤(1:Int)∧(1:Int) <(2:Int)),((1:Nat) <(2:Nat))]):=by kernel_rfl
theorem A6f (a0:TCell) (_hp:∀p∈ZA a0,p):CallOk Try.prog 43 [Af .cell a0] 0 [] 1 (TM a0) 0 (TL a0):=by
 have n0:((0:Int)≤(0:Int)∧(0:Int) <(↑(2:Nat):Int)):=by first|rfl|decide+kernel
 have n1:((0:Nat) <(2:Nat)):=by first|rfl|decide+kernel
 have n2:((0:Int)≤(0:Int)∧(0:Int) <(2:Int)):=by first|rfl|decide+kernel
 have n8:((0:Int)≤(1:Int)∧(1:Int) <(2:Int)):=by first|rfl|decide+kernel
 have n9:((1:Nat) <(2:Nat)):=by first|rfl|decide+kernel
 have n14:((0:Int)≤(1:Int)∧(1:Int) <(↑(2:Nat):Int)):=by first|rfl|decide+kernel
 exact Az (An Bk4 Ay) (A01 a0) (Aa n0 (Aa n1 (Aa n2 (Aa n1 (Aa n2 (Aa n1 (Aa n2 (Aa n1 (Aa n8 (Aa n9 (Aa n8 (Aa n9 (Aa n8 (Aa n9 (Aa n14 (Aa n9 (Aa n2 (Aa n1 (Aa n2 (Aa n1 (Aa n2 (Aa n1 (Aa n8 (Aa n9 (Aa n8 (Aa n9 (Aa n8 (Aa n9 Ad))))))))))))))))))))))))))))
def Ae6:List A→Nat→Objs→Option A3:=Bg [.t .cell] 0 TM TL ZA
theorem Auk:Fi Try.prog 43 Ae6:=Aq (ks:=[.t .cell]) A6f
noncomputable def Bqp:=A4 43 Ae6 Bz2
theorem A5u:Dd Try.prog Bqp:=Am Auk Bk4
abbrev Cy:Type:=Int×TRow×TVec
def LN (x:Cy):St:=⟨21,3,[(1,.own 0 0),(3,.own 2 0),(4,.v (.int .i64 x.1))],[(0,some (.box 71 [.v (.string x.2.1.key),.sl .cell x.2.1.cells])),(2,some (.box 31 [.v (.int .i64 x.2.2.a),.v (.int .i64 x.2.2.b)]))]⟩
def NP:St→Option Cy
 |⟨21,3,[(1,.own 0 0),(3,.own 2 0),(4,.v (.int .i64 z0))],[(0,some (.box 71 [.v (.string z1),.sl .cell z2])),(2,some (.box 31 [.v (.int .i64 z3),.v (.int .i64 z4)]))]⟩=>some (z0,⟨z1,z2⟩,⟨z3,z4⟩)
 |_=>none
theorem Ah6:∀s x,NP s=some x→s=LN x:=fun s x h=>by
 unfold NP at h
 split at h
 ·cases h;rfl
 ·cases h
def X5:De:=⟨3,3,[1,3,4],[],[(0,0),(2,2)],[0,2],[],[0,2]⟩
def Ayx:Dy:=⟨[],[(0,0),(2,2)],[1,3,4],[0,2]⟩
def QV (a0:Int) (a1:TRow) (_a2:TVec):Bool:=!!decide (a0 <(↑a1.2.length:Int))
def Alz (a0:Int) (a1:TRow) (a2:TVec):TVec:=Td a2 (XR (a1.2.getD a0.toNat (Ac TC.cell)))
def FI (x:Cy):Cy:=(IntKind.i64.wrap (x.1+(1:Int)),x.2.1,Alz x.1 x.2.1 x.2.2)
def FH (x:Cy):Cnd:=some ((QV x.1 x.2.1 x.2.2))
def MC (x:Cy):List Prop:=[((QV x.1 x.2.1 x.2.2)=true→(0:Int)≤x.1∧x.1 <(↑x.2.1.2.length:Int))]
abbrev IR:Cy→List Prop:=MC
def QW (x:Cy):Bj:=[(some 0,some (!decide (x.1 <(↑x.2.1.2.length:Int))),⟨21,3,[],[(0,some (.box 71 [.v (.string x.2.1.1),.sl .cell x.2.1.2])),(2,some (.box 31 [.v (.int .i64 x.2.2.1),.v (.int .i64 x.2.2.2)]))]⟩)]
def Hz (x:Cy):Nat:=((↑x.2.1.2.length:Int) - x.1).toNat
def MD (x:Cy):Cy:=A9 FI FH (Hz x) x
theorem Asg (a0:Int) (a1:TRow) (a2:TVec):Bw (As Bqp L0) 9 (Ae Try.prog 70 0) X5 (LN (a0,a1,a2))=some (MC (a0,a1,a2),QW (a0,a1,a2),FH (a0,a1,a2),LN (FI (a0,a1,a2))):=by kernel_rfl
theorem Ash (a0:Int) (a1:TRow) (a2:TVec) (hp:∀p∈IR (a0,a1,a2),p):∀p∈MC (a0,a1,a2),p:=hp
noncomputable def Tl:=HG (As Bqp L0) (Ae Try.prog 70 0) X5 Ayx NP Hz FI FH IR QW
theorem Al0:∀s b ps outs,Tl s=some (b,ps,outs)→Wf s ⟨ps,outs,none⟩∧Bt (As C0 L0) b s ps outs:=
 Bh (T:=LN) A5u Ay (u:=9) (by kernel_rfl) (by decide) (fun⟨a0,a1,a2⟩=>Asg a0 a1 a2) (fun⟨a0,a1,a2⟩=>Ash a0 a1 a2) Ah6 (fun _=>AK (n:=21) rfl) fun _ _=>rfl
noncomputable def X4:=DI 0 Tl L0
theorem Aly:G9 X4:=AV Al0 Ay
def X3 (a0:TRow):TVec:=(MD ((0:Int),a0,TVec.mk (0:Int) (0:Int))).snd.snd
def X6 (a0:TRow):A:=.v (.agg ⟨[.int .i64 ((X3 a0).a),.int .i64 ((X3 a0).b)]⟩)
def Apf (_a0:TRow):Objs:=[]
def Ah8 (a0:TRow):List Prop:=[(AD FI FH IR (Hz ((0:Int),a0,TVec.mk (0:Int) (0:Int))) ((0:Int),a0,TVec.mk (0:Int) (0:Int)))]
theorem A82 (a0:TRow):Ff (As Bqp X4) 9 70 [Af .row a0] 0 []=some (1,X6 a0,0,Apf a0,[(Ae Try.prog (70:FuncId) (0:Nat)=Ae Try.prog (70:FuncId) (0:Nat)),(AD FI FH IR (Hz ((0:Int),a0,TVec.mk (0:Int) (0:Int))) ((0:Int),a0,TVec.mk (0:Int) (0:Int)))]):=by kernel_rfl
theorem Be8 (a0:TRow) (hp:∀p∈Ah8 a0,p):CallOk Try.prog 70 [Af .row a0] 0 [] 1 (X6 a0) 0 (Apf a0):=by
 have n1:=N0 hp
 exact Az (An A5u Aly) (A82 a0) (Aa rfl (Aa n1 Ad))
def Ah9 (a0:TRow):A:=.v (.agg ⟨[.int .i64 (Jr a0.cells).a,.int .i64 (Jr a0.cells).b]⟩)
def Ah7 (_a0:TRow):Objs:=[]
def Aav (a0:TRow):List Prop:=[Ar a0.cells.length]
theorem Ant (cs:List TCell) (i:Nat) (h:i <cs.length):Jr (cs.take (i+1))=KU (Jr (cs.take i)) (Aci (cs.getD i (Ac TC.cell))):=by
 unfold Jr
 rw[List.take_add_one,List.getElem?_eq_getElem h,List.getD_eq_getElem?_getD,List.getElem?_eq_getElem h,List.foldl_append]
 rfl
theorem Ah5 (a:TRow) (hb:Ar a.cells.length):(∀p∈Ah8 a,p)∧X3 a=Jr a.cells:=by
 unfold Ar at hb
 obtain⟨h1,k,hk,hx,_,hst,_⟩:=IW (fun i=>(((i:Int),a,Jr (a.cells.take i)):Cy)) a.cells.length (fun _=>false) FI FH IR (Hz (0,a,⟨0,0⟩)) (0,a,⟨0,0⟩) rfl (by show a.cells.length≤((a.cells.length:Int) - 0).toNat;omega)
  (fun i _ _=>by
   show(!!decide ((i:Int) <(a.cells.length:Int)))=_
   rw[nn,M9,Bool.not_false,Bool.and_true])
  (fun i hi _=>by
   show(IntKind.i64.wrap ((i:Int)+1),a,KU (Jr (a.cells.take i)) (Aci (a.cells.getD ((i:Int)).toNat (Ac TC.cell))))=(((i+1:Nat):Int),a,Jr (a.cells.take (i+1)))
   rw[Fd (by omega),Int.toNat_natCast,Ant _ _ hi])
  (fun i _ _=>Aa (fun h=>⟨by show(0:Int)≤(i:Int);omega,by
   have h':(!!decide ((i:Int) <(a.cells.length:Int)))=true:=h
   rw[nn] at h';exact of_decide_eq_true h'⟩) Ad)
 refine⟨Aa h1 Ad,?_⟩
 have hkn:k=a.cells.length:=by
  rcases Nat.lt_or_ge k a.cells.length with h|h
  ·exact absurd (hst h) (by decide)
  ·omega
 have hr:MD (0,a,⟨0,0⟩)=((k:Int),a,Jr (a.cells.take k)):=hx
 show(MD (0,a,⟨0,0⟩)).snd.snd=_
 rw[hr,hkn,List.take_length]
theorem A81 (a0:TRow) (hp:∀p∈Aav a0,p):CallOk Try.prog 70 [Af .row a0] 0 [] 1 (Ah9 a0) 0 (Ah7 a0):=by
 have hb:Ar a0.cells.length:=hp _ (List.mem_cons_self ..)
 have h:=Be8 a0 (Ah5 a0 hb).1
 unfold X6 at h
 rw[(Ah5 a0 hb).2] at h
 exact h
def Apg:List A→Nat→Objs→Option A3:=Bg [.t .row] 0 Ah9 Ah7 Aav
theorem A2f:Fi Try.prog 70 Apg:=Aq (ks:=[.t .row]) A81
noncomputable def Bqq:=A4 70 Apg Bqp
theorem A5v:Dd Try.prog Bqq:=Am A2f A5u
abbrev Cz:Type:=(List TCell)×Int×Int×TVec
def LR (x:Cz):St:=⟨19,2,[(2,.own 1 0),(6,.sl .cell x.1),(7,.v (.int .i64 x.2.1)),(8,.v (.int .i64 x.2.2.1))],[(1,some (.box 31 [.v (.int .i64 x.2.2.2.a),.v (.int .i64 x.2.2.2.b)]))]⟩
def NW:St→Option Cz
 |⟨19,2,[(2,.own 1 0),(6,.sl .cell z0),(7,.v (.int .i64 z1)),(8,.v (.int .i64 z2))],[(1,some (.box 31 [.v (.int .i64 z3),.v (.int .i64 z4)]))]⟩=>some (z0,z1,z2,⟨z3,z4⟩)
 |_=>none
theorem Aim:∀s x,NW s=some x→s=LR x:=fun s x h=>by
 unfold NW at h
 split at h
 ·cases h;rfl
 ·cases h
def Yi:De:=⟨2,2,[2,6,7,8],[],[(1,1)],[1],[],[1]⟩
def Azy:Dy:=⟨[],[(1,1)],[2,6,7,8],[1]⟩
def Amm (a0:List TCell) (_a1:Int) (a2:Int) (a3:TVec):TVec:=TVec.mk (max (max (0:Int) a3.1) (K6 (a0.getD a2.toNat (Ac TC.cell))).1) (max (max (0:Int) a3.2) (K6 (a0.getD a2.toNat (Ac TC.cell))).2)
def FK (x:Cz):Cz:=(x.1,x.2.1,IntKind.i64.wrap (x.2.2.1+(1:Int)),Amm x.1 x.2.1 x.2.2.1 x.2.2.2)
def FJ (x:Cz):Cnd:=some (!!decide (x.2.2.1 <x.2.1))
def Tv (x:Cz):List Prop:=[((!!decide (x.2.2.1 <x.2.1))=true→(0:Int)≤x.2.2.1∧x.2.2.1 <(↑x.1.length:Int)),((!!decide (x.2.2.1 <x.2.1))=true→(0:Int)≤(0:Int)∧(0:Int) <(↑(2:Nat):Int)),((!!decide (x.2.2.1 <x.2.1))=true→(0:Nat) <(2:Nat)),((!!decide (x.2.2.1 <x.2.1))=true→(0:Int)≤(0:Int)∧(0:Int) <(2:Int)),((!!decide (x.2.2.1 <x.2.1))=true→(0:Nat) <(2:Nat)),((!!decide (x.2.2.1 <x.2.1))=true→(0:Int)≤(0:Int)∧(0:Int) <(2:Int)),((!!decide (x.2.2.1 <x.2.1))=true→(0:Nat) <(2:Nat)),((!!decide (x.2.2.1 <x.2.1))=true→(0:Int)≤(0:Int)∧(0:Int) <(2:Int)),((!!decide (x.2.2.1 <x.2.1))=true→(0:Nat) <(2:Nat)),((!!decide (x.2.2.1 <x.2.1))=true→(0:Int)≤(1:Int)∧(1:Int) <(2:Int)),((!!decide (x.2.2.1 <x.2.1))=true→(1:Nat) <(2:Nat)),((!!decide (x.2.2.1 <x.2.1))=true→(0:Int)≤(1:Int)∧(1:Int) <(2:Int)),((!!decide (x.2.2.1 <x.2.1))=true→(1:Nat) <(2:Nat)),((!!decide (x.2.2.1 <x.2.1))=true→(0:Int)≤(1:Int)∧(1:Int) <(2:Int)),((!!decide (x.2.2.1 <x.2.1))=true→(1:Nat) <(2:Nat)),((!!decide (x.2.2.1 <x.2.1))=true→(0:Int)≤(1:Int)∧(1:Int) <(↑(2:Nat):Int)),((!!decide (x.2.2.1 <x.2.1))=true→(1:Nat) <(2:Nat)),((!!decide (x.2.2.1 <x.2.1))=true→(0:Int)≤(0:Int)∧(0:Int) <(2:Int)),((!!decide (x.2.2.1 <x.2.1))=true→(0:Nat) <(2:Nat)),((!!decide (x.2.2.1 <x.2.1))=true→(0:Int)≤(0:Int)∧(0:Int) <(2:Int)),((!!decide (x.2.2.1 <x.2.1))=true→(0:Nat) <(2:Nat)),((!!decide (x.2.2.1 <x.2.1))=true→(0:Int)≤(0:Int)∧(0:Int) <(2:Int)),((!!decide (x.2.2.1 <x.2.1))=true→(0:Nat) <(2:Nat)),((!!decide (x.2.2.1 <x.2.1))=true→(0:Int)≤(1:Int)∧(1:Int) <(2:Int)),((!!decide (x.2.2.1 <x.2.1))=true→(1:Nat) <(2:Nat)),((!!decide (x.2.2.1 <x.2.1))=true→(0:Int)≤(1:Int)∧(1:Int) <(2:Int)),((!!decide (x.2.2.1 <x.2.1))=true→(1:Nat) <(2:Nat)),((!!decide (x.2.2.1 <x.2.1))=true→(0:Int)≤(1:Int)∧(1:Int) <(2:Int)),((!!decide (x.2.2.1 <x.2.1))=true→(1:Nat) <(2:Nat))]
def IV (x:Cz):List Prop:=[((!!decide (x.2.2.1 <x.2.1))=true→(0:Int)≤x.2.2.1∧x.2.2.1 <(↑x.1.length:Int))]
def Q4 (x:Cz):Bj:=[(some 0,some (!decide (x.2.2.1 <x.2.1)),⟨19,2,[],[(1,some (.box 31 [.v (.int .i64 x.2.2.2.1),.v (.int .i64 x.2.2.2.2)]))]⟩)]
def HA (x:Cz):Nat:=(x.2.1 - x.2.2.1).toNat
def MG (x:Cz):Cz:=A9 FK FJ (HA x) x
theorem As4 (a0:List TCell) (a1:Int) (a2:Int) (a3:TVec):Bw (As Bqq L0) 9 (Ae Try.prog 69 0) Yi (LR (a0,a1,a2,a3))=some (Tv (a0,a1,a2,a3),Q4 (a0,a1,a2,a3),FJ (a0,a1,a2,a3),LR (FK (a0,a1,a2,a3))):=by kernel_rfl
theorem As5 (a0:List TCell) (a1:Int) (a2:Int) (a3:TVec) (hp:∀p∈IV (a0,a1,a2,a3),p):∀p∈Tv (a0,a1,a2,a3),p:=by
 have n0:=N0 hp
 have n1:((!!decide (a2 <a1))=true→(0:Int)≤(0:Int)∧(0:Int) <(↑(2:Nat):Int)):=by omega
 have n2:((!!decide (a2 <a1))=true→(0:Nat) <(2:Nat)):=by omega
 have n3:((!!decide (a2 <a1))=true→(0:Int)≤(0:Int)∧(0:Int) <(2:Int)):=by omega
 have n9:((!!decide (a2 <a1))=true→(0:Int)≤(1:Int)∧(1:Int) <(2:Int)):=by omega
 have n10:((!!decide (a2 <a1))=true→(1:Nat) <(2:Nat)):=by omega
 have n15:((!!decide (a2 <a1))=true→(0:Int)≤(1:Int)∧(1:Int) <(↑(2:Nat):Int)):=by omega
 exact(Aa n0 (Aa n1 (Aa n2 (Aa n3 (Aa n2 (Aa n3 (Aa n2 (Aa n3 (Aa n2 (Aa n9 (Aa n10 (Aa n9 (Aa n10 (Aa n9 (Aa n10 (Aa n15 (Aa n10 (Aa n3 (Aa n2 (Aa n3 (Aa n2 (Aa n3 (Aa n2 (Aa n9 (Aa n10 (Aa n9 (Aa n10 (Aa n9 (Aa n10 Ad)))))))))))))))))))))))))))))
noncomputable def Tw:=HG (As Bqq L0) (Ae Try.prog 69 0) Yi Azy NW HA FK FJ IV Q4
theorem Amn:∀s b ps outs,Tw s=some (b,ps,outs)→Wf s ⟨ps,outs,none⟩∧Bt (As C0 L0) b s ps outs:=
 Bh (T:=LR) A5v Ay (u:=9) (by kernel_rfl) (by decide) (fun⟨a0,a1,a2,a3⟩=>As4 a0 a1 a2 a3) (fun⟨a0,a1,a2,a3⟩=>As5 a0 a1 a2 a3) Aim (fun _=>AK (n:=19) rfl) fun _ _=>rfl
noncomputable def Yh:=DI 0 Tw L0
theorem Aml:G9 Yh:=AV Amn Ay
def Yg (a0:TRow):TVec:=(MG (a0.2,(↑a0.2.length:Int),(0:Int),TVec.mk (0:Int) (0:Int))).snd.snd.snd
def Yj (a0:TRow):A:=.v (.agg ⟨[.int .i64 ((Yg a0).a),.int .i64 ((Yg a0).b)]⟩)
def Ap5 (_a0:TRow):Objs:=[]
def Aio (a0:TRow):List Prop:=[(AD FK FJ IV (HA (a0.2,(↑a0.2.length:Int),(0:Int),TVec.mk (0:Int) (0:Int))) (a0.2,(↑a0.2.length:Int),(0:Int),TVec.mk (0:Int) (0:Int)))]
theorem A9j (a0:TRow):Ff (As Bqq Yh) 9 69 [Af .row a0] 0 []=some (1,Yj a0,0,Ap5 a0,[(Ae Try.prog (69:FuncId) (0:Nat)=Ae Try.prog (69:FuncId) (0:Nat)),(AD FK FJ IV (HA (a0.2,(↑a0.2.length:Int),(0:Int),TVec.mk (0:Int) (0:Int))) (a0.2,(↑a0.2.length:Int),(0:Int),TVec.mk (0:Int) (0:Int)))]):=by kernel_rfl
theorem Bft (a0:TRow) (hp:∀p∈Aio a0,p):CallOk Try.prog 69 [Af .row a0] 0 [] 1 (Yj a0) 0 (Ap5 a0):=by
 have n1:=N0 hp
 exact Az (An A5v Aml) (A9j a0) (Aa rfl (Aa n1 Ad))
def Aip (a0:TRow):A:=.v (.agg ⟨[.int .i64 (Jr a0.cells).a,.int .i64 (Jr a0.cells).b]⟩)
def Ain (_a0:TRow):Objs:=[]
def Aa9 (a0:TRow):List Prop:=[Ar a0.cells.length]
theorem Ail (a:TRow) (hb:Ar a.cells.length):(∀p∈Aio a,p)∧Yg a=Jr a.cells:=by
 unfold Ar at hb
 obtain⟨h1,k,hk,hx,_,hst,_⟩:=IW (fun i=>((a.2,(a.2.length:Int),(i:Int),Jr (a.cells.take i)):Cz)) a.cells.length (fun _=>false) FK FJ IV (HA (a.2,(a.2.length:Int),0,⟨0,0⟩)) (a.2,(a.2.length:Int),0,⟨0,0⟩) rfl (by show a.cells.length≤((a.cells.length:Int) - 0).toNat;omega)
  (fun i _ _=>by
   show(!!decide ((i:Int) <(a.cells.length:Int)))=_
   rw[nn,M9,Bool.not_false,Bool.and_true])
  (fun i hi _=>by
   show(a.2,(a.2.length:Int),IntKind.i64.wrap ((i:Int)+1),KU (Jr (a.cells.take i)) (Aci (a.cells.getD ((i:Int)).toNat (Ac TC.cell))))=(a.2,(a.2.length:Int),((i+1:Nat):Int),Jr (a.cells.take (i+1)))
   rw[Fd (by omega),Int.toNat_natCast,Ant _ _ hi])
  (fun i _ _=>Aa (fun h=>⟨by show(0:Int)≤(i:Int);omega,by
   have h':(!!decide ((i:Int) <(a.cells.length:Int)))=true:=h
   rw[nn] at h';exact of_decide_eq_true h'⟩) Ad)
 refine⟨Aa h1 Ad,?_⟩
 have hkn:k=a.cells.length:=by
  rcases Nat.lt_or_ge k a.cells.length with h|h
  ·exact absurd (hst h) (by decide)
  ·omega
 have hr:MG (a.2,(a.2.length:Int),0,⟨0,0⟩)=(a.2,(a.2.length:Int),(k:Int),Jr (a.cells.take k)):=hx
 show(MG (a.2,(a.2.length:Int),0,⟨0,0⟩)).snd.snd.snd=_
 rw[hr,hkn,List.take_length]
theorem A9i (a0:TRow) (hp:∀p∈Aa9 a0,p):CallOk Try.prog 69 [Af .row a0] 0 [] 1 (Aip a0) 0 (Ain a0):=by
 have hb:Ar a0.cells.length:=hp _ (List.mem_cons_self ..)
 have h:=Bft a0 (Ail a0 hb).1
 unfold Yj at h
 rw[(Ail a0 hb).2] at h
 exact h
def Ap6:List A→Nat→Objs→Option A3:=Bg [.t .row] 0 Aip Ain Aa9
theorem A2s:Fi Try.prog 69 Ap6:=Aq (ks:=[.t .row]) A9i
noncomputable def Bqr:=A4 69 Ap6 Bqq
theorem A5w:Dd Try.prog Bqr:=Am A2s A5v
abbrev Cx:Type:=(List TGroup)×Int×ByteArray×(List TCell)
def LM (x:Cx):St:=⟨22,4,[(0,.sl .group x.1),(5,.own 1 0),(6,.v (.int .i64 x.2.1))],[(1,some (.box 71 [.v (.string x.2.2.1),.sq 3])),(3,some (.arr 55 8 (.ty .cell x.2.2.2)))]⟩
def NM:St→Option Cx
 |⟨22,4,[(0,.sl .group z0),(5,.own 1 0),(6,.v (.int .i64 z1))],[(1,some (.box 71 [.v (.string z2),.sq 3])),(3,some (.arr 55 8 (.ty .cell z3)))]⟩=>some (z0,z1,z2,z3)
 |_=>none
theorem Ahz:∀s x,NM s=some x→s=LM x:=fun s x h=>by
 unfold NM at h
 split at h
 ·cases h;rfl
 ·cases h
def X0:De:=⟨3,4,[0,5,6],[],[(1,1),(5,3)],[1,5],[],[1,3]⟩
def Aym:Dy:=⟨[.nilB 1 1 55 .cell],[(1,1),(2,3)],[0,5,6],[1,2]⟩
def QT (a0:List TGroup) (a1:Int) (_a2:ByteArray) (_a3:List TCell):Bool:=!!decide (a1 <(↑a0.length:Int))
def Als (_a0:List TGroup) (_a1:Int) (_a2:ByteArray) (a3:List TCell):List TCell:=a3++[TCell.mk (TStamp.mk (0:Int) (0:Int)) (TVec.mk (0:Int) (0:Int)) false (ByteArray.mk #[]) (TVec.mk (0:Int) (0:Int))]
def FG (x:Cx):Cx:=(x.1,IntKind.i64.wrap (x.2.1+(1:Int)),x.2.2.1,Als x.1 x.2.1 x.2.2.1 x.2.2.2)
def FF (x:Cx):Cnd:=some ((QT x.1 x.2.1 x.2.2.1 x.2.2.2))
def MB (x:Cx):List Prop:=[((QT x.1 x.2.1 x.2.2.1 x.2.2.2)=true→Ag (x.2.2.2.length+(1:Nat)))]
abbrev IP:Cx→List Prop:=MB
def QU (x:Cx):Bj:=[(some 0,some (!decide (x.2.1 <(↑x.1.length:Int))),⟨22,4,[],[(1,some (.box 71 [.v (.string x.2.2.1),.sq 3])),(3,some (.arr 55 8 (.ty .cell x.2.2.2)))]⟩)]
def Hy (x:Cx):Nat:=((↑x.1.length:Int) - x.2.1).toNat
def Ic (x:Cx):Cx:=A9 FG FF (Hy x) x
theorem Ar8 (a0:List TGroup) (a1:Int) (a2:ByteArray) (a3:List TCell):Bw (As Bqr L0) 9 (Ae Try.prog 130 0) X0 (LM (a0,a1,a2,a3))=some (MB (a0,a1,a2,a3),QU (a0,a1,a2,a3),FF (a0,a1,a2,a3),LM (FG (a0,a1,a2,a3))):=by kernel_rfl
theorem Ar9 (a0:List TGroup) (a1:Int) (a2:ByteArray) (a3:List TCell) (hp:∀p∈IP (a0,a1,a2,a3),p):∀p∈MB (a0,a1,a2,a3),p:=hp
noncomputable def Ti:=HG (As Bqr L0) (Ae Try.prog 130 0) X0 Aym NM Hy FG FF IP QU
theorem Alt:∀s b ps outs,Ti s=some (b,ps,outs)→Wf s ⟨ps,outs,none⟩∧Bt (As C0 L0) b s ps outs:=
 Bh (T:=LM) A5w Ay (u:=9) (by kernel_rfl) (by decide) (fun⟨a0,a1,a2,a3⟩=>Ar8 a0 a1 a2 a3) (fun⟨a0,a1,a2,a3⟩=>Ar9 a0 a1 a2 a3) Ahz (fun _=>AK (n:=22) rfl) fun _ _=>rfl
noncomputable def XZ:=DI 0 Ti L0
theorem Alr:G9 XZ:=AV Alt Ay
def Ao5 (a0:List TGroup) (a1:ByteArray):ByteArray:=(Ic (a0,(0:Int),a1,[])).snd.snd.fst
def Ao6 (a0:List TGroup) (a1:ByteArray):List TCell:=(Ic (a0,(0:Int),a1,[])).snd.snd.snd
def X2 (a0:List TGroup) (a1:ByteArray):A:=.agg [.v (.string (Ao5 a0 a1)),.sq 0]
def X1 (a0:List TGroup) (a1:ByteArray):Objs:=[(0,some (.arr 55 8 (.ty .cell (Ao6 a0 a1))))]
def Ah1 (a0:List TGroup) (a1:ByteArray):List Prop:=[(AD FG FF IP (Hy (a0,(0:Int),a1,[])) (a0,(0:Int),a1,[]))]
theorem A8y (a0:List TGroup) (a1:ByteArray):Ff (As Bqr XZ) 9 130 [.sl .group a0,Af .str a1] 0 []=some (1,X2 a0 a1,1,X1 a0 a1,[(Ae Try.prog (130:FuncId) (0:Nat)=Ae Try.prog (130:FuncId) (0:Nat)),(AD FG FF IP (Hy (a0,(0:Int),a1,[])) (a0,(0:Int),a1,[]))]):=by kernel_rfl
theorem Be1 (a0:List TGroup) (a1:ByteArray) (hp:∀p∈Ah1 a0 a1,p):CallOk Try.prog 130 [.sl .group a0,Af .str a1] 0 [] 1 (X2 a0 a1) 1 (X1 a0 a1):=by
 have n1:=N0 hp
 exact Az (An A5w Alr) (A8y a0 a1) (Aa rfl (Aa n1 Ad))
def Ah2 (_a0:List TGroup) (a1:ByteArray):A:=.agg [.v (.string a1),.sq 0]
def Ah0 (a0:List TGroup) (_a1:ByteArray):Objs:=[(0,some (.arr 55 8 (.ty .cell (List.replicate a0.length zeroC))))]
def Aaq (a0:List TGroup) (_a1:ByteArray):List Prop:=[Ag a0.length]
theorem A8x (l:List TGroup) (k:ByteArray) (hb:Ag l.length):(∀p∈Ah1 l k,p)∧Ao5 l k=k∧Ao6 l k=List.replicate l.length zeroC:=by
 unfold Ag at hb
 obtain⟨h1,n,hn,hx,_,hst,_⟩:=IW (fun i=>((l,(i:Int),k,List.replicate i zeroC):Cx)) l.length (fun _=>false) FG FF IP (Hy (l,0,k,[])) (l,0,k,[]) rfl (by show l.length≤((l.length:Int) - 0).toNat;omega)
  (fun i _ _=>by
   show(!!decide ((i:Int) <(l.length:Int)))=_
   rw[nn,M9,Bool.not_false,Bool.and_true])
  (fun i hi _=>by
   show(l,IntKind.i64.wrap ((i:Int)+1),k,List.replicate i zeroC++[zeroC])=(l,((i+1:Nat):Int),k,List.replicate (i+1) zeroC)
   rw[Fd (by omega),List.replicate_succ'])
  (fun i hi _=>Aa (fun h=>by
   have h':(!!decide ((i:Int) <(l.length:Int)))=true:=h
   rw[nn] at h'
   have:=of_decide_eq_true h'
   show Ag ((List.replicate i zeroC).length+1)
   rw[List.length_replicate];unfold Ag;omega) Ad)
 have hkn:n=l.length:=by
  rcases Nat.lt_or_ge n l.length with h|h
  ·exact absurd (hst h) (by decide)
  ·omega
 have hr:Ic (l,0,k,[])=(l,(n:Int),k,List.replicate n zeroC):=hx
 refine⟨Aa h1 Ad,?_,?_⟩
 ·show(Ic (l,0,k,[])).snd.snd.fst=_
  rw[hr]
 ·show(Ic (l,0,k,[])).snd.snd.snd=_
  rw[hr,hkn]
theorem A8w (a0:List TGroup) (a1:ByteArray) (hp:∀p∈Aaq a0 a1,p):CallOk Try.prog 130 [.sl .group a0,Af .str a1] 0 [] 1 (Ah2 a0 a1) 1 (Ah0 a0 a1):=by
 have hb:Ag a0.length:=hp _ (List.mem_cons_self ..)
 obtain⟨e1,e2,e3⟩:=A8x a0 a1 hb
 have h:=Be1 a0 a1 e1
 unfold X2 X1 at h
 rw[e2,e3] at h
 exact h
def Ao7:List A→Nat→Objs→Option A3:=Bg [.l .group,.t .str] 1 Ah2 Ah0 Aaq
theorem A2c:Fi Try.prog 130 Ao7:=Aq (ks:=[.l .group,.t .str]) A8w
noncomputable def Bz3:=A4 130 Ao7 Bqr
theorem Bk5:Dd Try.prog Bz3:=Am A2c A5w
def KP (_a0:List TGroup) (a1:ByteArray):Bool:=SB a1 !=(0:Int)
def KO (a0:List TGroup) (_a1:ByteArray):Bool:=AR a0 !=(0:Int)
def Al1 (a0:List TGroup) (a1:ByteArray):ByteArray:=bif(KO a0 a1) then ByteArray.mk #[] else bif(KP a0 a1) then ByteArray.mk #[] else a1
def Al2 (a0:List TGroup) (a1:ByteArray):Int:=bif(KO a0 a1) then AR a0 else bif(KP a0 a1) then SB a1 else(0:Int)
def Al3 (a0:List TGroup) (a1:ByteArray):List TCell:=bif(KO a0 a1) then[] else bif(KP a0 a1) then[] else List.replicate a0.length zeroC
def Al5 (a0:List TGroup) (a1:ByteArray):A:=.tup [.agg [.v (.string (Al1 a0 a1)),.sq 0],.v (.int .i64 (Al2 a0 a1))]
def Al4 (a0:List TGroup) (a1:ByteArray):Objs:=[(0,some (.arr 55 8 (.ty .cell (Al3 a0 a1))))]
def Ayz (a0:List TGroup) (a1:ByteArray):List Prop:=[(∀(g:TGroup),g∈a0→Ar g.1.size),((!(KO a0 a1))=true→(!(KP a0 a1))=true→Ag a0.length)]
theorem Bjd (a0:List TGroup) (a1:ByteArray):Ff (As Bz3 L0) 9 63 [.sl .group a0,Af .str a1] 0 []=some (1,Al5 a0 a1,1,Al4 a0 a1,Ayz a0 a1):=by kernel_rfl
theorem Bos (a0:List TGroup) (a1:ByteArray) (hp:∀p∈Ayz a0 a1,p):CallOk Try.prog 63 [.sl .group a0,Af .str a1] 0 [] 1 (Al5 a0 a1) 1 (Al4 a0 a1):=Az (An Bk5 Ay) (Bjd a0 a1) hp
def Ay0 (a0:List TGroup) (a1:ByteArray):A:=.tup [.agg [.v (.string (Ahk a0 a1).key),.sq 0],.v (.int .i64 (VO a0 a1))]
def Ayy (a0:List TGroup) (a1:ByteArray):Objs:=[(0,some (.arr 55 8 (.ty .cell (Ahk a0 a1).cells)))]
def Aph (a0:List TGroup) (_a1:ByteArray):List Prop:=[∀g∈a0,Ar g.name.size]
theorem Bjc (a0:List TGroup) (a1:ByteArray) (hp:∀p∈Aph a0 a1,p):CallOk Try.prog 63 [.sl .group a0,Af .str a1] 0 [] 1 (Ay0 a0 a1) 1 (Ayy a0 a1):=by
 have hb:∀g∈a0,Ar g.name.size:=hp _ (List.mem_cons_self ..)
 have h:=Bos a0 a1 (Aa hb (Aa (fun h1 _=>by
  have h1':AR a0=0:=by
   have:(!(AR a0 !=0))=true:=h1
   simpa using this
  have:=(G7 h1').2
  unfold Ag;omega) Ad))
 have e1:Al2 a0 a1=VO a0 a1:=by
  unfold Al2 KO KP VO
  cases AR a0 !=0 with
  |true=>rfl
  |false=>
   rw[cond_false,cond_false]
   cases hk:SB a1 !=0 with
   |true=>rfl
   |false=>rw[cond_false];exact(by simpa using hk:SB a1=0).symm
 have e0:Al1 a0 a1=(Ahk a0 a1).key:=by
  unfold Al1 KO KP Ahk VO
  cases hg:AR a0 !=0 with
  |true=>simp only[cond_true,hg]
  |false=>rw[cond_false,cond_false]
 have e2:Al3 a0 a1=(Ahk a0 a1).cells:=by
  unfold Al3 KO KP Ahk VO
  cases hg:AR a0 !=0 with
  |true=>simp only[cond_true,hg]
  |false=>rw[cond_false,cond_false]
 unfold Al5 Al4 at h
 rw[e0,e1,e2] at h
 exact h
def A4t:List A→Nat→Objs→Option A3:=Bg [.l .group,.t .str] 1 Ay0 Ayy Aph
theorem Be9:Fi Try.prog 63 A4t:=Aq (ks:=[.l .group,.t .str]) Bjc
noncomputable def Bz4:=A4 63 A4t Bz3
theorem Bk6:Dd Try.prog Bz4:=Am Be9 Bk5
def PY (a0:List TGroup) (_a1:ByteArray):List TCell:=List.replicate (↑a0.length:Int).toNat (Ac TC.cell)
def PX (a0:List TGroup) (a1:ByteArray):Bool:=Ai a0 (TRow.mk a1 (PY a0 a1)) !=(0:Int)
def Amo (a0:List TGroup) (a1:ByteArray):ByteArray:=bif(PX a0 a1) then ByteArray.mk #[] else a1
def Amp (a0:List TGroup) (a1:ByteArray):Int:=bif(PX a0 a1) then Ai a0 (TRow.mk a1 (PY a0 a1)) else(0:Int)
def Amq (a0:List TGroup) (a1:ByteArray):List TCell:=bif(PX a0 a1) then[] else(PY a0 a1)
def Ams (a0:List TGroup) (a1:ByteArray):A:=.tup [.agg [.v (.string (Amo a0 a1)),.sq 0],.v (.int .i64 (Amp a0 a1))]
def Amr (a0:List TGroup) (a1:ByteArray):Objs:=[(0,some (.arr 55 8 (.ty .cell (Amq a0 a1))))]
def Az0 (a0:List TGroup) (_a1:ByteArray):List Prop:=[((0:Int)≤(↑a0.length:Int)∧(↑a0.length:Int)≤(↑a0.length:Int)∧(↑a0.length:Int)≤(549755813888:Int))]
theorem Bjr (a0:List TGroup) (a1:ByteArray):Ff (As Bz4 L0) 9 62 [.sl .group a0,Af .str a1] 0 []=some (1,Ams a0 a1,1,Amr a0 a1,Az0 a0 a1):=by kernel_rfl
theorem Boz (a0:List TGroup) (a1:ByteArray) (hp:∀p∈Az0 a0 a1,p):CallOk Try.prog 62 [.sl .group a0,Af .str a1] 0 [] 1 (Ams a0 a1) 1 (Amr a0 a1):=Az (An Bk6 Ay) (Bjr a0 a1) hp
def Az1 (a0:List TGroup) (a1:ByteArray):A:=.tup [.agg [.v (.string (Ahk a0 a1).key),.sq 0],.v (.int .i64 (VO a0 a1))]
def Azz (a0:List TGroup) (a1:ByteArray):Objs:=[(0,some (.arr 55 8 (.ty .cell (Ahk a0 a1).cells)))]
def Ap7 (a0:List TGroup) (_a1:ByteArray):List Prop:=[Ag a0.length]
theorem Avb:∀(l:List TGroup) (seen:List ByteArray),Rm seen l=0→∀g∈l,Ps g.policy=true
 | [],_,_,g,hg=>by cases hg
 | x::r,seen,h,g,hg=>by
  unfold Rm at h
  cases h1:(Ir x.name&&Ps x.policy) with
  |false=>rw[h1] at h;cases h
  | true=>
   rw[h1] at h
   cases h2:seen.any (fun s=>s==x.name) with
   |true=>rw[h2] at h;cases h
   |false=>
    rw[h2] at h
    rcases List.mem_cons.1 hg with rfl|hg
    ·exact(Bool.and_eq_true_iff.1 h1).2
    ·exact Avb r _ h g hg
theorem Bn5 {l:List TGroup} (h:AR l=0):∀g∈l,Ps g.policy=true:=by
 have h4:=G7 h
 unfold AR at h
 rw[show(l.length==0)=false by simpa using(by omega:l.length≠0),decide_eq_false (show ¬4 <l.length by omega)] at h
 exact Avb l [] h
theorem Bhr {p:Int} (h:Ps p=true):Bv p zeroC=true:=by
 unfold Ps at h
 rcases(by simpa using h:p=1∨p=2) with rfl|rfl<;>rfl
theorem Qt (l:List TGroup) (k:ByteArray):Ai l ⟨k,List.replicate l.length zeroC⟩=VO l k:=by
 unfold Ai VO SB
 cases h:AR l !=0 with
 |true=>rfl
 | false=>
  rw[cond_false,cond_false]
  cases k.size==0 with
  |true=>rfl
  | false=>
   rw[cond_false,cond_false]
   cases decide (32 <k.size) with
   |true=>rfl
   | false=>
    rw[cond_false,cond_false]
    have hl:((TRow.mk k (List.replicate l.length zeroC)).cells.length !=l.length)=false:=by simp
    rw[hl,cond_false]
    have ha:(l.zip (TRow.mk k (List.replicate l.length zeroC)).cells).all (fun x=>Bv x.1.policy x.2)=true:=by
     rw[List.all_eq_true]
     rintro⟨g,c⟩ hx
     have h1:=List.of_mem_zip hx
     have h2:c=zeroC:=List.eq_of_mem_replicate h1.2
     subst h2
     exact Bhr (Bn5 (by simpa using h) g h1.1)
    rw[ha]
    rfl
theorem Bjq (a0:List TGroup) (a1:ByteArray) (hp:∀p∈Ap7 a0 a1,p):CallOk Try.prog 62 [.sl .group a0,Af .str a1] 0 [] 1 (Az1 a0 a1) 1 (Azz a0 a1):=by
 have hb:Ag a0.length:=hp _ (List.mem_cons_self ..)
 unfold Ag at hb
 have h:=Boz a0 a1 (Aa ⟨by omega,Int.le_refl _,by omega⟩ Ad)
 have ek:PY a0 a1=List.replicate a0.length zeroC:=by unfold PY;rw[Int.toNat_natCast];rfl
 have k0:PX a0 a1=(VO a0 a1 !=0):=by
  unfold PX
  rw[ek,Qt]
 have e1:Amp a0 a1=VO a0 a1:=by
  unfold Amp
  rw[k0,ek,Qt]
  cases hk:VO a0 a1 !=0 with
  |true=>rfl
  |false=>rw[cond_false];exact(by simpa using hk:VO a0 a1=0).symm
 have e0:Amo a0 a1=(Ahk a0 a1).key:=by
  unfold Amo
  rw[k0]
  rfl
 have e2:Amq a0 a1=(Ahk a0 a1).cells:=by
  unfold Amq
  rw[k0,ek]
  rfl
 unfold Ams Amr at h
 rw[e0,e1,e2] at h
 exact h
def A4w:List A→Nat→Objs→Option A3:=Bg [.l .group,.t .str] 1 Az1 Azz Ap7
theorem Bfu:Fi Try.prog 62 A4w:=Aq (ks:=[.l .group,.t .str]) Bjq
noncomputable def Byn:=A4 62 A4w Bz4
theorem Bqo:Dd Try.prog Byn:=Am Bfu Bk6
noncomputable def Ck:=Byn
theorem Byo:Dd Try.prog Ck:=Bqo
end Go.Proofs.Yteebobbhhgmeiaa
namespace Go.Proofs.Yteebobbhhgmeiaa
open Go.RowKit
def Afe (a b:TVec):Bool:=decide (b.a≤a.a)&&decide (b.b≤a.b)
def K1 (p:Int) (c:TCell):Bool:=Bv p c&&BR c&&!c.gone&&Afe c.vec c.dead
def Abh (p:Int) (c:TCell):ByteArray:=bif K1 p c then c.value else⟨#[]⟩
def Bs (l:List TGroup) (cs:List TCell):Nat→List TField
 |0=>[]
 |i+1=>bif K1 (l.getD i (Ac TC.group)).policy (cs.getD i (Ac TC.cell)) then Bs l cs i++[⟨(i:Int),Abh (l.getD i (Ac TC.group)).policy (cs.getD i (Ac TC.cell))⟩] else Bs l cs i
def Jg (l:List TGroup) (r:TRow):Bool:=Ai l r==0&&!((Bs l r.cells l.length).length==0)
def Ai9 (l:List TGroup) (r:TRow):ByteArray:=bif Jg l r then r.key else⟨#[]⟩
def TA (l:List TGroup) (r:TRow):List TField:=bif Jg l r then Bs l r.cells l.length else[]
def Au0:List TField→List TField→Bool
 | [],[]=>true
 |x::xs,y::ys=>x.group==y.group&&x.value==y.value&&Au0 xs ys
 |_,_=>false
def B0x (a b:TView):Bool:=a.key==b.key&&Au0 a.fields b.fields
def QS (a0:Int) (a1:TCell):Bool:=!PD a0 a1||!Kl a1||a1.3||!Uq a1.2 a1.5
def PE (a0:Int) (a1:TCell):ByteArray:=bif(QS a0 a1) then ByteArray.mk #[] else a1.4
def JC (a0:Int) (a1:TCell):Bool:=bif(QS a0 a1) then false else true
def Adm (a0:Int) (a1:TCell):A:=.v (.tuple ⟨[.string (PE a0 a1),.bool (JC a0 a1)]⟩)
def Adl (_a0:Int) (_a1:TCell):Objs:=[]
def XU (_a0:Int) (_a1:TCell):List Prop:=[]
theorem Bet (a0:Int) (a1:TCell):Ff (As Ck L0) 9 41 [Af .i64 a0,Af .cell a1] 0 []=some (1,Adm a0 a1,0,Adl a0 a1,XU a0 a1):=by kernel_rfl
theorem Biz (a0:Int) (a1:TCell) (hp:∀p∈XU a0 a1,p):CallOk Try.prog 41 [Af .i64 a0,Af .cell a1] 0 [] 1 (Adm a0 a1) 0 (Adl a0 a1):=Az (An Byo Ay) (Bet a0 a1) hp
def Aya:List A→Nat→Objs→Option A3:=Bg [.t .i64,.t .cell] 0 Adm Adl XU
theorem A8r:Fi Try.prog 41 Aya:=Aq (ks:=[.t .i64,.t .cell]) Biz
noncomputable def Bqs:=A4 41 Aya Ck
theorem A5x:Dd Try.prog Bqs:=Am A8r Byo
theorem Bes (p:Int) (c:TCell):PE p c=Abh p c∧JC p c=K1 p c:=by
 have hk:QS p c=!K1 p c:=by
  unfold QS K1 Afe Uq
  rw[Aov,XV]
  show(!Bv p c||!BR c||c.gone||!(decide (c.vec.a≥c.dead.a)&&decide (c.vec.b≥c.dead.b)))=_
  cases Bv p c<;>cases BR c<;>cases c.gone<;>rfl
 unfold PE JC Abh
 rw[hk]
 cases K1 p c<;>exact⟨rfl,rfl⟩
theorem Ae8 (p:Int) (c:TCell):M6 p c=Abh p c∧Ho p c=K1 p c:=by
 have hm:∀x y:Int,(min x y==y)=decide (y≤x):=fun x y=>by
  rw[Bool.eq_iff_iff,beq_iff_eq,decide_eq_true_eq];omega
 have hk:Oo p c=!K1 p c:=by
  unfold Oo K1 Afe J5
  rw[IB,Kr]
  have h1:((JM c.2 c.5).1==c.5.1)=decide (c.dead.a≤c.vec.a):=hm _ _
  have h2:((JM c.2 c.5).2==c.5.2)=decide (c.dead.b≤c.vec.b):=hm _ _
  rw[h1,h2]
  show(!Bv p c||!BR c||c.gone||!(decide (c.dead.a≤c.vec.a)&&decide (c.dead.b≤c.vec.b)))=_
  cases Bv p c<;>cases BR c<;>cases c.gone<;>rfl
 unfold M6 Ho Abh
 rw[hk]
 cases K1 p c<;>exact⟨rfl,rfl⟩
theorem AJ {l:List TGroup} {r:TRow} (h:Ai l r=0):AR l=0∧r.cells.length=l.length∧r.key.size≠0∧r.key.size≤32∧(l.zip r.cells).all (fun x=>Bv x.1.policy x.2)=true:=by
 unfold Ai at h
 cases h1:AR l !=0 with
 |true=>rw[h1,cond_true] at h;rw[h] at h1;cases h1
 | false=>
  rw[h1,cond_false] at h
  cases h2:r.key.size==0 with
  |true=>rw[h2] at h;cases h
  | false=>
   rw[h2,cond_false] at h
   cases h3:decide (32 <r.key.size) with
   |true=>rw[h3] at h;cases h
   | false=>
    rw[h3,cond_false] at h
    cases h4:r.cells.length !=l.length with
    |true=>rw[h4] at h;cases h
    | false=>
     rw[h4,cond_false] at h
     cases h5:(l.zip r.cells).all (fun x=>Bv x.1.policy x.2) with
     |false=>rw[h5] at h;cases h
     |true=>
      have:=of_decide_eq_false h3
      exact⟨by simpa using h1,by simpa using h4,by simpa using h2,by omega,rfl⟩
theorem Qo (l:List TGroup) (cs:List TCell):∀i,(Bs l cs i).length≤i
 |0=>Nat.le_refl _
 |i+1=>by
  have:=Qo l cs i
  unfold Bs
  cases K1 (l.getD i (Ac TC.group)).policy (cs.getD i (Ac TC.cell)) with
  |true=>rw[cond_true,List.length_append];simp;omega
  |false=>rw[cond_false];omega
abbrev C4:Type:=(List TGroup)×Int×TRow×ByteArray×(List TField)
def MX (x:C4):St:=⟨53,5,[(0,.sl .group x.1),(3,.own 0 0),(6,.own 2 0),(7,.v (.int .i64 x.2.1))],[(0,some (.box 71 [.v (.string x.2.2.1.key),.sl .cell x.2.2.1.cells])),(2,some (.box 94 [.v (.string x.2.2.2.1),.sq 4])),(4,some (.arr 142 2 (.ty .field x.2.2.2.2)))]⟩
def PM:St→Option C4
 |⟨53,5,[(0,.sl .group z0),(3,.own 0 0),(6,.own 2 0),(7,.v (.int .i64 z1))],[(0,some (.box 71 [.v (.string z2),.sl .cell z3])),(2,some (.box 94 [.v (.string z4),.sq 4])),(4,some (.arr 142 2 (.ty .field z5)))]⟩=>some (z0,z1,⟨z2,z3⟩,z4,z5)
 |_=>none
theorem Al8:∀s x,PM s=some x→s=MX x:=fun s x h=>by
 unfold PM at h
 split at h
 ·cases h;rfl
 ·cases h
def Aaz:De:=⟨4,5,[0,3,6,7],[],[(0,0),(2,2),(7,4)],[0,2,7],[],[0,2,4]⟩
def A2h:Dy:=⟨[.nilB 2 1 142 .field],[(0,0),(2,2),(3,4)],[0,3,6,7],[0,2,3]⟩
def J2 (a0:List TGroup) (a1:Int) (_a2:TRow) (_a3:ByteArray) (_a4:List TField):Bool:=!!decide (a1 <(↑a0.length:Int))
def Asp (a0:List TGroup) (a1:Int) (a2:TRow) (a3:ByteArray) (_a4:List TField):ByteArray:=bif JC (a0.getD a1.toNat (Ac TC.group)).2 (a2.2.getD a1.toNat (Ac TC.cell)) then a3 else a3
def Asq (a0:List TGroup) (a1:Int) (a2:TRow) (_a3:ByteArray) (a4:List TField):List TField:=bif JC (a0.getD a1.toNat (Ac TC.group)).2 (a2.2.getD a1.toNat (Ac TC.cell)) then a4++[TField.mk a1 (PE (a0.getD a1.toNat (Ac TC.group)).2 (a2.2.getD a1.toNat (Ac TC.cell)))] else a4
def E7 (x:C4):C4:=(x.1,IntKind.i64.wrap (x.2.1+(1:Int)),x.2.2.1,Asp x.1 x.2.1 x.2.2.1 x.2.2.2.1 x.2.2.2.2,Asq x.1 x.2.1 x.2.2.1 x.2.2.2.1 x.2.2.2.2)
def E6 (x:C4):Cnd:=some ((J2 x.1 x.2.1 x.2.2.1 x.2.2.2.1 x.2.2.2.2))
def NR (x:C4):List Prop:=[((J2 x.1 x.2.1 x.2.2.1 x.2.2.2.1 x.2.2.2.2)=true→(0:Int)≤x.2.1∧x.2.1 <(↑x.1.length:Int)),((J2 x.1 x.2.1 x.2.2.1 x.2.2.2.1 x.2.2.2.2)=true→(0:Int)≤x.2.1∧x.2.1 <(↑x.2.2.1.2.length:Int)),((J2 x.1 x.2.1 x.2.2.1 x.2.2.2.1 x.2.2.2.2)=true→JC (x.1.getD x.2.1.toNat (Ac TC.group)).2 (x.2.2.1.2.getD x.2.1.toNat (Ac TC.cell))=true→Ag (x.2.2.2.2.length+(1:Nat)))]
abbrev Ik:C4→List Prop:=NR
def To (x:C4):Bj:=[(some 0,some (!decide (x.2.1 <(↑x.1.length:Int))),⟨53,5,[],[(0,some (.box 71 [.v (.string x.2.2.1.1),.sl .cell x.2.2.1.2])),(2,some (.box 94 [.v (.string x.2.2.2.1),.sq 4])),(4,some (.arr 142 2 (.ty .field x.2.2.2.2)))]⟩)]
def GH (x:C4):Nat:=((↑x.1.length:Int) - x.2.1).toNat
def Kv (x:C4):C4:=A9 E7 E6 (GH x) x
theorem Ay6 (a0:List TGroup) (a1:Int) (a2:TRow) (a3:ByteArray) (a4:List TField):Bw (As Bqs L0) 9 (Ae Try.prog 64 0) Aaz (MX (a0,a1,a2,a3,a4))=some (NR (a0,a1,a2,a3,a4),To (a0,a1,a2,a3,a4),E6 (a0,a1,a2,a3,a4),MX (E7 (a0,a1,a2,a3,a4))):=by kernel_rfl
theorem Ay7 (a0:List TGroup) (a1:Int) (a2:TRow) (a3:ByteArray) (a4:List TField) (hp:∀p∈Ik (a0,a1,a2,a3,a4),p):∀p∈NR (a0,a1,a2,a3,a4),p:=hp
noncomputable def Vu:=HG (As Bqs L0) (Ae Try.prog 64 0) Aaz A2h PM GH E7 E6 Ik To
theorem Asr:∀s b ps outs,Vu s=some (b,ps,outs)→Wf s ⟨ps,outs,none⟩∧Bt (As C0 L0) b s ps outs:=
 Bh (T:=MX) A5x Ay (u:=9) (by kernel_rfl) (by decide) (fun⟨a0,a1,a2,a3,a4⟩=>Ay6 a0 a1 a2 a3 a4) (fun⟨a0,a1,a2,a3,a4⟩=>Ay7 a0 a1 a2 a3 a4) Al8 (fun _=>AK (n:=53) rfl) fun _ _=>rfl
noncomputable def Aay:=DI 0 Vu L0
theorem Aso:G9 Aay:=AV Asr Ay
def Iw (a0:List TGroup) (a1:TRow):Bool:=Ai a0 a1 !=(0:Int)
def QZ (a0:List TGroup) (a1:TRow):Bool:=(↑(Kv (a0,(0:Int),a1,a1.1,[])).snd.snd.snd.snd.length:Int)==(0:Int)
def Ad5 (a0:List TGroup) (a1:TRow):ByteArray:=bif(Iw a0 a1) then ByteArray.mk #[] else bif(QZ a0 a1) then ByteArray.mk #[] else(Kv (a0,(0:Int),a1,a1.1,[])).snd.snd.snd.fst
def Ad6 (a0:List TGroup) (a1:TRow):Bool:=bif(Iw a0 a1) then false else bif(QZ a0 a1) then false else true
def Ad7 (a0:List TGroup) (a1:TRow):List TField:=bif(Iw a0 a1) then[] else bif(QZ a0 a1) then[] else(Kv (a0,(0:Int),a1,a1.1,[])).snd.snd.snd.snd
def Ad9 (a0:List TGroup) (a1:TRow):A:=.tup [.agg [.v (.string (Ad5 a0 a1)),.sq 0],.v (.bool (Ad6 a0 a1))]
def Ad8 (a0:List TGroup) (a1:TRow):Objs:=[(0,some (.arr 142 2 (.ty .field (Ad7 a0 a1))))]
def Bfe (a0:List TGroup) (a1:TRow):List Prop:=[(∀(g:TGroup),g∈a0→Ar g.1.size),((!(Iw a0 a1))=true→AD E7 E6 Ik (GH (a0,(0:Int),a1,a1.1,[])) (a0,(0:Int),a1,a1.1,[]))]
theorem Bfd (a0:List TGroup) (a1:TRow):Ff (As Bqs Aay) 9 64 [.sl .group a0,Af .row a1] 0 []=some (1,Ad9 a0 a1,1,Ad8 a0 a1,[(∀(g:TGroup),g∈a0→Ar g.1.size),((!(Iw a0 a1))=true→Ae Try.prog (64:FuncId) (0:Nat)=Ae Try.prog (64:FuncId) (0:Nat)),((!(Iw a0 a1))=true→AD E7 E6 Ik (GH (a0,(0:Int),a1,a1.1,[])) (a0,(0:Int),a1,a1.1,[]))]):=by kernel_rfl
theorem Bjf (a0:List TGroup) (a1:TRow) (hp:∀p∈Bfe a0 a1,p):CallOk Try.prog 64 [.sl .group a0,Af .row a1] 0 [] 1 (Ad9 a0 a1) 1 (Ad8 a0 a1):=by
 have n0:=N0 hp
 have n1:((!(Iw a0 a1))=true→Ae Try.prog (64:FuncId) (0:Nat)=Ae Try.prog (64:FuncId) (0:Nat)):=by intros;rfl
 have n2:=N0 (N1 hp)
 exact Az (An A5x Aso) (Bfd a0 a1) (Aa n0 (Aa n1 (Aa n2 Ad)))
def Apn (a0:List TGroup) (a1:TRow):A:=.tup [.agg [.v (.string (Ai9 a0 a1)),.sq 0],.v (.bool (Jg a0 a1))]
def Apm (a0:List TGroup) (a1:TRow):Objs:=[(0,some (.arr 142 2 (.ty .field (TA a0 a1))))]
def Aic (a0:List TGroup) (_a1:TRow):List Prop:=[∀g∈a0,Ar g.name.size]
theorem Aa0 (l:List TGroup) (r:TRow) (h0:Ai l r=0):
  AD E7 E6 Ik (GH (l,0,r,r.1,[])) (l,0,r,r.1,[])∧Kv (l,0,r,r.1,[])=(l,(l.length:Int),r,r.1,Bs l r.cells l.length):=by
 obtain⟨hp,hlen,_⟩:=AJ h0
 have hl4:=(G7 hp).2
 obtain⟨h1,k,hk,hx,_,hst,_⟩:=IW (fun i=>((l,(i:Int),r,r.1,Bs l r.cells i):C4)) l.length (fun _=>false) E7 E6 Ik (GH (l,0,r,r.1,[])) (l,0,r,r.1,[]) rfl (by show l.length≤((l.length:Int) - 0).toNat;omega)
  (fun i _ _=>by
   show(!!decide ((i:Int) <(l.length:Int)))=_
   rw[nn,M9,Bool.not_false,Bool.and_true])
  (fun i hi _=>by
   have hs:=Bes (l.getD i (Ac TC.group)).2 (r.2.getD i (Ac TC.cell))
   show(l,IntKind.i64.wrap ((i:Int)+1),r,(bif JC (l.getD ((i:Int)).toNat (Ac TC.group)).2 (r.2.getD ((i:Int)).toNat (Ac TC.cell)) then r.1 else r.1),(bif JC (l.getD ((i:Int)).toNat (Ac TC.group)).2 (r.2.getD ((i:Int)).toNat (Ac TC.cell)) then Bs l r.cells i++[TField.mk (i:Int) (PE (l.getD ((i:Int)).toNat (Ac TC.group)).2 (r.2.getD ((i:Int)).toNat (Ac TC.cell)))] else Bs l r.cells i))=(l,((i+1:Nat):Int),r,r.1,Bs l r.cells (i+1))
   rw[Fd (by omega),Int.toNat_natCast,hs.1,hs.2]
   have:∀b:Bool,(bif b then r.1 else r.1)=r.1:=fun b=>by cases b<;>rfl
   rw[this]
   rfl)
  (fun i hi _=>by
   have hin:(!!decide ((i:Int) <(l.length:Int)))=true→(i:Int) <(l.length:Int):=fun h=>by rw[nn] at h;exact of_decide_eq_true h
   exact Aa (fun h=>⟨by show(0:Int)≤(i:Int);omega,hin h⟩) (Aa (fun h=>⟨by show(0:Int)≤(i:Int);omega,by have:=hin h;show(i:Int) <(r.cells.length:Int);omega⟩) (Aa (fun _ _=>by
    have:=Qo l r.cells i
    show Ag ((Bs l r.cells i).length+1)
    unfold Ag;omega) Ad)))
 have hkn:k=l.length:=by
  rcases Nat.lt_or_ge k l.length with h|h
  ·exact absurd (hst h) (by decide)
  ·omega
 subst hkn
 exact⟨h1,hx⟩
theorem Bfc (a0:List TGroup) (a1:TRow) (hp:∀p∈Aic a0 a1,p):CallOk Try.prog 64 [.sl .group a0,Af .row a1] 0 [] 1 (Apn a0 a1) 1 (Apm a0 a1):=by
 have hb:∀g∈a0,Ar g.name.size:=hp _ (List.mem_cons_self ..)
 have hz:(!(Ai a0 a1 !=0))=true→Ai a0 a1=0:=fun h=>by simpa using h
 have h:=Bjf a0 a1 (Aa hb (Aa (fun h1=>(Aa0 a0 a1 (hz h1)).1) Ad))
 have hk1:Iw a0 a1=(Ai a0 a1 !=0):=rfl
 have e:Ad5 a0 a1=Ai9 a0 a1∧Ad6 a0 a1=Jg a0 a1∧Ad7 a0 a1=TA a0 a1:=by
  unfold Ad5 Ad6 Ad7 Ai9 TA
  have hv:Jg a0 a1=(Ai a0 a1==0&&!((Bs a0 a1.cells a0.length).length==0)):=rfl
  cases hg:Ai a0 a1 !=0 with
  | true=>
   rw[hk1,hg]
   have:Jg a0 a1=false:=by
    rw[hv,show(Ai a0 a1==0)=false by simpa using hg]
    rfl
   rw[this]
   exact⟨rfl,rfl,rfl⟩
  |false=>
   have h0:Ai a0 a1=0:=by simpa using hg
   unfold QZ
   rw[hk1,hg,(Aa0 a0 a1 h0).2]
   have:Jg a0 a1=!((Bs a0 a1.cells a0.length).length==0):=by rw[hv,h0];rfl
   rw[this]
   show(bif((Bs a0 a1.cells a0.length).length:Int)==0 then _ else _)=_∧(bif((Bs a0 a1.cells a0.length).length:Int)==0 then _ else _)=_∧(bif((Bs a0 a1.cells a0.length).length:Int)==0 then _ else _)=_
   rw[Aua]
   cases(Bs a0 a1.cells a0.length).length==0<;>exact⟨rfl,rfl,rfl⟩
 unfold Ad9 Ad8 at h
 rw[e.1,e.2.1,e.2.2] at h
 exact h
def Ay8:List A→Nat→Objs→Option A3:=Bg [.l .group,.t .row] 1 Apn Apm Aic
theorem A84:Fi Try.prog 64 Ay8:=Aq (ks:=[.l .group,.t .row]) Bfc
noncomputable def Bqt:=A4 64 Ay8 Bqs
theorem A5y:Dd Try.prog Bqt:=Am A84 A5x
abbrev C6:Type:=(List TGroup)×Int×Int×TRow×ByteArray×(List TField)
def M1 (x:C6):St:=⟨53,5,[(3,.own 0 0),(6,.own 2 0),(19,.sl .group x.1),(20,.v (.int .i64 x.2.1)),(21,.v (.int .i64 x.2.2.1))],[(0,some (.box 71 [.v (.string x.2.2.2.1.key),.sl .cell x.2.2.2.1.cells])),(2,some (.box 94 [.v (.string x.2.2.2.2.1),.sq 4])),(4,some (.arr 142 2 (.ty .field x.2.2.2.2.2)))]⟩
def PZ:St→Option C6
 |⟨53,5,[(3,.own 0 0),(6,.own 2 0),(19,.sl .group z0),(20,.v (.int .i64 z1)),(21,.v (.int .i64 z2))],[(0,some (.box 71 [.v (.string z3),.sl .cell z4])),(2,some (.box 94 [.v (.string z5),.sq 4])),(4,some (.arr 142 2 (.ty .field z6)))]⟩=>some (z0,z1,z2,⟨z3,z4⟩,z5,z6)
 |_=>none
theorem Amt:∀s x,PZ s=some x→s=M1 x:=fun s x h=>by
 unfold PZ at h
 split at h
 ·cases h;rfl
 ·cases h
def Abb:De:=⟨4,5,[3,6,19,20,21],[],[(0,0),(2,2),(8,4)],[0,2,8],[],[0,2,4]⟩
def A2t:Dy:=⟨[.nilB 2 1 142 .field],[(0,0),(2,2),(3,4)],[3,6,19,20,21],[0,2,3]⟩
def As7 (a0:List TGroup) (_a1:Int) (a2:Int) (a3:TRow) (a4:ByteArray) (_a5:List TField):ByteArray:=bif Ho (a0.getD a2.toNat (Ac TC.group)).2 (a3.2.getD a2.toNat (Ac TC.cell)) then a4 else a4
def As8 (a0:List TGroup) (_a1:Int) (a2:Int) (a3:TRow) (_a4:ByteArray) (a5:List TField):List TField:=bif Ho (a0.getD a2.toNat (Ac TC.group)).2 (a3.2.getD a2.toNat (Ac TC.cell)) then a5++[TField.mk a2 (M6 (a0.getD a2.toNat (Ac TC.group)).2 (a3.2.getD a2.toNat (Ac TC.cell)))] else a5
def Fc (x:C6):C6:=(x.1,x.2.1,IntKind.i64.wrap (x.2.2.1+(1:Int)),x.2.2.2.1,As7 x.1 x.2.1 x.2.2.1 x.2.2.2.1 x.2.2.2.2.1 x.2.2.2.2.2,As8 x.1 x.2.1 x.2.2.1 x.2.2.2.1 x.2.2.2.2.1 x.2.2.2.2.2)
def Fb (x:C6):Cnd:=some (!!decide (x.2.2.1 <x.2.1))
def NX (x:C6):List Prop:=[((!!decide (x.2.2.1 <x.2.1))=true→(0:Int)≤x.2.2.1∧x.2.2.1 <(↑x.1.length:Int)),((!!decide (x.2.2.1 <x.2.1))=true→(0:Int)≤x.2.2.1∧x.2.2.1 <(↑x.2.2.2.1.2.length:Int)),((!!decide (x.2.2.1 <x.2.1))=true→Ho (x.1.getD x.2.2.1.toNat (Ac TC.group)).2 (x.2.2.2.1.2.getD x.2.2.1.toNat (Ac TC.cell))=true→Ag (x.2.2.2.2.2.length+(1:Nat)))]
abbrev Io:C6→List Prop:=NX
def Tx (x:C6):Bj:=[(some 0,some (!decide (x.2.2.1 <x.2.1)),⟨53,5,[],[(0,some (.box 71 [.v (.string x.2.2.2.1.1),.sl .cell x.2.2.2.1.2])),(2,some (.box 94 [.v (.string x.2.2.2.2.1),.sq 4])),(4,some (.arr 142 2 (.ty .field x.2.2.2.2.2)))]⟩)]
def GO (x:C6):Nat:=(x.2.1 - x.2.2.1).toNat
def Ky (x:C6):C6:=A9 Fc Fb (GO x) x
theorem Az4 (a0:List TGroup) (a1:Int) (a2:Int) (a3:TRow) (a4:ByteArray) (a5:List TField):Bw (As Bqt L0) 9 (Ae Try.prog 58 0) Abb (M1 (a0,a1,a2,a3,a4,a5))=some (NX (a0,a1,a2,a3,a4,a5),Tx (a0,a1,a2,a3,a4,a5),Fb (a0,a1,a2,a3,a4,a5),M1 (Fc (a0,a1,a2,a3,a4,a5))):=by kernel_rfl
theorem Az5 (a0:List TGroup) (a1:Int) (a2:Int) (a3:TRow) (a4:ByteArray) (a5:List TField) (hp:∀p∈Io (a0,a1,a2,a3,a4,a5),p):∀p∈NX (a0,a1,a2,a3,a4,a5),p:=hp
noncomputable def VB:=HG (As Bqt L0) (Ae Try.prog 58 0) Abb A2t PZ GO Fc Fb Io Tx
theorem As9:∀s b ps outs,VB s=some (b,ps,outs)→Wf s ⟨ps,outs,none⟩∧Bt (As C0 L0) b s ps outs:=
 Bh (T:=M1) A5y Ay (u:=9) (by kernel_rfl) (by decide) (fun⟨a0,a1,a2,a3,a4,a5⟩=>Az4 a0 a1 a2 a3 a4 a5) (fun⟨a0,a1,a2,a3,a4,a5⟩=>Az5 a0 a1 a2 a3 a4 a5) Amt (fun _=>AK (n:=53) rfl) fun _ _=>rfl
noncomputable def Aba:=DI 0 VB L0
theorem As6:G9 Aba:=AV As9 Ay
def Iy (a0:List TGroup) (a1:TRow):Bool:=Ai a0 a1 !=(0:Int)
def Q5 (a0:List TGroup) (a1:TRow):Bool:=(↑(Ky (a0,(↑a0.length:Int),(0:Int),a1,a1.1,[])).snd.snd.snd.snd.snd.length:Int)==(0:Int)
def Aej (a0:List TGroup) (a1:TRow):ByteArray:=bif(Iy a0 a1) then ByteArray.mk #[] else bif(Q5 a0 a1) then ByteArray.mk #[] else(Ky (a0,(↑a0.length:Int),(0:Int),a1,a1.1,[])).snd.snd.snd.snd.fst
def Aek (a0:List TGroup) (a1:TRow):Bool:=bif(Iy a0 a1) then false else bif(Q5 a0 a1) then false else true
def Ael (a0:List TGroup) (a1:TRow):List TField:=bif(Iy a0 a1) then[] else bif(Q5 a0 a1) then[] else(Ky (a0,(↑a0.length:Int),(0:Int),a1,a1.1,[])).snd.snd.snd.snd.snd
def Aen (a0:List TGroup) (a1:TRow):A:=.tup [.agg [.v (.string (Aej a0 a1)),.sq 0],.v (.bool (Aek a0 a1))]
def Aem (a0:List TGroup) (a1:TRow):Objs:=[(0,some (.arr 142 2 (.ty .field (Ael a0 a1))))]
def Bfy (a0:List TGroup) (a1:TRow):List Prop:=[((!(Iy a0 a1))=true→AD Fc Fb Io (GO (a0,(↑a0.length:Int),(0:Int),a1,a1.1,[])) (a0,(↑a0.length:Int),(0:Int),a1,a1.1,[]))]
theorem Bfx (a0:List TGroup) (a1:TRow):Ff (As Bqt Aba) 9 58 [.sl .group a0,Af .row a1] 0 []=some (1,Aen a0 a1,1,Aem a0 a1,[((!(Iy a0 a1))=true→Ae Try.prog (58:FuncId) (0:Nat)=Ae Try.prog (58:FuncId) (0:Nat)),((!(Iy a0 a1))=true→AD Fc Fb Io (GO (a0,(↑a0.length:Int),(0:Int),a1,a1.1,[])) (a0,(↑a0.length:Int),(0:Int),a1,a1.1,[]))]):=by kernel_rfl
theorem Bju (a0:List TGroup) (a1:TRow) (hp:∀p∈Bfy a0 a1,p):CallOk Try.prog 58 [.sl .group a0,Af .row a1] 0 [] 1 (Aen a0 a1) 1 (Aem a0 a1):=by
 have n0:((!(Iy a0 a1))=true→Ae Try.prog (58:FuncId) (0:Nat)=Ae Try.prog (58:FuncId) (0:Nat)):=by intros;rfl
 have n1:=N0 hp
 exact Az (An A5y As6) (Bfx a0 a1) (Aa n0 (Aa n1 Ad))
def Aqa (a0:List TGroup) (a1:TRow):A:=.tup [.agg [.v (.string (Ai9 a0 a1)),.sq 0],.v (.bool (Jg a0 a1))]
def Ap9 (a0:List TGroup) (a1:TRow):Objs:=[(0,some (.arr 142 2 (.ty .field (TA a0 a1))))]
def Aiq (_a0:List TGroup) (_a1:TRow):List Prop:=[]
theorem Abc (l:List TGroup) (r:TRow) (h0:Ai l r=0):
  AD Fc Fb Io (GO (l,(l.length:Int),0,r,r.1,[])) (l,(l.length:Int),0,r,r.1,[])∧Ky (l,(l.length:Int),0,r,r.1,[])=(l,(l.length:Int),(l.length:Int),r,r.1,Bs l r.cells l.length):=by
 obtain⟨hp,hlen,_⟩:=AJ h0
 have hl4:=(G7 hp).2
 obtain⟨h1,k,hk,hx,_,hst,_⟩:=IW (fun i=>((l,(l.length:Int),(i:Int),r,r.1,Bs l r.cells i):C6)) l.length (fun _=>false) Fc Fb Io (GO (l,(l.length:Int),0,r,r.1,[])) (l,(l.length:Int),0,r,r.1,[]) rfl (by show l.length≤((l.length:Int) - 0).toNat;omega)
  (fun i _ _=>by
   show(!!decide ((i:Int) <(l.length:Int)))=_
   rw[nn,M9,Bool.not_false,Bool.and_true])
  (fun i hi _=>by
   have hs:=Ae8 (l.getD i (Ac TC.group)).2 (r.2.getD i (Ac TC.cell))
   show(l,(l.length:Int),IntKind.i64.wrap ((i:Int)+1),r,(bif Ho (l.getD ((i:Int)).toNat (Ac TC.group)).2 (r.2.getD ((i:Int)).toNat (Ac TC.cell)) then r.1 else r.1),(bif Ho (l.getD ((i:Int)).toNat (Ac TC.group)).2 (r.2.getD ((i:Int)).toNat (Ac TC.cell)) then Bs l r.cells i++[TField.mk (i:Int) (M6 (l.getD ((i:Int)).toNat (Ac TC.group)).2 (r.2.getD ((i:Int)).toNat (Ac TC.cell)))] else Bs l r.cells i))=(l,(l.length:Int),((i+1:Nat):Int),r,r.1,Bs l r.cells (i+1))
   rw[Fd (by omega),Int.toNat_natCast,hs.1,hs.2]
   have:∀b:Bool,(bif b then r.1 else r.1)=r.1:=fun b=>by cases b<;>rfl
   rw[this]
   rfl)
  (fun i hi _=>by
   have hin:(!!decide ((i:Int) <(l.length:Int)))=true→(i:Int) <(l.length:Int):=fun h=>by rw[nn] at h;exact of_decide_eq_true h
   exact Aa (fun h=>⟨by show(0:Int)≤(i:Int);omega,hin h⟩) (Aa (fun h=>⟨by show(0:Int)≤(i:Int);omega,by have:=hin h;show(i:Int) <(r.cells.length:Int);omega⟩) (Aa (fun _ _=>by
    have:=Qo l r.cells i
    show Ag ((Bs l r.cells i).length+1)
    unfold Ag;omega) Ad)))
 have hkn:k=l.length:=by
  rcases Nat.lt_or_ge k l.length with h|h
  ·exact absurd (hst h) (by decide)
  ·omega
 subst hkn
 exact⟨h1,hx⟩
theorem Bfw (a0:List TGroup) (a1:TRow) (_hp:∀p∈Aiq a0 a1,p):CallOk Try.prog 58 [.sl .group a0,Af .row a1] 0 [] 1 (Aqa a0 a1) 1 (Ap9 a0 a1):=by
 have hz:(!(Ai a0 a1 !=0))=true→Ai a0 a1=0:=fun h=>by simpa using h
 have h:=Bju a0 a1 (Aa (fun h1=>(Abc a0 a1 (hz h1)).1) Ad)
 have hk1:Iy a0 a1=(Ai a0 a1 !=0):=rfl
 have e:Aej a0 a1=Ai9 a0 a1∧Aek a0 a1=Jg a0 a1∧Ael a0 a1=TA a0 a1:=by
  unfold Aej Aek Ael Ai9 TA
  have hv:Jg a0 a1=(Ai a0 a1==0&&!((Bs a0 a1.cells a0.length).length==0)):=rfl
  cases hg:Ai a0 a1 !=0 with
  | true=>
   rw[hk1,hg]
   have:Jg a0 a1=false:=by
    rw[hv,show(Ai a0 a1==0)=false by simpa using hg]
    rfl
   rw[this]
   exact⟨rfl,rfl,rfl⟩
  |false=>
   have h0:Ai a0 a1=0:=by simpa using hg
   unfold Q5
   rw[hk1,hg,(Abc a0 a1 h0).2]
   have:Jg a0 a1=!((Bs a0 a1.cells a0.length).length==0):=by rw[hv,h0];rfl
   rw[this]
   show(bif((Bs a0 a1.cells a0.length).length:Int)==0 then _ else _)=_∧(bif((Bs a0 a1.cells a0.length).length:Int)==0 then _ else _)=_∧(bif((Bs a0 a1.cells a0.length).length:Int)==0 then _ else _)=_
   rw[Aua]
   cases(Bs a0 a1.cells a0.length).length==0<;>exact⟨rfl,rfl,rfl⟩
 unfold Aen Aem at h
 rw[e.1,e.2.1,e.2.2] at h
 exact h
def Az6:List A→Nat→Objs→Option A3:=Bg [.l .group,.t .row] 1 Aqa Ap9 Aiq
theorem A9k:Fi Try.prog 58 Az6:=Aq (ks:=[.l .group,.t .row]) Bfw
noncomputable def Bqu:=A4 58 Az6 Bqt
theorem A5z:Dd Try.prog Bqu:=Am A9k A5y
abbrev Bf:Type:=Int×TView×TView
def Jf (x:Bf):St:=⟨38,2,[(2,.own 0 0),(3,.own 1 0),(5,.v (.int .i64 x.1))],[(0,some (.box 94 [.v (.string x.2.1.key),.sl .field x.2.1.fields])),(1,some (.box 94 [.v (.string x.2.2.key),.sl .field x.2.2.fields]))]⟩
def KQ:St→Option Bf
 |⟨38,2,[(2,.own 0 0),(3,.own 1 0),(5,.v (.int .i64 z0))],[(0,some (.box 94 [.v (.string z1),.sl .field z2])),(1,some (.box 94 [.v (.string z3),.sl .field z4]))]⟩=>some (z0,⟨z1,z2⟩,⟨z3,z4⟩)
 |_=>none
theorem X7:∀s x,KQ s=some x→s=Jf x:=fun s x h=>by
 unfold KQ at h
 split at h
 ·cases h;rfl
 ·cases h
def QY:De:=⟨2,2,[2,3,5],[],[(0,0),(1,1)],[0,1],[4],[0,1]⟩
def Aia:Dy:=⟨[],[(0,0),(1,1)],[2,3,5],[0,1]⟩
def Fp (a0:Int) (a1:TView) (_a2:TView):Bool:=!!decide (a0 <(↑a1.2.length:Int))
def BT (a0:Int) (a1:TView) (a2:TView):Bool:=(Fp a0 a1 a2)&&!((a1.2.getD a0.toNat (Ac TC.field)).1==(a2.2.getD a0.toNat (Ac TC.field)).1&&(a1.2.getD a0.toNat (Ac TC.field)).2.toList==(a2.2.getD a0.toNat (Ac TC.field)).2.toList)
def Zt (a0:Int) (a1:TView) (a2:TView):Bool:=(Fp a0 a1 a2)&&!(BT a0 a1 a2)
def CZ (x:Bf):Bf:=(IntKind.i64.wrap (x.1+(1:Int)),x.2.1,x.2.2)
def CY (x:Bf):Cnd:=some (Zt x.1 x.2.1 x.2.2)
def Kc (x:Bf):List Prop:=[((Fp x.1 x.2.1 x.2.2)=true→(0:Int)≤x.1∧x.1 <(↑x.2.1.2.length:Int)),((Fp x.1 x.2.1 x.2.2)=true→(0:Int)≤x.1∧x.1 <(↑x.2.2.2.length:Int))]
abbrev E3:Bf→List Prop:=Kc
def Nk (x:Bf):Bj:=[(some 0,some (!decide (x.1 <(↑x.2.1.2.length:Int))),⟨38,2,[(4,.dead)],[(0,some (.box 94 [.v (.string x.2.1.1),.sl .field x.2.1.2])),(1,some (.box 94 [.v (.string x.2.2.1),.sl .field x.2.2.2]))]⟩),(none,some ((BT x.1 x.2.1 x.2.2)),⟨38,2,[(4,.v (.bool (false)))],[(0,some (.box 94 [.v (.string x.2.1.1),.sl .field x.2.1.2])),(1,some (.box 94 [.v (.string x.2.2.1),.sl .field x.2.2.2]))]⟩)]
def DZ (x:Bf):Nat:=((↑x.2.1.2.length:Int) - x.1).toNat
def Zv (x:Bf):Bf:=A9 CZ CY (DZ x) x
theorem Ad1 (a0:Int) (a1:TView) (a2:TView):Bw (As Bqu L0) 9 (Ae Try.prog 59 0) QY (Jf (a0,a1,a2))=some (Kc (a0,a1,a2),Nk (a0,a1,a2),CY (a0,a1,a2),Jf (CZ (a0,a1,a2))):=by kernel_rfl
theorem Ad2 (a0:Int) (a1:TView) (a2:TView) (hp:∀p∈E3 (a0,a1,a2),p):∀p∈Kc (a0,a1,a2),p:=hp
noncomputable def Ok:=HG (As Bqu L0) (Ae Try.prog 59 0) QY Aia KQ DZ CZ CY E3 Nk
theorem Zu:∀s b ps outs,Ok s=some (b,ps,outs)→Wf s ⟨ps,outs,none⟩∧Bt (As C0 L0) b s ps outs:=
 Bh (T:=Jf) A5z Ay (u:=9) (by kernel_rfl) (by decide) (fun⟨a0,a1,a2⟩=>Ad1 a0 a1 a2) (fun⟨a0,a1,a2⟩=>Ad2 a0 a1 a2) X7 (fun _=>AK (n:=38) rfl) fun _ _=>rfl
noncomputable def QX:=DI 0 Ok L0
theorem Zs:G9 QX:=AV Zu Ay
def FX (a0:TView) (a1:TView):Bf:=Zv ((0:Int),a0,a1)
def EG (a0:TView) (a1:TView):Bool:=!a0.1.toList==a1.1.toList||(↑a0.2.length:Int) !=(↑a1.2.length:Int)
def PJ (a0:TView) (a1:TView):Bool:=bif(EG a0 a1) then false else bif BT (FX a0 a1).fst (FX a0 a1).snd.fst (FX a0 a1).snd.snd then false else true
def PK (a0:TView) (a1:TView):A:=.v (.bool (PJ a0 a1))
def X8 (_a0:TView) (_a1:TView):Objs:=[]
def Vr (a0:TView) (a1:TView):List Prop:=[((!(EG a0 a1))=true→AD CZ CY E3 (DZ ((0:Int),a0,a1)) ((0:Int),a0,a1))]
theorem Asj (a0:TView) (a1:TView):Ff (As Bqu QX) 9 59 [Af .view a0,Af .view a1] 0 []=some (1,PK a0 a1,0,X8 a0 a1,[((!(EG a0 a1))=true→Ae Try.prog (59:FuncId) (0:Nat)=Ae Try.prog (59:FuncId) (0:Nat)),((!(EG a0 a1))=true→AD CZ CY E3 (DZ ((0:Int),a0,a1)) ((0:Int),a0,a1))]):=by kernel_rfl
theorem Ay1 (a0:TView) (a1:TView) (hp:∀p∈Vr a0 a1,p):CallOk Try.prog 59 [Af .view a0,Af .view a1] 0 [] 1 (PK a0 a1) 0 (X8 a0 a1):=by
 have n0:((!(EG a0 a1))=true→Ae Try.prog (59:FuncId) (0:Nat)=Ae Try.prog (59:FuncId) (0:Nat)):=by intros;rfl
 have n1:=N0 hp
 exact Az (An A5z Zs) (Asj a0 a1) (Aa n0 (Aa n1 Ad))
def Vs (a0:TView) (a1:TView):A:=.v (.bool (B0x a0 a1))
def Vq (_a0:TView) (_a1:TView):Objs:=[]
def Tm (a0:TView) (_a1:TView):List Prop:=[Ar a0.fields.length]
theorem Au1:∀{a b:List TField},Au0 a b=true↔a=b
 | [],[]=>by simp[Au0]
 | [],_::_=>by simp[Au0]
 |_::_,[]=>by simp[Au0]
 |⟨g,v⟩::xs,⟨g',v'⟩::ys=>by
  unfold Au0
  rw[Bool.and_eq_true,Bool.and_eq_true,beq_iff_eq,beq_iff_eq,Au1]
  simp
theorem B0w:∀(a b:List TField),a.length=b.length→Au0 a b=J9 a.length (fun i=>(a.getD i (Ac TC.field)).1==(b.getD i (Ac TC.field)).1&&(a.getD i (Ac TC.field)).2==(b.getD i (Ac TC.field)).2):=fun a b h=>by
 rw[Bool.eq_iff_iff,Au1,Hm]
 constructor
 ·rintro rfl i _
  simp
 ·intro g
  refine List.ext_getElem h fun i h1 h2=>?_
  have:=g i h1
  rw[List.getD_eq_getElem?_getD,List.getD_eq_getElem?_getD,List.getElem?_eq_getElem h1,List.getElem?_eq_getElem h2,Option.getD_some,Option.getD_some,Bool.and_eq_true,beq_iff_eq,beq_iff_eq] at this
  revert this
  generalize a[i]=x
  generalize b[i]=y
  cases x;cases y
  rintro⟨rfl,rfl⟩
  rfl
theorem Vp (a b:TView) (hb:Ar a.fields.length):(∀p∈Vr a b,p)∧PJ a b=B0x a b:=by
 unfold Ar at hb
 have hk0:EG a b=(!(a.key==b.key)||a.fields.length !=b.fields.length):=by
  show(!(a.key.toList==b.key.toList)||((a.fields.length:Int) !=(b.fields.length:Int)))=_
  rw[tlb]
  congr 1
  rw[Bool.eq_iff_iff,bne_iff_ne,bne_iff_ne];omega
 have main:EG a b=false→AD CZ CY E3 (DZ (0,a,b)) (0,a,b)∧BT (FX a b).fst (FX a b).snd.fst (FX a b).snd.snd=!Au0 a.fields b.fields:=fun h0=>by
  rw[hk0] at h0
  have hlen:a.fields.length=b.fields.length:=by simpa using(Bool.or_eq_false_iff.1 h0).2
  have hf:∀i:Nat,BT (i:Int) a b=(decide (i <a.fields.length)&&!((a.fields.getD i (Ac TC.field)).1==(b.fields.getD i (Ac TC.field)).1&&(a.fields.getD i (Ac TC.field)).2==(b.fields.getD i (Ac TC.field)).2)):=fun i=>by
   unfold BT Fp
   rw[nn,M9,Int.toNat_natCast,tlb]
  obtain⟨h1,k,hk,hx,_,_,hb'⟩:=IW (fun i=>(((i:Int),a,b):Bf)) a.fields.length (fun i=>!((a.fields.getD i (Ac TC.field)).1==(b.fields.getD i (Ac TC.field)).1&&(a.fields.getD i (Ac TC.field)).2==(b.fields.getD i (Ac TC.field)).2)) CZ CY E3 (DZ (0,a,b)) (0,a,b) rfl (by show a.fields.length≤((a.fields.length:Int) - 0).toNat;omega)
   (fun i _ _=>by
    show((!!decide ((i:Int) <(a.fields.length:Int)))&&!BT i a b)=_
    rw[hf,nn,M9]
    cases decide (i <a.fields.length)<;>rfl)
   (fun i hi _=>by
    show(IntKind.i64.wrap ((i:Int)+1),a,b)=(((i+1:Nat):Int),a,b)
    rw[Fd (by omega)])
   (fun i _ _=>by
    have hin:(!!decide ((i:Int) <(a.fields.length:Int)))=true→(i:Int) <(a.fields.length:Int):=fun h=>by rw[nn] at h;exact of_decide_eq_true h
    exact Aa (fun h=>⟨by show(0:Int)≤(i:Int);omega,hin h⟩) (Aa (fun h=>⟨by show(0:Int)≤(i:Int);omega,by have:=hin h;show(i:Int) <(b.fields.length:Int);omega⟩) Ad))
  refine⟨h1,?_⟩
  have hr:FX a b=((k:Int),a,b):=hx
  rw[hr]
  show BT (k:Int) a b=_
  rw[hf,hb',B0w _ _ hlen]
  congr 1
  exact Ji fun i _=>Bool.not_not _
 refine⟨Aa (fun h=>(main (by simpa using h)).1) Ad,?_⟩
 unfold PJ B0x
 cases h0:EG a b with
 | true=>
  rw[hk0] at h0
  rw[cond_true]
  cases hk:a.key==b.key with
  |false=>rfl
  |true=>
   rw[hk] at h0
   have hne:a.fields.length≠b.fields.length:=by simpa using h0
   cases he:Au0 a.fields b.fields with
   |false=>rfl
   |true=>exact absurd (congrArg List.length (Au1.1 he)) hne
 |false=>
  rw[cond_false,(main h0).2]
  rw[hk0] at h0
  have:(a.key==b.key)=true:=by simpa using(Bool.or_eq_false_iff.1 h0).1
  rw[this,Bool.true_and]
  cases Au0 a.fields b.fields<;>rfl
theorem Asi (a0:TView) (a1:TView) (hp:∀p∈Tm a0 a1,p):CallOk Try.prog 59 [Af .view a0,Af .view a1] 0 [] 1 (Vs a0 a1) 0 (Vq a0 a1):=by
 have hb:Ar a0.fields.length:=hp _ (List.mem_cons_self ..)
 have h:=Ay1 a0 a1 (Vp a0 a1 hb).1
 unfold PK at h
 rw[(Vp a0 a1 hb).2] at h
 exact h
def X9:List A→Nat→Objs→Option A3:=Bg [.t .view,.t .view] 0 Vs Vq Tm
theorem Al6:Fi Try.prog 59 X9:=Aq (ks:=[.t .view,.t .view]) Asi
noncomputable def B1w:=A4 59 X9 Bqu
theorem Bvf:Dd Try.prog B1w:=Am Al6 A5z
noncomputable def Cl:=B1w
theorem Ba0:Dd Try.prog Cl:=Bvf
end Go.Proofs.Yteebobbhhgmeiaa
namespace Go.Proofs.Yteebobbhhgmeiaa
open Go.RowKit Go.Shelf
attribute [local go_sem] Oper.semAt_some
def OwnB (base:Nat) (W:World) (y:Value) (bs:List UInt8):Prop:=OwnR W 5 1 y bs.length (bs.map Bp)∧∀g,CR y=some g→base≤g
theorem OwnB.keep {base:Nat} {W W':World} {y:Value} {bs:List UInt8} (h:OwnB base W y bs) (hk:∀g,base≤g→CR y=some g→W'.heap[g]?=W.heap[g]?):OwnB base W' y bs:=⟨h.1.keep fun g hg=>hk g (h.2 g hg) hg,h.2⟩
theorem OwnB.mono {b b':Nat} {W:World} {y:Value} {bs:List UInt8} (h:OwnB b W y bs) (hb:b'≤b):OwnB b' W y bs:=⟨h.1,fun g hg=>Nat.le_trans hb (h.2 g hg)⟩
theorem Btd (b0 b:Nat) (t:TypeId) (f:List (TGroup×TCell)→List UInt8):Own (fun s W=>∃y,W.heap[b0]?=some (.cells #[y] t (0,0))∧OwnB b W y (f s)):=fun s W W' row ⟨y,h1,h2⟩ hg hr=>by
 have key:∀(g:Nat) (o:Obj),W.heap[g]?=some o→o.isCells=true→W'.heap[g]?=W.heap[g]?:=fun g o ho hc=>by
  refine hg.block g (HW ho) fun e=>?_
  obtain⟨o',h3,h4⟩:=hr g e.symm
  rw[ho] at h3
  cases h3
  rw[hc] at h4
  cases h4
 refine⟨y,(key b0 _ h1 rfl).trans h1,h2.keep fun g _ hgy=>?_⟩
 rcases h2.1.2 with⟨a,e1,_⟩|⟨g',cap,cur,e1,e3,_⟩
 ·rw[e1] at hgy;cases a<;>cases hgy
 ·rw[e1] at hgy
  cases hgy
  exact key _ _ e3 rfl
theorem OwnB.form {base:Nat} {W:World} {y:Value} {bs:List UInt8} (h:OwnB base W y bs):∃a n c,y=.slice a n c:=by
 obtain⟨a,c,e,_⟩:=h.1.form
 exact⟨a,_,c,e⟩
theorem KB.setCell {n₀ X:Nat} (W:World) (v:Value):KB n₀ X W (W.setCell ⟨X,0,none⟩ v):=
 ⟨rfl,rfl,rfl,by rw[Aiw];exact Nat.le_refl _,fun k _ hk=>Below.heap_setCell W ⟨X,0,none⟩ v k hk⟩
theorem Bcx {α:Type} (F:α→List UInt8) (n:Nat) (h:∀x,(F x).length≤n):∀l:List α,(l.flatMap F).length≤l.length*n
 | []=>by simp
 |x::r=>by
  have:=Bcx F n h r
  have:=h x
  rw[List.flatMap_cons,List.length_append,List.length_cons,Nat.succ_mul]
  omega
set_option maxHeartbeats 1000000 in
theorem Bjv (w:World) (a0 a1:Option Addr) (gs:List TGroup) (cs:List TCell) (key:ByteArray) (cap0 cap1:Nat) (na ncap:Nat) (ab:Option Addr) (b0:List UInt8) (pc:Int→TCell→List UInt8) (Nx:Nat)
  (hpc:∀q c,(pc q c).length≤Nx)
  (hGd:∀W,Below w.heap.size w W→Calls Try.prog 65 #[.slice a0 gs.length cap0,.agg #[.string key,.slice a1 cs.length cap1]] W fun e W'=>e=.returned (.int .i64 0)∧Below W.heap.size W W')
  (hl1:1≤gs.length) (hl4:gs.length≤4) (hlen0:Nat.beq cs.length gs.length=true)
  (hPT:∀W,Below w.heap.size w W→Calls Try.prog 122 #[.slice ab na ncap,.string key] W fun e W'=>∃y,e=.returned y∧Below W.heap.size W W'∧OwnB W.heap.size W' y b0)
  (hCP:∀W v bs q c base,OwnB base W v bs→bs.length≤b0.length+4*Nx→Calls Try.prog 56 #[v,.int .i64 q,cV c] W fun e W'=>∃y,e=.returned y∧Below W.heap.size W W'∧OwnB W.heap.size W' y (bs++pc q c))
  (hG:0 <gs.length→∃b off,a0=some ⟨b,off,none⟩∧GsAt w.heap.size w.heap.size w b off gs)
  (hS:0 <cs.length→∃b off,a1=some ⟨b,off,none⟩∧CsAt w.heap.size w.heap.size w b off cs):
  Calls Try.prog 79 #[.slice ab na ncap,.slice a0 gs.length cap0,.agg #[.string key,.slice a1 cs.length cap1]] w fun e W'=>∃y,e=.returned y∧Below w.heap.size w W'∧OwnB w.heap.size W' y (b0++(gs.zip cs).flatMap (fun x=>pc x.1.policy x.2)):=by
 refine(callsIn_wide (n:=5)).1 ?_
 refine callsIn_of_wp_marks Try.func79 rfl trivial ?_ rfl
 simp only[Try.ntmps79,List.size_toArray,List.length_cons,List.length_nil,Nat.reduceAdd,Nat.reduceSub,Array.replicate_succ,Array.replicate_zero,List.push_toArray,List.append_toArray,List.nil_append,List.cons_append]
 have hw2:Below w.heap.size w ((w.alloc (.cells #[.slice ab na ncap] 84)).alloc (.cells #[.string key,.slice a1 cs.length cap1] 71)):=((Below.refl _ w).alloc (Nat.le_refl _) _).alloc (by simp) _
 have hr1:=OE (.cells #[.string key,.slice a1 cs.length cap1] 71) (Hb (w:=w) (.cells #[.slice ab na ncap] 84) rfl)
 have hr2:=Hb (w:=w.alloc (.cells #[.slice ab na ncap] 84)) (.cells #[.string key,.slice a1 cs.length cap1] 71) (n:=w.heap.size+1) (by simp)
 obtain⟨k0,k1⟩:=cb2 hr2
 have k2:=cb1 hr1
 gi_wp2_with (first
  |(refine⟨trivial,?_⟩;gi_at_call 65;refine(callsIn_wide.2 (hGd _ hw2)).mono ?_;rintro e W1 ⟨rfl,hb1⟩;have hx1:=Fk hr1 hb1;have hx2:=Fk hr2 hb1;have d0:=cb1 hx1;have f0:=fb1 hx1;obtain⟨c0,c1⟩:=cb2 hx2;have hB1:Below w.heap.size w W1:=hw2.trans (hb1.mono (by simp;omega));clear hr1 hr2 hb1 k0 k1 k2)
  |(refine⟨trivial,?_⟩;gi_at_call 122;refine(callsIn_wide.2 (hPT _ hB1)).mono ?_;rintro e W2 ⟨y0,rfl,hb2,hy0⟩;obtain⟨ya,yc,rfl,hyc⟩:=hy0.1.form;have hz1:=Fk hx1 hb2;have hz2:=Fk hx2 hb2;have d2:=cb1 hz1;have f2:=fb1 hz1;obtain⟨c2,c3⟩:=cb2 hz2;have hB2:Below w.heap.size w W2:=hB1.trans (hb2.mono hB1.size);clear d0 f0 c0 c1)
  |(refine⟨trivial,?_⟩;gi_at_call 132;refine(Bd7 _ _ _ _ _ _ _).mono ?_;rintro e W3 ⟨rfl,rfl⟩))
 have hlen:cs.length=gs.length:=Nat.eq_of_beq_eq_true hlen0
 have hy1:=P0 (i:=0) hz1 (.slice ya b0.length yc)
 have hy2:=Bxr hz2 (p:=⟨w.heap.size,0,none⟩) (by simp) (.slice ya b0.length yc)
 have hB3:Below w.heap.size w (W2.setCell ⟨w.heap.size,0,none⟩ (.slice ya b0.length yc)):=hB2.setCell (p:=⟨w.heap.size,0,none⟩) (Nat.le_refl _) _
 have hs1:=HW hx2
 have hs2:=HW hy2
 have hyo:OwnB (w.heap.size+1) (W2.setCell ⟨w.heap.size,0,none⟩ (.slice ya b0.length yc)) (.slice ya b0.length yc) b0:=(hy0.mono (Nat.le_of_lt hs1)).keep fun g hg _=>Below.heap_setCell W2 ⟨w.heap.size,0,none⟩ _ g (by simp;omega)
 have hVs:(W2.setCell ⟨w.heap.size,0,none⟩ (.slice ya b0.length yc)).heap.size=W2.heap.size:=Aiw _ _ _
 rw[←hVs]
 generalize W2.setCell ⟨w.heap.size,0,none⟩ (.slice ya b0.length yc)=V at hy1 hy2 hB3 hs2 hyo⊢
 clear hVs
 clear hz1 hz2 d2 f2 c2 c3 hx1 hx2 hb2 hy0
 obtain⟨b,off,rfl,hg⟩:=hG (by omega)
 obtain⟨b',off',rfl,hc⟩:=hS (by omega)
 have hW2:Below V.heap.size V ((V.alloc (.cells #[.slice (some ⟨b,off,none⟩) gs.length cap0] 66)).alloc (.cells #[.string key,.slice (some ⟨b',off',none⟩) cs.length cap1] 71)):=((Below.refl _ V).alloc (Nat.le_refl _) _).alloc (by simp) _
 have hv2:=OE (.cells #[.string key,.slice (some ⟨b',off',none⟩) cs.length cap1] 71) (Hb (w:=V) (.cells #[.slice (some ⟨b,off,none⟩) gs.length cap0] 66) rfl)
 have hv3:=Hb (w:=V.alloc (.cells #[.slice (some ⟨b,off,none⟩) gs.length cap0] 66)) (.cells #[.string key,.slice (some ⟨b',off',none⟩) cs.length cap1] 71) (n:=V.heap.size+1) (by simp)
 have hz1:=Fk hy1 hW2
 have hz3:=HW hv3
 have hB4:=hB3.trans (hW2.mono hB3.size)
 have hyo2:OwnB (w.heap.size+1) ((V.alloc (.cells #[.slice (some ⟨b,off,none⟩) gs.length cap0] 66)).alloc (.cells #[.string key,.slice (some ⟨b',off',none⟩) cs.length cap1] 71)) (.slice ya b0.length yc) b0:=hyo.keep fun g _ hgy=>hW2.block g (hyo.1.lt hgy)
 clear hyo hs1
 rw[show V.heap.size=V.heap.size from rfl] at hv2
 generalize hVW:(V.alloc (.cells #[.slice (some ⟨b,off,none⟩) gs.length cap0] 66)).alloc (.cells #[.string key,.slice (some ⟨b',off',none⟩) cs.length cap1] 71)=W2 at hW2 hv2 hv3 hz1 hz3 hB4 hyo2⊢
 have hlt0:=HW hy1
 have hg2:GsAt W2.heap.size w.heap.size W2 b off gs:=⟨⟨by have:=hg.1.1;omega,by have:=hg.1.1;omega⟩,fun j g hj=>⟨(hB4.cell (p:=⟨b,_,none⟩) hg.1.1).trans (hg.2 j g hj).1,(hB4.cell (p:=⟨b,_,none⟩) hg.1.1).trans (hg.2 j g hj).2⟩⟩
 have hc2:CsAt W2.heap.size w.heap.size W2 b' off' cs:=by
  refine⟨⟨by have:=hc.1.1;omega,by have:=hc.1.1;omega⟩,fun j c hj=>?_⟩
  have k:∀o,W2.cell? ⟨b',o,none⟩=w.cell? ⟨b',o,none⟩:=fun o=>hB4.cell (p:=⟨b',o,none⟩) hc.1.1
  simp only[k]
  exact hc.2 j c hj
 refine wpIn_rangeFunc_ownH (F:=Fence.wide) rfl (by omega) (gf:=165) (lb:=#[.pointer (some ⟨V.heap.size,0,none⟩),.pointer (some ⟨V.heap.size+1,0,none⟩)]) rfl trivial (enters_of Try.func165 (by kernel_rfl) rfl)
  (Aog _ (by omega) V.heap.size (V.heap.size+1) W2.heap.size w.heap.size b off cap0 b' off' cap1 gs cs hlen hl4 W2 (Nat.le_refl _) (cb1 hv2) (cb2 hv3).2 ⟨by omega,by omega⟩ ⟨by omega,by omega⟩ hg2 hc2)
  KB.trans (KB.putObj (Nat.le_refl _)) (Below.refl _ _) (fun _=>rfl)
  (fun pre W=>(∃y,W.heap[w.heap.size]?=some (.cells #[y] 84 (0,0))∧OwnB (w.heap.size+1) W y (b0++pre.flatMap (fun x=>pc x.1.policy x.2)))∧Below w.heap.size w W∧W2.heap.size≤W.heap.size)
  (fun _ _ _=>False)
  (OwnFrom.and (Own.from (Btd w.heap.size (w.heap.size+1) 84 (fun pre=>b0++pre.flatMap (fun x=>pc x.1.policy x.2))) _) (OwnFrom.and (ownFrom_below (Nat.le_refl _) hB4.size) (Um _ _)))
  (fun _ _ _ _ _ hs _ _=>hs)
  ⟨⟨_,hz1,by simpa using hyo2⟩,hB4,Nat.le_refl _⟩
  (fun x a' W=>(∃B6 B7,a'={tmps:=#[Value.slice ab na ncap,Value.slice (some ⟨b,off,none⟩) gs.length cap0,
     Value.agg #[Value.string key,Value.slice (some ⟨b',off',none⟩) cs.length cap1],
     Value.pointer (some {block:=w.heap.size,off:=0}),undef,
     Value.pointer (some {block:=w.heap.size+1,off:=0}),Value.slice none 0 0,Value.pointer (some ⟨B6,0,none⟩),Value.pointer (some ⟨B7,0,none⟩),
     Value.slice (some ⟨b,off,none⟩) gs.length cap0,Value.agg #[Value.string key,Value.slice (some ⟨b',off',none⟩) cs.length cap1],
     Value.int IntKind.i64 0,Value.bool false,undef,undef,undef,Value.slice ab na ncap,
     Value.pointer (some {block:=w.heap.size+1,off:=0}),Value.string key,Value.slice ya b0.length yc,
     Value.slice (some ⟨b,off,none⟩) gs.length cap0,Value.agg #[Value.string key,Value.slice (some ⟨b',off',none⟩) cs.length cap1],
     Value.func (Fn.func 165) #[] #[Value.pointer (some {block:=V.heap.size,off:=0}),Value.pointer (some {block:=V.heap.size+1,off:=0})],
     gV x.1,cV x.2,undef,undef,undef,undef,undef,undef],defers:=[]}∧
    (W.heap[B6]?=some (.cells #[.string x.1.name,.int .i64 x.1.policy] 79 (0,0))∧W.heap[B7]?=some (.cells #[.int .i64 x.2.stamp.n,.int .i64 x.2.stamp.site,.int .i64 x.2.vec.a,.int .i64 x.2.vec.b,.bool x.2.gone,.string x.2.value,.int .i64 x.2.dead.a,.int .i64 x.2.dead.b] 55 (0,0)))))
  (fun x a'=>Own.from (fun s X Y row hs hgr hr=>by
   obtain⟨B6,B7,e1,e2,e3⟩:=hs
   exact⟨B6,B7,e1,YC B6 _ _ s X Y row e2 hgr hr,YC B7 _ _ s X Y row e3 hgr hr⟩) _) ?assign ?body ?done ?stop
 case assign=>
  rintro l pre x W K ⟨⟨y,i1,i2⟩,i3,i4⟩ hK
  clear hlen hlen0
  dsimp only[Brx,gV,cV] at hK⊢
  gi_wp2
  have hb:Below W.heap.size W ((W.alloc (.cells #[.string x.1.name,.int .i64 x.1.policy] 79)).alloc (.cells #[.int .i64 x.2.stamp.n,.int .i64 x.2.stamp.site,.int .i64 x.2.vec.a,.int .i64 x.2.vec.b,.bool x.2.gone,.string x.2.value,.int .i64 x.2.dead.a,.int .i64 x.2.dead.b] 55)):=((Below.refl _ W).alloc (Nat.le_refl _) _).alloc (by simp) _
  exact hK _ _ (IL _ hb) (KB.of_below (hb.mono i4)) ⟨⟨y,Fk i1 hb,i2.keep fun g _ hgy=>hb.block g (i2.1.lt hgy)⟩,i3.trans (hb.mono i3.size),Nat.le_trans i4 hb.size⟩ ⟨W.heap.size,W.heap.size+1,rfl,OE _ (Hb _ rfl),Hb _ (by simp)⟩
 case body=>
  rintro l pre x a' W hl hr ⟨⟨y,i1,i2⟩,i3,i4⟩ ⟨B6,B7,rfl,e6,e7⟩ hlt
  obtain⟨yb,ym,yd,rfl⟩:=i2.form
  obtain⟨k0,k1⟩:=cb2 e6
  obtain⟨m0,m1,m2,m3,m4,m5,m6,m7⟩:=cb8 e7
  have d0:=cb1 i1
  have hbl:(b0++pre.flatMap (fun x=>pc x.1.policy x.2)).length≤b0.length+4*Nx:=by
   have:=Bcx (fun x:TGroup×TCell=>pc x.1.policy x.2) Nx (fun x=>hpc _ _) pre
   have h2:pre.length*Nx≤4*Nx:=Nat.mul_le_mul_right _ (by omega)
   rw[List.length_append]
   omega
  clear hlen hlen0
  generalize hbe:b0++pre.flatMap (fun x=>pc x.1.policy x.2)=bs at*
  gi_wp2_with (refine⟨trivial,?_⟩;gi_at_call 56;refine(CallsIn.inRound l (callsIn_wide.2 (hCP _ _ bs x.1.policy x.2 _ i2 hbl))).mono ?_;rintro e W' ⟨y',rfl,hb,hy'⟩;obtain⟨ye,yn,yf,rfl⟩:=hy'.form;have q1:=Fk i1 hb;have d4:=cb1 q1;have f4:=fb1 q1)
  have hw:=HW i1
  refine⟨(IL _ hb).trans ((KeepsOthers.setCell _ _ _).from _),(KB.of_below (hb.mono i4)).trans (KB.setCell _ _),⟨_,P0 (i:=0) q1 _,?_⟩,(i3.trans (hb.mono i3.size)).setCell (p:=⟨w.heap.size,0,none⟩) (Nat.le_refl _) _,Nat.le_trans i4 (by rw[Aiw];exact hb.size)⟩
  rw[List.flatMap_append,←List.append_assoc,hbe]
  simp only[List.flatMap_cons,List.flatMap_nil,List.append_nil]
  exact(hy'.mono (b':=w.heap.size+1) (by omega)).keep fun g hg _=>Below.heap_setCell W' ⟨w.heap.size,0,none⟩ _ g (by simp;omega)
 case done=>
  rintro D ys W hD rfl ⟨⟨y,i1,i2⟩,i3,i4⟩ hK
  obtain⟨yb,ym,yd,rfl⟩:=i2.form
  have d0:=cb1 i1
  clear hlen hlen0
  gi_wp2
  refine⟨by simp,.inl ⟨_,_,rfl,run_takeDeferred hK,?_⟩⟩
  refine⟨_,results_tmp rfl _ _ _,_,rfl,i3.trans (belowK_b (w:=w) (Nat.le_refl _) W D _ _ (by have:=hB4.size;omega) hK rfl rfl),(i2.mono (Nat.le_succ _)).keep fun g _ hgy=>?_⟩
  refine World.putObj_heap_other fun e=>?_
  subst e
  rcases i2.1.2 with⟨a,e1,_⟩|⟨g',cap,cur,e1,e3,_⟩
  ·rw[e1] at hgy;cases a<;>cases hgy
  ·rw[e1] at hgy
   cases hgy
   rw[hK] at e3
   cases e3
 case stop=>
  rintro D c pre W hD _ h _
  exact h.elim
end Go.Proofs.Yteebobbhhgmeiaa
namespace Go.Proofs.Yteebobbhhgmeiaa
open Go.RowKit
def Btm (l:List TGroup) (r:TRow):List UInt8:=A8e r.key++(l.zip r.cells).flatMap (fun x=>Beb x.1.policy x.2)
def Btn (l:List TGroup) (r:TRow):List UInt8:=bif Ai l r==0 then Btm l r else[]
def Ux (_a0:List UInt8) (a1:List TGroup) (a2:TRow):Bool:=Ai a1 a2 !=(0:Int)
def A4x (a0:List UInt8) (_a1:List TGroup) (_a2:TRow):List UInt8:=[]++a0
def A4y (_a0:List UInt8) (_a1:List TGroup) (_a2:TRow):A:=.sq 0
def Y1 (a0:List UInt8) (a1:List TGroup) (a2:TRow):Objs:=[(0,some (.arr 5 1 (.ty .u8 (A4x a0 a1 a2))))]
def Az2 (a0:List UInt8) (a1:List TGroup) (a2:TRow):List Prop:=[((Ux a0 a1 a2)=true→Ag ((0:Nat)+a0.length)),((!(Ux a0 a1 a2))=true→Ag (a0.length+(8:Nat)+a2.1.size)),((!(Ux a0 a1 a2))=true→Aey (4:Nat))]
theorem Bjt (a0:List UInt8) (a1:List TGroup) (a2:TRow):Ff (As Cl L0) 9 79 [Af .bytes a0,.sl .group a1,Af .row a2] 0 []=some (1,A4y a0 a1 a2,1,Y1 a0 a1 a2,Az2 a0 a1 a2):=by kernel_rfl
theorem Bo0 (a0:List UInt8) (a1:List TGroup) (a2:TRow) (hp:∀p∈Az2 a0 a1 a2,p):CallOk Try.prog 79 [Af .bytes a0,.sl .group a1,Af .row a2] 0 [] 1 (A4y a0 a1 a2) 1 (Y1 a0 a1 a2):=Az (An Ba0 Ay) (Bjt a0 a1 a2) hp
def Az3 (_a0:List UInt8) (_a1:List TGroup) (_a2:TRow):A:=.sq 0
def MH (a0:List UInt8) (a1:List TGroup) (a2:TRow):Objs:=[(0,some (.arr 5 1 (.ty .u8 (a0++Btn a1 a2))))]
def Ap8 (a0:List UInt8) (_a1:List TGroup) (_a2:TRow):List Prop:=[Ag (a0.length+1024)]
section
variable {F:Nat→Prop} {N:Nm} {nx:Nat} {R:World}
theorem A3o:∀{l:List UInt8} {zs:List Value},zs.length=l.length→(∀k,k <l.length→HL F N nx R [.v (Bp (l.getD k 0))] ((zs.drop (k*1)).take 1))→zs=l.map Bp
 | [],[],_,_=>rfl
 | [],_::_,h,_=>by cases h
 |_::_,[],h,_=>by cases h
 | x::l,z::zs,h,g=>by
  have h0:=g 0 (Nat.succ_pos _)
  obtain⟨v,vs,e1,e2,e3⟩:=h0.inv
  have hz:z=Bp x:=by
   have e1':[z]=v::vs:=e1
   injection e1' with e1' _
   rw[e1']
   exact e2.v_inv
  rw[List.map_cons,←hz,A3o (l:=l) (zs:=zs) (by simpa using h) fun k hk=>by
   have:=g (k+1) (Nat.succ_lt_succ hk)
   simpa[Nat.mul_one] using this]
theorem Bo1 {l:List UInt8} {k:Nat} (hk:k <l.length):HL F N nx R [.v (Bp (l.getD k 0))] (((l.map Bp).drop (k*1)).take 1):=by
 rw[Nat.mul_one,List.drop_eq_getElem_cons (by simpa using hk),List.take_succ_cons,List.take_zero,List.getElem_map,List.getD_eq_getElem?_getD,List.getElem?_eq_getElem hk]
 exact HL.cons (.v _) HL.nil
theorem OwnB.sl {base:Nat} {y:Value} {bs:List UInt8} (h:OwnB base R y bs) (N:Nm):(∀g,CR y=some g→g <R.heap.size)∧Hv (fun g=>CR y=some g) N 0 R (.sl .u8 bs) y:=by
 refine⟨fun g hg=>h.1.lt hg,?_⟩
 obtain⟨hl,h2⟩:=h.1
 rcases h2 with⟨a,e1,e2⟩|⟨g,cap,cur,e1,e2,e3,_,e5,e6⟩
 ·obtain rfl:bs=[]:=List.eq_nil_of_length_eq_zero e2
  rw[e1]
  exact Hv.sl_nil rfl
 ·rw[e1]
  refine Hv.of_sl e3 fun hn=>⟨⟨g,0,none⟩,rfl,?_,fun i d hd j x hx=>?_⟩
  ·obtain⟨m,hm⟩:∃m,bs.length=m+1:=⟨bs.length - 1,by omega⟩
   rw[hm]
   rfl
  ·cases j with
   |succ j=>cases hx
   |zero=>
    have hi:=(List.getElem?_eq_some_iff.1 hd).1
    have hz:(bs.map Bp)[i]?=some (Bp d):=by rw[List.getElem?_map,hd];rfl
    rw[←e6,List.getElem?_take_of_lt (by omega)] at hz
    obtain rfl:A.v (Bp d)=x:=Option.some.inj hx
    refine⟨Bp d,?_,.v _⟩
    rw[D3,Fj,F4 e2]
    show cur[0+(i*1+0)]?=_
    rw[Nat.zero_add,Nat.add_zero,Nat.mul_one]
    simpa using hz
end
theorem CallOk.bytes {P:Program} {f:FuncId} {args:List A} {bs:List UInt8} (h:CallOk P f args 0 [] 1 (.sq 0) 1 [(0,some (.arr 5 1 (.ty .u8 bs)))]) {F:Nat→Prop} {N:Nm} {R:World} {vs:List Value} (hF:∀g,F g→g <R.heap.size) (hv:HL F N 0 R args vs):
  Calls P f vs.toArray R fun e R'=>∃y,e=.returned y∧Below R.heap.size R R'∧OwnB R.heap.size R' y bs:=by
 refine(h F N R vs (HRel.bare hF) hv).mono fun e R' ⟨y,F',N',e1,h2,h3,h4,h5⟩=>⟨y,e1,h5 (Nat.le_refl _),?_⟩
 obtain rfl:y=N'.q 0:=by cases h4;rfl
 obtain⟨_,zs,g1,g2⟩:=h2.ob 0 _ rfl
 have e:zs=bs.map Bp:=A3o (F:=F') (N:=N') (nx:=1) (R:=R') (by rw[g1.1];exact Nat.mul_one _) g2
 rw[e] at g1
 refine⟨g1,fun g hg=>?_⟩
 rcases h3.foot g ⟨0,_,rfl,hg⟩ with⟨i,ob,hl,_⟩|h
 ·cases hl
 ·exact h
theorem OwnB.made {P:Program} {f:FuncId} {F:Nat→Prop} {N:Nm} {R:World} {vs:List Value} {bs:List UInt8} (hR:HRel F N 0 [] R)
  (h:Calls P f vs.toArray R fun e R'=>∃y,e=.returned y∧Below R.heap.size R R'∧OwnB R.heap.size R' y bs):
  Calls P f vs.toArray R fun e R'=>∃y F' N',e=.returned y∧HRel F' N' 1 [(0,some (.arr 5 1 (.ty .u8 bs)))] R'∧Step F N 0 [] R F' N' 1 [(0,some (.arr 5 1 (.ty .u8 bs)))] R'∧Hv F' N' 1 R' (.sq 0) y∧(1≤1→Below R.heap.size R R'):=by
 refine h.mono fun e R' ⟨y,e1,hb,h2,h3⟩=>⟨y,F,N.setQ 0 y,e1,?_,?_,?_,fun _=>hb⟩
 ·have hq:(N.setQ 0 y).q 0=y:=by show Ko N.q 0 y 0=y;exact BU _ _ _
  have one:∀i ob,Ao i [(0,some (Ob.arr 5 1 (.ty .u8 bs)))]=some ob→i=0∧ob=.arr 5 1 (.ty .u8 bs):=fun i ob hl=>by
   cases i with
   |zero=>cases hl;exact⟨rfl,rfl⟩
   |succ i=>cases hl
  refine⟨fun g hg=>Nat.lt_of_lt_of_le (hR.flt g hg) hb.size,fun i ob hl=>?_,fun i ob g hl hg hF=>?_,fun i j x z g hl hl' _ _=>(one i x hl).1.trans (one j z hl').1.symm⟩
  ·obtain⟨rfl,rfl⟩:=one i ob hl
   exact⟨Nat.succ_pos _,bs.map Bp,by rw[hq];exact h2,fun k hk=>Bo1 hk⟩
  ·obtain⟨rfl,rfl⟩:=one i ob hl
   have hg':CR ((N.setQ 0 y).q 0)=some g:=hg
   rw[hq] at hg'
   have:=hR.flt g hF
   have:=h3 g hg'
   omega
 ·refine⟨Nat.zero_le _,fun i hi=>absurd hi (Nat.not_lt_zero _),fun i hi=>absurd hi (Nat.not_lt_zero _),fun _ h=>h,fun _ h=> .inl h,fun g ⟨i,ob,hl,hg⟩=> .inr ?_,hb.os,hb.tape,hb.output,hb.size,fun g hg _=>hb.block g hg⟩
  cases i with
  |succ i=>cases hl
  |zero=>
   cases hl
   have hg':CR ((N.setQ 0 y).q 0)=some g:=hg
   rw[show(N.setQ 0 y).q 0=y by show Ko N.q 0 y 0=y;exact BU _ _ _] at hg'
   exact h3 g hg'
 ·have hq:(N.setQ 0 y).q 0=y:=by show Ko N.q 0 y 0=y;exact BU _ _ _
  have:=Hv.sq (F:=F) (N:=N.setQ 0 y) (nx:=1) (R:=R') (i:=0) (Nat.succ_pos _)
  rw[hq] at this
  exact this
theorem Bxb (p:Int) (c:TCell):(Beb p c).length≤128:=by
 unfold Beb Brf
 cases hg:Bv p c with
 |false=>exact Nat.zero_le _
 | true=>
  have n8:=XI (O1 c)
  have s8:=Bto c.stamp
  have v16:=A8f c.vec
  have d16:=A8f c.dead
  have t8:=Bim c.value
  cases hw:BR c with
  |false=>cases G8 c.dead<;>simp only[cond_true,cond_false,List.length_append,List.length_nil]<;>omega
  |true=>
   have:=((A30.1 hg).st hw).2.2.2.1
   cases G8 c.dead<;>cases c.gone<;>simp only[cond_true,cond_false,List.length_append,List.length_nil]<;>omega
theorem Bjs (a0:List UInt8) (a1:List TGroup) (a2:TRow) (hp:∀p∈Ap8 a0 a1 a2,p):CallOk Try.prog 79 [Af .bytes a0,.sl .group a1,Af .row a2] 0 [] 1 (Az3 a0 a1 a2) 1 (MH a0 a1 a2):=by
 have hb:Ag (a0.length+1024):=hp _ (List.mem_cons_self ..)
 unfold Ag at hb
 cases hg:Ai a1 a2==0 with
 | false=>
  have hk:Ux a0 a1 a2=true:=by
   show(Ai a1 a2 !=0)=true
   simpa using hg
  have h:=Bo0 a0 a1 a2 (Aa (fun _=>by unfold Ag;omega) (Aa (fun h=>by rw[hk] at h;cases h) (Aa (fun h=>by rw[hk] at h;cases h) Ad)))
  have e:Y1 a0 a1 a2=MH a0 a1 a2:=by
   unfold Y1 MH A4x Btn
   rw[hg,cond_false,List.append_nil,List.nil_append]
  rw[e] at h
  exact h
 | true=>
  have h0:Ai a1 a2=0:=by simpa using hg
  obtain⟨h1,hlen,_,h32,_⟩:=AJ h0
  obtain⟨hl1,hl4⟩:=G7 h1
  intro F N R vs hR hv
  obtain⟨v,vs,rfl,hv0,hv⟩:=hv.inv
  obtain⟨v0,vs,rfl,k0,hv⟩:=hv.inv
  obtain⟨v1,vs,rfl,k1,hv⟩:=hv.inv
  rw[hv.inv0]
  have hv0':=hv0
  obtain⟨ab,ncap,rfl,_⟩:=Hv.sl_inv (c:=.u8) (l:=a0) hv0
  obtain⟨us,rfl,k2⟩:=Hv.agg_inv (xs:=[.v (.string a2.key),.sl .cell a2.cells]) k1
  obtain⟨u0,us,rfl,m0,k2⟩:=k2.inv
  obtain⟨u1,us,rfl,m1,k2⟩:=k2.inv
  obtain rfl:=k2.inv0
  obtain rfl:=m0.v_inv
  obtain⟨aa,cap0,rfl,g0⟩:=By0 hR.flt k0
  obtain⟨ac,cap1,rfl,g1⟩:=Byy hR.flt m1
  have ho:MH a0 a1 a2=[(0,some (.arr 5 1 (.ty .u8 ((a0++A8e a2.key)++(a1.zip a2.cells).flatMap (fun x=>Beb x.1.policy x.2)))))]:=by
   unfold MH Btn Btm
   rw[hg,cond_true,List.append_assoc]
  rw[ho]
  refine OwnB.made hR (Bjv R aa ac a1 a2.cells a2.key cap0 cap1 a0.length ncap ab (a0++A8e a2.key) Beb 128 Bxb ?_ hl1 hl4 (by rw[hlen];exact M5 _) ?_ ?_ g0 g1)
  ·intro W hW
   have h:Calls Try.prog 65 #[.slice aa a1.length cap0,.agg #[.string a2.key,.slice ac a2.cells.length cap1]] W fun e W'=>e=.returned (.int .i64 (Ai a1 a2))∧Below W.heap.size W W':=(Ap0 a1 a2 (fun _ h=>by cases h)).plain (F:=F) (N:=N) (R:=W) (vs:=[.slice aa a1.length cap0,.agg #[.string a2.key,.slice ac a2.cells.length cap1]]) (fun g hg=>Nat.lt_of_lt_of_le (hR.flt g hg) hW.size) (HL.cons (k0.step (hR.grow hW).2) (HL.cons (k1.step (hR.grow hW).2) HL.nil))
   rw[h0] at h
   exact h
  ·intro W hW
   exact(Xl a0 a2.key (Aa (by unfold Ag;omega) Ad)).bytes (F:=F) (N:=N) (R:=W) (vs:=[_,.string a2.key]) (fun g hg=>Nat.lt_of_lt_of_le (hR.flt g hg) hW.size) (HL.cons (hv0'.step (hR.grow hW).2) (HL.cons (.v _) HL.nil))
  ·intro W v bs q c base ho hl
   obtain⟨f1,f2⟩:=ho.sl N
   have h8:=Bim a2.key
   rw[List.length_append] at hl
   exact(Anb bs q c (Aa (by unfold Ag;omega) Ad)).bytes (F:=fun g=>CR v=some g) (N:=N) (R:=W) (vs:=[v,.int .i64 q,cV c]) f1 (HL.cons f2 (HL.cons (.v _) (HL.cons (.v _) HL.nil)))
def A4z:List A→Nat→Objs→Option A3:=Bg [.t .bytes,.l .group,.t .row] 1 Az3 MH Ap8
theorem Bfv:Fi Try.prog 79 A4z:=Aq (ks:=[.t .bytes,.l .group,.t .row]) Bjs
noncomputable def Bz5:=A4 79 A4z Cl
theorem Bk7:Dd Try.prog Bz5:=Am Bfv Ba0
def Ap (a0:Int) (a1:Int) (a2:Int):Int:=bif decide (a0 >a2)||decide (a1 >a2)||decide (a0 >IntKind.i64.wrap (a2 - a1)) then IntKind.i64.wrap (a2+(1:Int)) else IntKind.i64.wrap (a0+a1)
def Alh (a0:Int) (a1:Int) (a2:Int):A:=.v (.int .i64 (Ap a0 a1 a2))
def Alg (_a0:Int) (_a1:Int) (_a2:Int):Objs:=[]
def Ac5 (_a0:Int) (_a1:Int) (_a2:Int):List Prop:=[]
theorem Bio (a0:Int) (a1:Int) (a2:Int):Ff (As Bz5 L0) 9 111 [Af .i64 a0,Af .i64 a1,Af .i64 a2] 0 []=some (1,Alh a0 a1 a2,0,Alg a0 a1 a2,Ac5 a0 a1 a2):=by kernel_rfl
theorem Bon (a0:Int) (a1:Int) (a2:Int) (hp:∀p∈Ac5 a0 a1 a2,p):CallOk Try.prog 111 [Af .i64 a0,Af .i64 a1,Af .i64 a2] 0 [] 1 (Alh a0 a1 a2) 0 (Alg a0 a1 a2):=Az (An Bk7 Ay) (Bio a0 a1 a2) hp
def Ali:List A→Nat→Objs→Option A3:=Bg [.t .i64,.t .i64,.t .i64] 0 Alh Alg Ac5
theorem Aom:Fi Try.prog 111 Ali:=Aq (ks:=[.t .i64,.t .i64,.t .i64]) Bon
noncomputable def Bgq:=A4 111 Ali Bz5
theorem Atg:Dd Try.prog Bgq:=Am Aom Bk7
theorem At4 {n k m:Int} (hn:0≤n) (hk:0≤k∧k≤9223372036854775807) (hm:0≤m∧m≤1099511627776):(Ap n k m≤m→n+k≤m)∧0≤Ap n k m∧(n+k≤m→Ap n k m=n+k):=by
 unfold Ap
 rw[i64_in (n:=m - k) (by omega),i64_in (n:=m+1) (by omega)]
 by_cases h:n+k≤m
 ·have e:(decide (n >m)||decide (k >m)||decide (n >m - k))=false:=by
   rw[decide_eq_false (by omega),decide_eq_false (by omega),decide_eq_false (by omega)];rfl
  rw[e,cond_false,i64_in (by omega)]
  exact⟨fun _=>h,by omega,fun _=>rfl⟩
 ·have e:(decide (n >m)||decide (k >m)||decide (n >m - k))=true:=by
   rw[decide_eq_true (p:=n >m - k) (by omega),Bool.or_true]
  rw[e,cond_true]
  exact⟨fun h'=>by omega,by omega,fun h'=>absurd h' h⟩
theorem Abm {k:Nat} (h:Ar k):(0:Int)≤(k:Int)∧(k:Int)≤9223372036854775807:=by unfold Ar at h;omega
abbrev Cp:Type:=(List TRow)×Int×Int×Int
def Ln (x:Cp):St:=⟨64,0,[(1,.sl .row x.1),(5,.v (.int .i64 x.2.1)),(6,.v (.int .i64 x.2.2.1)),(7,.v (.int .i64 x.2.2.2))],[]⟩
def Nz:St→Option Cp
 |⟨64,0,[(1,.sl .row z0),(5,.v (.int .i64 z1)),(6,.v (.int .i64 z2)),(7,.v (.int .i64 z3))],[]⟩=>some (z0,z1,z2,z3)
 |_=>none
theorem Agb:∀s x,Nz s=some x→s=Ln x:=fun s x h=>by
 unfold Nz at h
 split at h
 ·cases h;rfl
 ·cases h
def WA:De:=⟨0,0,[1,5,6,7],[],[],[],[5],[]⟩
def Avp:Dy:=⟨[],[],[1,5,6,7],[]⟩
def D9 (a0:List TRow) (a1:Int) (a2:Int) (a3:Int):Bool:=!!(decide (a3 <(↑(a0.getD a2.toNat (Ac TC.row)).2.length:Int))&&decide (a1≤(5000:Int)))
def Mm (a0:List TRow) (a1:Int) (a2:Int) (a3:Int):Int:=Ap a1 (↑((a0.getD a2.toNat (Ac TC.row)).2.getD a3.toNat (Ac TC.cell)).4.size:Int) (5000:Int)
def Akf (a0:List TRow) (a1:Int) (a2:Int) (a3:Int):Bool:=!(decide (a3 <(↑(a0.getD a2.toNat (Ac TC.row)).2.length:Int))&&decide (a1≤(5000:Int)))
def CN (x:Cp):Cp:=(x.1,Mm x.1 x.2.1 x.2.2.1 x.2.2.2,x.2.2.1,IntKind.i64.wrap (x.2.2.2+(1:Int)))
def CM (x:Cp):Cnd:=some ((D9 x.1 x.2.1 x.2.2.1 x.2.2.2))
def Mn (x:Cp):List Prop:=[((0:Int)≤x.2.2.1∧x.2.2.1 <(↑x.1.length:Int)),((D9 x.1 x.2.1 x.2.2.1 x.2.2.2)=true→(0:Int)≤x.2.2.1∧x.2.2.1 <(↑x.1.length:Int)),((D9 x.1 x.2.1 x.2.2.1 x.2.2.2)=true→(0:Int)≤x.2.2.2∧x.2.2.2 <(↑(x.1.getD x.2.2.1.toNat (Ac TC.row)).2.length:Int))]
abbrev EF:Cp→List Prop:=Mn
def Qy (x:Cp):Bj:=[(some 2,some (Akf x.1 x.2.1 x.2.2.1 x.2.2.2),⟨64,0,[(5,.v (.int .i64 x.2.1))],[]⟩)]
def Dr (x:Cp):Nat:=((↑(x.1.getD x.2.2.1.toNat (Ac TC.row)).2.length:Int) - x.2.2.2).toNat
def JQ (x:Cp):Cp:=A9 CN CM (Dr x) x
theorem Aq7 (a0:List TRow) (a1:Int) (a2:Int) (a3:Int):Bw (As Bgq L0) 9 (Ae Try.prog 60 2) WA (Ln (a0,a1,a2,a3))=some (Mn (a0,a1,a2,a3),Qy (a0,a1,a2,a3),CM (a0,a1,a2,a3),Ln (CN (a0,a1,a2,a3))):=by kernel_rfl
theorem Aq8 (a0:List TRow) (a1:Int) (a2:Int) (a3:Int) (hp:∀p∈EF (a0,a1,a2,a3),p):∀p∈Mn (a0,a1,a2,a3),p:=hp
noncomputable def SG:=HG (As Bgq L0) (Ae Try.prog 60 2) WA Avp Nz Dr CN CM EF Qy
theorem Akg:∀s b ps outs,SG s=some (b,ps,outs)→Wf s ⟨ps,outs,none⟩∧Bt (As C0 L0) b s ps outs:=
 Bh (T:=Ln) Atg Ay (u:=9) (by kernel_rfl) (by decide) (fun⟨a0,a1,a2,a3⟩=>Aq7 a0 a1 a2 a3) (fun⟨a0,a1,a2,a3⟩=>Aq8 a0 a1 a2 a3) Agb (fun _=>AK (n:=64) rfl) fun _ _=>rfl
noncomputable def Lm:=DI 2 SG L0
theorem SF:G9 Lm:=AV Akg Ay
abbrev Co:Type:=(List TRow)×Int×Int
def Ll (x:Co):St:=⟨64,0,[(1,.sl .row x.1),(5,.v (.int .i64 x.2.1)),(6,.v (.int .i64 x.2.2))],[]⟩
def Ny:St→Option Co
 |⟨64,0,[(1,.sl .row z0),(5,.v (.int .i64 z1)),(6,.v (.int .i64 z2))],[]⟩=>some (z0,z1,z2)
 |_=>none
theorem Aga:∀s x,Ny s=some x→s=Ll x:=fun s x h=>by
 unfold Ny at h
 split at h
 ·cases h;rfl
 ·cases h
def Wz:De:=⟨0,0,[1,5,6],[],[],[],[5],[]⟩
def Avo:Dy:=⟨[],[],[1,5,6],[]⟩
def Be (a0:List TRow) (a1:Int) (a2:Int):Bool:=!!(decide (a2 <(↑a0.length:Int))&&decide (a1≤(5000:Int)))
def Gs (a0:List TRow) (a1:Int) (a2:Int):Int:=(JQ (a0,Ap (Ap a1 (↑(a0.getD a2.toNat (Ac TC.row)).1.size:Int) (5000:Int)) (↑(a0.getD a2.toNat (Ac TC.row)).2.length:Int) (5000:Int),a2,(0:Int))).snd.fst
def Akd (a0:List TRow) (a1:Int) (a2:Int):Bool:=!(decide (a2 <(↑a0.length:Int))&&decide (a1≤(5000:Int)))
def Fv (x:Co):Co:=(x.1,Gs x.1 x.2.1 x.2.2,IntKind.i64.wrap (x.2.2+(1:Int)))
def Fu (x:Co):Cnd:=some ((Be x.1 x.2.1 x.2.2))
def SC (x:Co):List Prop:=[((Be x.1 x.2.1 x.2.2)=true→(0:Int)≤x.2.2∧x.2.2 <(↑x.1.length:Int)),((Be x.1 x.2.1 x.2.2)=true→(0:Int)≤x.2.2∧x.2.2 <(↑x.1.length:Int)),((Be x.1 x.2.1 x.2.2)=true→Ae Try.prog (60:FuncId) (2:Nat)=Ae Try.prog (60:FuncId) (2:Nat)),((Be x.1 x.2.1 x.2.2)=true→AD CN CM EF (Dr (x.1,Ap (Ap x.2.1 (↑(x.1.getD x.2.2.toNat (Ac TC.row)).1.size:Int) (5000:Int)) (↑(x.1.getD x.2.2.toNat (Ac TC.row)).2.length:Int) (5000:Int),x.2.2,(0:Int))) (x.1,Ap (Ap x.2.1 (↑(x.1.getD x.2.2.toNat (Ac TC.row)).1.size:Int) (5000:Int)) (↑(x.1.getD x.2.2.toNat (Ac TC.row)).2.length:Int) (5000:Int),x.2.2,(0:Int)))]
def IM (x:Co):List Prop:=[((Be x.1 x.2.1 x.2.2)=true→(0:Int)≤x.2.2∧x.2.2 <(↑x.1.length:Int)),((Be x.1 x.2.1 x.2.2)=true→AD CN CM EF (Dr (x.1,Ap (Ap x.2.1 (↑(x.1.getD x.2.2.toNat (Ac TC.row)).1.size:Int) (5000:Int)) (↑(x.1.getD x.2.2.toNat (Ac TC.row)).2.length:Int) (5000:Int),x.2.2,(0:Int))) (x.1,Ap (Ap x.2.1 (↑(x.1.getD x.2.2.toNat (Ac TC.row)).1.size:Int) (5000:Int)) (↑(x.1.getD x.2.2.toNat (Ac TC.row)).2.length:Int) (5000:Int),x.2.2,(0:Int)))]
def Qx (x:Co):Bj:=[(some 0,some (Akd x.1 x.2.1 x.2.2),⟨64,0,[(5,.v (.int .i64 x.2.1))],[]⟩)]
def Hu (x:Co):Nat:=((↑x.1.length:Int) - x.2.2).toNat
def SE (x:Co):Co:=A9 Fv Fu (Hu x) x
theorem Aq5 (a0:List TRow) (a1:Int) (a2:Int):Bw (As Bgq Lm) 9 (Ae Try.prog 60 0) Wz (Ll (a0,a1,a2))=some (SC (a0,a1,a2),Qx (a0,a1,a2),Fu (a0,a1,a2),Ll (Fv (a0,a1,a2))):=by kernel_rfl
theorem Aq6 (a0:List TRow) (a1:Int) (a2:Int) (hp:∀p∈IM (a0,a1,a2),p):∀p∈SC (a0,a1,a2),p:=by
 have n0:((Be a0 a1 a2)=true→(0:Int)≤a2∧a2 <(↑a0.length:Int)):=N0 hp
 have n2:((Be a0 a1 a2)=true→Ae Try.prog (60:FuncId) (2:Nat)=Ae Try.prog (60:FuncId) (2:Nat)):=by intros;rfl
 have n3:=N0 (N1 hp)
 exact(Aa n0 (Aa n0 (Aa n2 (Aa n3 Ad))))
noncomputable def SD:=HG (As Bgq Lm) (Ae Try.prog 60 0) Wz Avo Ny Hu Fv Fu IM Qx
theorem Ake:∀s b ps outs,SD s=some (b,ps,outs)→Wf s ⟨ps,outs,none⟩∧Bt (As C0 L0) b s ps outs:=
 Bh (T:=Ll) Atg SF (u:=9) (by kernel_rfl) (by decide) (fun⟨a0,a1,a2⟩=>Aq5 a0 a1 a2) (fun⟨a0,a1,a2⟩=>Aq6 a0 a1 a2) Aga (fun _=>AK (n:=64) rfl) fun _ _=>rfl
noncomputable def Wy:=DI 0 SD Lm
theorem Akc:G9 Wy:=AV Ake SF
def Qw (a0:List TGroup) (a1:List TRow):Bool:=decide ((SE (a1,Ap (0:Int) (↑a0.length:Int) (5000:Int),(0:Int))).snd.fst≤(5000:Int))
def Anv (a0:List TGroup) (a1:List TRow):A:=.v (.bool (Qw a0 a1))
def Anu (_a0:List TGroup) (_a1:List TRow):Objs:=[]
def Agd (a0:List TGroup) (a1:List TRow):List Prop:=[(AD Fv Fu IM (Hu (a1,Ap (0:Int) (↑a0.length:Int) (5000:Int),(0:Int))) (a1,Ap (0:Int) (↑a0.length:Int) (5000:Int),(0:Int)))]
theorem A69 (a0:List TGroup) (a1:List TRow):Ff (As Bgq Wy) 9 60 [.sl .group a0,Af .rows a1] 0 []=some (1,Anv a0 a1,0,Anu a0 a1,[(Ae Try.prog (60:FuncId) (0:Nat)=Ae Try.prog (60:FuncId) (0:Nat)),(AD Fv Fu IM (Hu (a1,Ap (0:Int) (↑a0.length:Int) (5000:Int),(0:Int))) (a1,Ap (0:Int) (↑a0.length:Int) (5000:Int),(0:Int)))]):=by kernel_rfl
theorem Bdc (a0:List TGroup) (a1:List TRow) (hp:∀p∈Agd a0 a1,p):CallOk Try.prog 60 [.sl .group a0,Af .rows a1] 0 [] 1 (Anv a0 a1) 0 (Anu a0 a1):=by
 have n1:=N0 hp
 exact Az (An Atg Akc) (A69 a0 a1) (Aa rfl (Aa n1 Ad))
def Age (a0:List TGroup) (a1:List TRow):A:=.v (.bool (Qw a0 a1))
def Agc (_a0:List TGroup) (_a1:List TRow):Objs:=[]
def ZK (a0:List TGroup) (a1:List TRow):List Prop:=[Ar a0.length∧Ar a1.length∧∀r∈a1,Ar r.key.size∧Ar r.cells.length∧∀c∈r.cells,Ar c.value.size]
def Yt (m:Nat) (r:TRow):Prop:=r.key.size≤m∧r.cells.length≤m∧∀c∈r.cells,c.value.size≤m
def Yy (r:TRow):Prop:=Ar r.key.size∧Ar r.cells.length∧∀c∈r.cells,Ar c.value.size
theorem getD_in {α:Type} (l:List α) (d:α) (i:Nat) (h:i <l.length):l.getD i d∈l:=by
 rw[List.getD_eq_getElem?_getD,List.getElem?_eq_getElem h]
 exact List.getElem_mem h
def nk (cs:List TCell) (n0:Int):Nat→Int
 |0=>n0
 |k+1=>Ap (nk cs n0 k) ((cs.getD k (Ac TC.cell)).4.size:Int) 5000
theorem By8 (cs:List TCell) (n0:Int) (h0:0≤n0) (hw:∀c∈cs,Ar c.value.size):∀k,k≤cs.length→0≤nk cs n0 k∧(nk cs n0 k≤5000→n0≤5000∧∀j,j <k→(cs.getD j (Ac TC.cell)).value.size≤5000)
 |0,_=>⟨h0,fun h=>⟨h,fun j hj=>absurd hj (Nat.not_lt_zero _)⟩⟩
 | k+1,hk=>by
  obtain⟨g1,g2⟩:=By8 cs n0 h0 hw k (by omega)
  obtain⟨a1,a2,_⟩:=At4 g1 (Abm (hw _ (getD_in cs (Ac TC.cell) k (by omega)))) (m:=5000) (by omega)
  refine⟨a2,fun h=>?_⟩
  have h':=a1 h
  obtain⟨b1,b2⟩:=g2 (by omega)
  refine⟨b1,fun j hj=>?_⟩
  by_cases e:j <k
  ·exact b2 j e
  ·obtain rfl:j=k:=by omega
   show(cs.getD j (Ac TC.cell)).4.size≤5000
   omega
theorem Bdo (rows:List TRow) (i:Nat) (hi:i <rows.length) (n0:Int) (h0:0≤n0) (hl:n0≤5000→(rows.getD i (Ac TC.row)).cells.length≤5000) (hw:∀c∈(rows.getD i (Ac TC.row)).cells,Ar c.value.size):
  AD CN CM EF (Dr (rows,n0,(i:Int),0)) (rows,n0,(i:Int),0)∧
  0≤(JQ (rows,n0,(i:Int),0)).snd.fst∧((JQ (rows,n0,(i:Int),0)).snd.fst≤5000→n0≤5000∧∀c∈(rows.getD i (Ac TC.row)).cells,c.value.size≤5000):=by
 generalize hcs:(rows.getD i (Ac TC.row)).cells=cs at*
 have hcs2:(rows.getD i (Ac TC.row)).2=cs:=hcs
 have hgo:∀k:Nat,D9 rows (nk cs n0 k) (i:Int) (k:Int)=(decide (k <cs.length)&&!!decide (nk cs n0 k≤5000)):=fun k=>by
  unfold D9
  rw[Int.toNat_natCast,hcs2,nn,nn,M9]
 obtain⟨h1,k,hk,hx,hs,hst,_⟩:=IW (fun k=>((rows,nk cs n0 k,(i:Int),(k:Int)):Cp)) cs.length (fun k=>!decide (nk cs n0 k≤5000)) CN CM EF (Dr (rows,n0,(i:Int),0)) (rows,n0,(i:Int),0) rfl
  (by show cs.length≤(((rows.getD ((i:Int)).toNat (Ac TC.row)).2.length:Int) - 0).toNat;rw[Int.toNat_natCast,hcs2];omega)
  (fun k _ _=>by
   show D9 rows (nk cs n0 k) (i:Int) (k:Int)=_
   rw[hgo])
  (fun k hk hs=>by
   have h5:n0≤5000:=by
    have:=hs 0 (Nat.succ_pos k)
    rw[Bool.not_eq_false'] at this
    exact of_decide_eq_true this
   have:=hl h5
   show(rows,Mm rows (nk cs n0 k) (i:Int) (k:Int),(i:Int),IntKind.i64.wrap ((k:Int)+1))=(rows,nk cs n0 (k+1),(i:Int),((k+1:Nat):Int))
   rw[Fd (by omega)]
   unfold Mm
   rw[Int.toNat_natCast,Int.toNat_natCast,hcs2]
   rfl)
  (fun k _ _=>Aa (by show(0:Int)≤(i:Int)∧(i:Int) <(rows.length:Int);omega) (Aa (fun _=>by show(0:Int)≤(i:Int)∧(i:Int) <(rows.length:Int);omega) (Aa (fun h=>by
   have h':D9 rows (nk cs n0 k) (i:Int) (k:Int)=true:=h
   rw[hgo,Bool.and_eq_true] at h'
   have:=of_decide_eq_true h'.1
   show(0:Int)≤(k:Int)∧(k:Int) <((rows.getD ((i:Int)).toNat (Ac TC.row)).2.length:Int)
   rw[Int.toNat_natCast,hcs2]
   omega) Ad)))
 have hr:JQ (rows,n0,(i:Int),0)=(rows,nk cs n0 k,(i:Int),(k:Int)):=hx
 obtain⟨g1,g2⟩:=By8 cs n0 h0 hw k hk
 rw[hr]
 refine⟨h1,g1,fun h=>?_⟩
 obtain⟨b1,b2⟩:=g2 h
 refine⟨b1,fun c hc=>?_⟩
 have hkn:k=cs.length:=by
  rcases Nat.lt_or_ge k cs.length with h'|h'
  ·have:=hst h'
   rw[decide_eq_true h] at this
   cases this
  ·omega
 obtain⟨j,hj,rfl⟩:=List.mem_iff_getElem.1 hc
 have:=b2 j (by omega)
 rw[List.getD_eq_getElem?_getD,List.getElem?_eq_getElem hj] at this
 exact this
def nr (rows:List TRow) (n0:Int):Nat→Int
 |0=>n0
 |i+1=>Gs rows (nr rows n0 i) (i:Int)
theorem Av0 (rows:List TRow) (i:Nat) (hi:i <rows.length) (n:Int) (hn:0≤n) (hw:Yy (rows.getD i (Ac TC.row))):
  AD CN CM EF (Dr (rows,Ap (Ap n ((rows.getD i (Ac TC.row)).1.size:Int) 5000) ((rows.getD i (Ac TC.row)).2.length:Int) 5000,(i:Int),0)) (rows,Ap (Ap n ((rows.getD i (Ac TC.row)).1.size:Int) 5000) ((rows.getD i (Ac TC.row)).2.length:Int) 5000,(i:Int),0)∧
  0≤Gs rows n (i:Int)∧(Gs rows n (i:Int)≤5000→n≤5000∧Yt 5000 (rows.getD i (Ac TC.row))):=by
 obtain⟨w1,w2,w3⟩:=hw
 obtain⟨a1,a2,_⟩:=At4 (k:=((rows.getD i (Ac TC.row)).1.size:Int)) hn (Abm w1) (m:=5000) (by omega)
 obtain⟨c1,c2,_⟩:=At4 (k:=((rows.getD i (Ac TC.row)).2.length:Int)) a2 (Abm w2) (m:=5000) (by omega)
 obtain⟨g1,g2,g3⟩:=Bdo rows i hi _ c2 (fun h=>by have:=c1 h;show(rows.getD i (Ac TC.row)).2.length≤5000;omega) w3
 unfold Gs
 rw[Int.toNat_natCast]
 refine⟨g1,g2,fun h=>?_⟩
 obtain⟨h1,h2⟩:=g3 h
 have q1:=c1 h1
 have q2:=a1 (by omega)
 exact⟨by omega,by show(rows.getD i (Ac TC.row)).1.size≤5000;omega,by show(rows.getD i (Ac TC.row)).2.length≤5000;omega,h2⟩
theorem Bs6 (rows:List TRow) (n0:Int) (h0:0≤n0) (hw:∀r∈rows,Yy r):∀k,k≤rows.length→0≤nr rows n0 k∧(nr rows n0 k≤5000→n0≤5000∧∀j,j <k→Yt 5000 (rows.getD j (Ac TC.row)))
 |0,_=>⟨h0,fun h=>⟨h,fun j hj=>absurd hj (Nat.not_lt_zero _)⟩⟩
 | k+1,hk=>by
  obtain⟨g1,g2⟩:=Bs6 rows n0 h0 hw k (by omega)
  obtain⟨_,a2,a3⟩:=Av0 rows k (by omega) (nr rows n0 k) g1 (hw _ (getD_in rows (Ac TC.row) k (by omega)))
  refine⟨a2,fun h=>?_⟩
  obtain⟨h1,h2⟩:=a3 h
  obtain⟨b1,b2⟩:=g2 h1
  refine⟨b1,fun j hj=>?_⟩
  by_cases e:j <k
  ·exact b2 j e
  ·obtain rfl:j=k:=by omega
   exact h2
theorem Bsq (l:List TGroup) (rows:List TRow) (hl:Ar l.length) (hr:Ar rows.length) (hw:∀r∈rows,Yy r):(∀p∈Agd l rows,p)∧(Qw l rows=true→l.length≤5000∧∀r∈rows,Yt 5000 r):=by
 have hr':=hr
 unfold Ar at hr'
 obtain⟨a1,a2,_⟩:=At4 (n:=0) (k:=(l.length:Int)) (Int.le_refl _) (Abm hl) (m:=5000) (by omega)
 generalize hn0:Ap 0 (l.length:Int) 5000=n0 at*
 have hgo:∀k:Nat,Be rows (nr rows n0 k) (k:Int)=(decide (k <rows.length)&&!!decide (nr rows n0 k≤5000)):=fun k=>by
  unfold Be
  rw[nn,nn,M9]
 obtain⟨h1,k,hk,hx,hs,hst,_⟩:=IW (fun k=>((rows,nr rows n0 k,(k:Int)):Co)) rows.length (fun k=>!decide (nr rows n0 k≤5000)) Fv Fu IM (Hu (rows,n0,0)) (rows,n0,0) rfl
  (by show rows.length≤((rows.length:Int) - 0).toNat;omega)
  (fun k _ _=>by
   show Be rows (nr rows n0 k) (k:Int)=_
   rw[hgo])
  (fun k hk hs=>by
   show(rows,Gs rows (nr rows n0 k) (k:Int),IntKind.i64.wrap ((k:Int)+1))=(rows,nr rows n0 (k+1),((k+1:Nat):Int))
   rw[Fd (by omega)]
   rfl)
  (fun k hk _=>by
   have hin:Be rows (nr rows n0 k) (k:Int)=true→k <rows.length:=fun h=>by
    rw[hgo,Bool.and_eq_true] at h
    exact of_decide_eq_true h.1
   refine Aa (fun h=>?_) (Aa (fun h=>?_) Ad)
   ·have:=hin h
    show(0:Int)≤(k:Int)∧(k:Int) <(rows.length:Int)
    omega
   ·have hk':=hin h
    have:=(Av0 rows k hk' (nr rows n0 k) (Bs6 rows n0 a2 hw k hk).1 (hw _ (getD_in rows (Ac TC.row) k hk'))).1
    have e:((k:Int)).toNat=k:=Int.toNat_natCast k
    show AD CN CM EF (Dr (rows,Ap (Ap (nr rows n0 k) ((rows.getD ((k:Int)).toNat (Ac TC.row)).1.size:Int) 5000) ((rows.getD ((k:Int)).toNat (Ac TC.row)).2.length:Int) 5000,(k:Int),0)) (rows,Ap (Ap (nr rows n0 k) ((rows.getD ((k:Int)).toNat (Ac TC.row)).1.size:Int) 5000) ((rows.getD ((k:Int)).toNat (Ac TC.row)).2.length:Int) 5000,(k:Int),0)
    rw[e]
    exact this)
 have hrun:SE (rows,n0,0)=(rows,nr rows n0 k,(k:Int)):=hx
 refine⟨Aa (by rw[hn0];exact h1) Ad,fun h=>?_⟩
 unfold Qw at h
 rw[hn0,hrun] at h
 have h5:nr rows n0 k≤5000:=of_decide_eq_true h
 obtain⟨b1,b2⟩:=(Bs6 rows n0 a2 hw k hk).2 h5
 have hkn:k=rows.length:=by
  rcases Nat.lt_or_ge k rows.length with h'|h'
  ·have:=hst h'
   rw[decide_eq_true h5] at this
   cases this
  ·omega
 refine⟨by have:=a1 b1;omega,fun r hr=>?_⟩
 obtain⟨j,hj,rfl⟩:=List.mem_iff_getElem.1 hr
 have:=b2 j (by omega)
 rw[List.getD_eq_getElem?_getD,List.getElem?_eq_getElem hj] at this
 exact this
theorem A68 (a0:List TGroup) (a1:List TRow) (hp:∀p∈ZK a0 a1,p):CallOk Try.prog 60 [.sl .group a0,Af .rows a1] 0 [] 1 (Age a0 a1) 0 (Agc a0 a1):=by
 obtain⟨h1,h2,h3⟩:=hp _ (List.mem_cons_self ..)
 exact Bdc a0 a1 (Bsq a0 a1 h1 h2 h3).1
def WB:List A→Nat→Objs→Option A3:=Bg [.l .group,.t .rows] 0 Age Agc ZK
theorem ZL:Fi Try.prog 60 WB:=Aq (ks:=[.l .group,.t .rows]) A68
noncomputable def Bz6:=A4 60 WB Bgq
theorem Bk8:Dd Try.prog Bz6:=Am ZL Atg
def A7b:ByteArray:=ByteArray.mk #[(97:UInt8)]
def A7c:ByteArray:=ByteArray.mk #[(98:UInt8)]
def T4:A:=.sq 0
def T3:Objs:=[(0,some (.arr 79 2 (.lst [[.v (.string A7b),.v (.int .i64 ((1:Int)))],[.v (.string A7c),.v (.int .i64 ((2:Int)))]])))]
def Ro:List Prop:=[]
theorem A1e:Ff (As Bz6 L0) 9 127 [] 0 []=some (1,T4,1,T3,Ro):=by kernel_rfl
theorem A7d (hp:∀p∈Ro,p):CallOk Try.prog 127 [] 0 [] 1 (T4) 1 (T3):=Az (An Bk8 Ay) (A1e) hp
def Agg:List A→Nat→Objs→Option A3:=Bg [] 1 T4 T3 Ro
theorem Avq:Fi Try.prog 127 Agg:=Aq (ks:=[]) A7d
noncomputable def B1x:=A4 127 Agg Bz6
theorem Bvg:Dd Try.prog B1x:=Am Avq Bk8
def WD:A:=.v (.bool (true))
def WC:Objs:=[]
def Agf:List Prop:=[]
theorem A7a:Ff (As B1x L0) 1040 61 [] 0 []=some (1,WD,0,WC,[(Ag (2:Nat)),(true=true→Ag (2:Nat)),(true=true→Ag (1024:Nat)),(false=false),(true=true→false=false),(false=false),(true=true→false=false),(false=false),(true=true→false=false),(false=false)]):=by kernel_rfl
theorem Bdd (_hp:∀p∈Agf,p):CallOk Try.prog 61 [] 0 [] 1 (WD) 0 (WC):=by
 have n0:(Ag (2:Nat)):=by first|rfl|decide+kernel
 have n1:(true=true→Ag (2:Nat)):=by first|rfl|decide+kernel
 have n2:(true=true→Ag (1024:Nat)):=by first|rfl|decide+kernel
 have n3:(false=false):=by first|rfl|decide+kernel
 have n4:(true=true→false=false):=by first|rfl|decide+kernel
 exact Az (An Bvg Ay) (A7a) (Aa n0 (Aa n1 (Aa n2 (Aa n3 (Aa n4 (Aa n3 (Aa n4 (Aa n3 (Aa n4 (Aa n3 Ad))))))))))
def Anw:List A→Nat→Objs→Option A3:=Bg [] 0 WD WC Agf
theorem A1d:Fi Try.prog 61 Anw:=Aq (ks:=[]) Bdd
end Go.Proofs.Yteebobbhhgmeiaa
namespace Go.Proofs.Yteebobbhhgmeiaa
open Go.RowKit
def Jd (a b:ByteArray):Bool:=Op.bytesLess a.toList b.toList
theorem On:∀x:List UInt8,Op.bytesLess x x=false
 | []=>rfl
 |a::x=>by
  unfold Op.bytesLess
  rw[On x]
  simp
theorem Am2:∀{x y z:List UInt8},Op.bytesLess x y=true→Op.bytesLess y z=true→Op.bytesLess x z=true
 |x,[],_,h,_=>by cases x<;>cases h
 |_,_::_,[],_,h=>by cases h
 | [],_::_,_::_,_,_=>rfl
 |a::x,b::y,c::z,h,g=>by
  unfold Op.bytesLess at*
  simp only[Bool.or_eq_true,decide_eq_true_eq,Bool.and_eq_true,beq_iff_eq] at*
  rcases h with h|⟨rfl,h⟩<;>rcases g with g|⟨rfl,g⟩
  ·exact .inl (UInt8.lt_trans h g)
  ·exact .inl h
  ·exact .inl g
  ·exact .inr ⟨rfl,Am2 h g⟩
theorem Am1:∀{x y:List UInt8},Op.bytesLess x y=false→x≠y→Op.bytesLess y x=true
 | [],[],_,h=>absurd rfl h
 | [],_::_,h,_=>by cases h
 |_::_,[],_,_=>rfl
 | a::x,b::y,h,g=>by
  unfold Op.bytesLess at*
  simp only[Bool.or_eq_true,Bool.or_eq_false_iff,decide_eq_true_eq,decide_eq_false_iff_not,Bool.and_eq_true,beq_iff_eq] at*
  obtain⟨h1,h2⟩:=h
  by_cases e:a=b
  ·subst e
   refine .inr ⟨rfl,Am1 (by simpa using h2) fun e=>g (by rw[e])⟩
  ·left
   have h1':¬a.toNat <b.toNat:=h1
   have h3:a.toNat≠b.toNat:=fun h=>e (UInt8.toNat_inj.1 h)
   show b.toNat <a.toNat
   omega
theorem KY {a b c:ByteArray} (h:Jd a b=true) (g:Jd b c=true):Jd a c=true:=Am2 h g
theorem Ua {a b:ByteArray} (h:Jd a b=true):a≠b:=by
 rintro rfl
 unfold Jd at h
 rw[On] at h
 cases h
theorem YR {a b:ByteArray} (h:Jd a b=false) (g:a≠b):Jd b a=true:=by
 refine Am1 h fun e=>g ?_
 have:(a.toList==b.toList)=true:=beq_iff_eq.2 e
 rw[tlb] at this
 exact eq_of_beq this
def LW (l:List TGroup) (i:Nat):Int:=(l.getD i (Ac TC.group)).policy
def Cm (cs:List TCell) (i:Nat):TCell:=cs.getD i (Ac TC.cell)
def C7 (rows:List TRow) (i:Nat):TRow:=rows.getD i (Ac TC.row)
def QF (rows:List TRow):Nat→ByteArray
 |0=>⟨#[]⟩
 |i+1=>(C7 rows i).key
def leS (a b:ByteArray):Bool:=Jd a b||a==b
def Ajr (l:List TGroup) (rows:List TRow) (i:Nat):Int:=bif Ai l (C7 rows i) !=0 then Ai l (C7 rows i) else bif Hn (C7 rows i)||leS (C7 rows i).key (QF rows i) then 100 else 0
def IE (l:List TGroup) (rows:List TRow):Nat→Int
 |0=>0
 |i+1=>bif IE l rows i !=0 then IE l rows i else Ajr l rows i
def Gk (l:List TGroup) (rows:List TRow):Int:=bif AR l !=0 then AR l else IE l rows rows.length
theorem Ava (l:List TGroup) (rows:List TRow):∀n,IE l rows n=0↔∀i,i <n→Ajr l rows i=0
 |0=>⟨fun _ i h=>absurd h (Nat.not_lt_zero _),fun _=>rfl⟩
 | n +1=>by
  have ih:=Ava l rows n
  unfold IE
  cases h:IE l rows n !=0 with
  |true=>
   rw[cond_true]
   have h':IE l rows n≠0:=by simpa using h
   exact⟨fun e=>absurd e h',fun e=>absurd (ih.2 fun i hi=>e i (by omega)) h'⟩
  | false=>
   rw[cond_false]
   have h':IE l rows n=0:=by simpa using h
   constructor
   ·intro e i hi
    rcases Nat.lt_or_ge i n with g|g
    ·exact ih.1 h' i g
    ·obtain rfl:i=n:=by omega
     exact e
   ·intro e
    exact e n (Nat.lt_succ_self n)
theorem Ann {l:List TGroup} {rows:List TRow} {k:Nat} (h:IE l rows k≠0):∀n,k≤n→IE l rows n=IE l rows k
 |0,hn=>by
  obtain rfl:k=0:=by omega
  rfl
 | n+1,hn=>by
  rcases Nat.lt_or_ge n k with g|g
  ·obtain rfl:k=n+1:=by omega
   rfl
  ·have ih:=Ann h n g
   have hb:(IE l rows k !=0)=true:=by simpa using h
   show(bif IE l rows n !=0 then IE l rows n else _)=_
   rw[ih,hb,cond_true]
theorem Ati {l:List TGroup} {rows:List TRow}:Gk l rows=0↔AR l=0∧∀i,i <rows.length→Ajr l rows i=0:=by
 unfold Gk
 cases h:AR l !=0 with
 |true=>
  rw[cond_true]
  have h':AR l≠0:=by simpa using h
  exact⟨fun e=>absurd e h',fun e=>absurd e.1 h'⟩
 |false=>
  rw[cond_false,Ava]
  have h':AR l=0:=by simpa using h
  exact⟨fun e=>⟨h',e⟩,fun e=>e.2⟩
theorem Bhm {l:List TGroup} {rows:List TRow} {i:Nat}:Ajr l rows i=0↔Ai l (C7 rows i)=0∧Hn (C7 rows i)=false∧leS (C7 rows i).key (QF rows i)=false:=by
 unfold Ajr
 cases h:Ai l (C7 rows i) !=0 with
 |true=>
  rw[cond_true]
  have h':Ai l (C7 rows i)≠0:=by simpa using h
  exact⟨fun e=>absurd e h',fun e=>absurd e.1 h'⟩
 |false=>
  rw[cond_false]
  have h':Ai l (C7 rows i)=0:=by simpa using h
  cases Hn (C7 rows i)<;>cases leS (C7 rows i).key (QF rows i)<;>simp[h']
def Om (rows:List TRow):Prop:=rows.Pairwise fun a b=>Jd a.key b.key=true
theorem Ts {rows:List TRow} {i:Nat} (h:i <rows.length):C7 rows i=rows[i]:=by
 unfold C7
 rw[List.getD_eq_getElem?_getD,List.getElem?_eq_getElem h]
 rfl
theorem Bxk {l:List TGroup} {rows:List TRow} (h:∀i,i <rows.length→Ajr l rows i=0):Om rows:=by
 unfold Om
 rw[List.pairwise_iff_getElem]
 have step:∀i,i+1 <rows.length→Jd (C7 rows i).key (C7 rows (i+1)).key=true:=fun i hi=>by
  have:=(Bhm.1 (h (i+1) hi)).2.2
  have h2:leS (C7 rows (i+1)).key (C7 rows i).key=false:=this
  unfold leS at h2
  obtain⟨h3,h4⟩:=Bool.or_eq_false_iff.1 h2
  exact YR h3 (by simpa using h4)
 have far:∀d i,i+d+1 <rows.length→Jd (C7 rows i).key (C7 rows (i+d+1)).key=true:=fun d=>by
  induction d with
  |zero=>intro i hi;exact step i hi
  |succ d ih=>intro i hi;exact KY (ih i (by omega)) (step (i+d+1) (by omega))
 intro i j hi hj hij
 have:=far (j - i - 1) i (by omega)
 rw[show i+(j - i - 1)+1=j by omega,Ts hi,Ts hj] at this
 exact this
theorem A6w {l:List TGroup} {rows:List TRow} (hp:AR l=0) (hg:∀r∈rows,Ai l r=0∧Hn r=false) (hr:Om rows):Gk l rows=0:=by
 refine Ati.2 ⟨hp,fun i hi=>Bhm.2 ?_⟩
 have hm:C7 rows i∈rows:=by rw[Ts hi];exact List.getElem_mem hi
 obtain⟨g1,g2⟩:=hg _ hm
 refine⟨g1,g2,?_⟩
 unfold leS
 cases i with
 | zero=>
  have hk:(C7 rows 0).key.size≠0:=(AJ g1).2.2.1
  rw[Bool.or_eq_false_iff]
  constructor
  ·show Op.bytesLess (C7 rows 0).key.toList (ByteArray.mk #[]).toList=false
   rw[show(ByteArray.mk #[]).toList=[] by decide+kernel]
   cases(C7 rows 0).key.toList<;>rfl
  ·refine beq_eq_false_iff_ne.2 fun e=>hk ?_
   rw[e]
   rfl
 | succ i=>
  have hlt:Jd (C7 rows i).key (C7 rows (i+1)).key=true:=by
   rw[Ts hi,Ts (show i <rows.length by omega)]
   exact List.pairwise_iff_getElem.1 hr i (i+1) _ _ (by omega)
  rw[Bool.or_eq_false_iff]
  constructor
  ·cases h:Jd (C7 rows (i+1)).key (QF rows (i+1)) with
   |false=>rfl
   |true=>exact absurd rfl (Ua (KY hlt h))
  ·exact beq_eq_false_iff_ne.2 fun e=>Ua hlt e.symm
def B07 (p:Int) (st:TVec) (c:TCell):Bool:=!eqC c zeroC&&(Bv p c&&(Afe st (Aci c)&&!K1 p c))
theorem Avc {l:List TGroup} {r:TRow} (h1:AR l=0) (h2:r.key.size≠0) (h3:r.key.size≤32) (h4:r.cells.length=l.length) (h5:(l.zip r.cells).all (fun x=>Bv x.1.policy x.2)=true):Ai l r=0:=by
 unfold Ai
 have g1:(AR l !=0)=false:=by rw[h1];rfl
 have g2:(r.key.size==0)=false:=by simpa using h2
 have g4:(r.cells.length !=l.length)=false:=by rw[h4];simp
 rw[g1,g2,decide_eq_false (by omega),g4,h5]
 rfl
theorem A6v {l:List TGroup} {cs:List TCell} (hl:cs.length=l.length):(l.zip cs).all (fun x=>Bv x.1.policy x.2)=true↔∀i,i <l.length→Bv (LW l i) (Cm cs i)=true:=by
 rw[Bzd l cs (Ac TC.group) (Ac TC.cell) (fun g c=>Bv g.policy c) hl,Hm]
 exact Iff.rfl
end Go.Proofs.Yteebobbhhgmeiaa
namespace Go.Proofs.Yteebobbhhgmeiaa
open Go.RowKit
def Lex (r e s:Prop):Prop:=r∨(e∧s)
theorem SY {r1 r2 r3 e1 e2 e3 s1 s2 s3:Prop} (hr:r1→r2→r3) (hre:r1→e2→r3) (her:e1→r2→r3) (hee:e1→e2→e3) (hs:s1→s2→s3):Lex r1 e1 s1→Lex r2 e2 s2→Lex r3 e3 s3
 | .inl a,.inl b=> .inl (hr a b)
 | .inl a,.inr b=> .inl (hre a b.1)
 | .inr a,.inl b=> .inl (her a.1 b)
 | .inr a,.inr b=> .inr ⟨hee a.1 b.1,hs a.2 b.2⟩
theorem SX {r1 r2 e1 e2 s1 s2 t e:Prop} (h:r1∨e∨r2) (h1:e→e1) (h2:e→e2) (hs:s1∨t∨s2):Lex r1 e1 s1∨(e∧t)∨Lex r2 e2 s2:=by
 rcases h with h|h|h
 ·exact .inl (.inl h)
 ·rcases hs with g|g|g
  ·exact .inl (.inr ⟨h1 h,g⟩)
  ·exact .inr (.inl ⟨h,g⟩)
  ·exact .inr (.inr (.inr ⟨h2 h,g⟩))
 ·exact .inr (.inr (.inl h))
def UP (a b:TCell):Prop:=
 Lex (a.stamp.n <b.stamp.n) (a.stamp.n=b.stamp.n) (Lex (a.stamp.site <b.stamp.site) (a.stamp.site=b.stamp.site) (Lex (a.gone=false∧b.gone=true) (a.gone=b.gone) (Lex (Jd a.value b.value=true) (a.value=b.value) (Lex (a.vec.a <b.vec.a) (a.vec.a=b.vec.a) (a.vec.b <b.vec.b)))))
theorem Ack {a b c:TCell}:UP a b→UP b c→UP a c:=
 SY (by omega) (by omega) (by omega) (by omega) (SY (by omega) (by omega) (by omega) (by omega)
  (SY (fun h g=>by rw[h.2] at g;exact absurd g.1 (by decide)) (fun h g=>⟨h.1,g▸h.2⟩) (fun h g=>⟨h▸g.1,g.2⟩) (fun h g=>h.trans g)
   (SY KY (fun h g=>g▸h) (fun h g=>h▸g) (fun h g=>h.trans g) (SY (by omega) (by omega) (by omega) (by omega) (by omega)))))
theorem Bdk {a:TCell} (h:UP a a):False:=by
 rcases h with h|⟨_,h|⟨_,h|⟨_,h|⟨_,h|⟨_,h⟩⟩⟩⟩⟩
 ·omega
 ·omega
 ·rw[h.1] at h;exact absurd h.2 (by decide)
 ·exact Ua h rfl
 ·omega
 ·omega
def Bzb (a b:TCell):Prop:=a.stamp.n=b.stamp.n∧a.stamp.site=b.stamp.site∧a.gone=b.gone∧a.value=b.value∧a.vec.a=b.vec.a∧a.vec.b=b.vec.b
theorem Avx (a b:TCell):UP a b∨Bzb a b∨UP b a:=by
 refine SX (by omega) id Eq.symm (SX (by omega) id Eq.symm (SX ?_ id Eq.symm (SX ?_ id Eq.symm (SX (by omega) id Eq.symm (by omega)))))
 ·cases a.gone<;>cases b.gone<;>simp
 ·by_cases h:a.value=b.value
  ·exact .inr (.inl h)
  ·cases h1:Jd a.value b.value with
   |true=>exact .inl rfl
   |false=>exact .inr (.inr (YR h1 h))
def Jv (a b:TCell):Bool:=
 bif !(a.stamp.n==b.stamp.n&&a.stamp.site==b.stamp.site) then decide (a.stamp.n <b.stamp.n)||(a.stamp.n==b.stamp.n&&decide (a.stamp.site <b.stamp.site))
 else bif a.gone !=b.gone then b.gone
 else bif !(a.value==b.value) then Jd a.value b.value
 else bif a.vec.a !=b.vec.a then decide (a.vec.a <b.vec.a)
 else decide (a.vec.b <b.vec.b)
theorem A37 {a b:TCell}:Jv a b=true↔UP a b:=by
 unfold Jv UP Lex
 by_cases h1:a.stamp.n=b.stamp.n
 ·by_cases h2:a.stamp.site=b.stamp.site
  ·have e:(a.stamp.n==b.stamp.n&&a.stamp.site==b.stamp.site)=true:=by rw[h1,h2];simp
   rw[e,Bool.not_true,cond_false]
   simp only[h1,h2,false_or,true_and,Int.lt_irrefl]
   by_cases h3:a.gone=b.gone
   ·have e3:(a.gone !=b.gone)=false:=by rw[h3];simp
    have n3:¬(a.gone=false∧b.gone=true):=by rw[h3];rintro⟨x,y⟩;rw[x] at y;cases y
    rw[e3,cond_false]
    have n3':¬(b.gone=false∧b.gone=true):=by rintro⟨x,y⟩;rw[x] at y;cases y
    simp only[h3,n3',false_or,true_and]
    by_cases h4:a.value=b.value
    ·have e4:(a.value==b.value)=true:=beq_iff_eq.2 h4
     rw[e4,Bool.not_true,cond_false]
     simp only[h4,true_and]
     have n4':¬Jd b.value b.value=true:=fun h=>Ua h rfl
     simp only[n4',Bool.false_eq_true,false_or]
     by_cases h5:a.vec.a=b.vec.a
     ·have e5:(a.vec.a !=b.vec.a)=false:=by rw[h5];simp
      rw[e5,cond_false,decide_eq_true_eq]
      omega
     ·have e5:(a.vec.a !=b.vec.a)=true:=by simpa using h5
      rw[e5,cond_true,decide_eq_true_eq]
      omega
    ·have e4:(a.value==b.value)=false:=beq_eq_false_iff_ne.2 h4
     rw[e4,Bool.not_false,cond_true]
     simp only[h4,false_and,or_false]
   ·have e3:(a.gone !=b.gone)=true:=by simpa using h3
    rw[e3,cond_true]
    simp only[h3,false_and,or_false]
    revert h3
    cases a.gone<;>cases b.gone<;>simp
  ·have e:(a.stamp.n==b.stamp.n&&a.stamp.site==b.stamp.site)=false:=by rw[beq_eq_false_iff_ne.2 h2,Bool.and_false]
   rw[e,Bool.not_false,cond_true]
   simp[h1,h2]
 ·have e:(a.stamp.n==b.stamp.n&&a.stamp.site==b.stamp.site)=false:=by rw[beq_eq_false_iff_ne.2 h1,Bool.false_and]
  rw[e,Bool.not_false,cond_true]
  simp[h1]
def F8 (a b:TCell):TCell:=bif Jv a b then b else a
def HI (a b:TCell):TCell:=⟨(F8 a b).stamp,(F8 a b).vec,(F8 a b).gone,(F8 a b).value,KU a.dead b.dead⟩
def OC (a:TCell):TCell:=⟨a.stamp,a.vec,a.gone,a.value,⟨0,0⟩⟩
theorem Bae {a b:TCell} (h:Bzb a b):OC a=OC b:=by
 obtain⟨⟨an,asi⟩,⟨ava,avb⟩,ag,av,ad⟩:=a
 obtain⟨⟨bn,bsi⟩,⟨bva,bvb⟩,bg,bv,bd⟩:=b
 obtain⟨h1,h2,h3,h4,h5,h6⟩:=h
 simp only at h1 h2 h3 h4 h5 h6
 subst h1 h2 h3 h4 h5 h6
 rfl
def mkC (w:TCell) (d:TVec):TCell:=⟨w.stamp,w.vec,w.gone,w.value,d⟩
theorem A0n (a b:TCell):HI a b=mkC (OC (F8 a b)) (KU a.dead b.dead):=rfl
theorem Bdl {a b:TCell}:UP a (OC b)↔UP a b:=Iff.rfl
theorem Gw (a b:TCell):(UP a b∧F8 a b=b)∨(¬UP a b∧F8 a b=a):=by
 unfold F8
 cases h:Jv a b with
 |true=>exact .inl ⟨A37.1 h,rfl⟩
 |false=>exact .inr ⟨fun g=>(by rw[A37.2 g] at h;cases h),rfl⟩
theorem Bsv (a b:TCell):OC (F8 a b)=OC (F8 b a):=by
 rcases Gw a b with⟨h,e⟩|⟨h,e⟩<;>rcases Gw b a with⟨g,f⟩|⟨g,f⟩<;>rw[e,f]
 ·exact(Bdk (Ack h g)).elim
 ·rcases Avx a b with q|q|q
  ·exact absurd q h
  ·exact Bae q
  ·exact absurd q g
theorem Akv (a b:TCell):OC (F8 a b)=F8 (OC a) (OC b):=by
 have:Jv (OC a) (OC b)=Jv a b:=rfl
 unfold F8
 rw[this]
 cases Jv a b<;>rfl
theorem max_assoc (a b c:TCell):OC (F8 (F8 a b) c)=OC (F8 a (F8 b c)):=by
 rcases Gw a b with⟨h,e⟩|⟨h,e⟩<;>rcases Gw b c with⟨g,f⟩|⟨g,f⟩
 ·rw[e,f]
  rcases Gw a c with⟨_,q⟩|⟨r,_⟩
  ·rw[q]
  ·exact absurd (Ack h g) r
 ·rw[e,f,e]
 ·rw[e,f]
 ·rw[e,f,e]
  rcases Gw a c with⟨r,q⟩|⟨_,q⟩
  ·rcases Avx b c with t|t|t
   ·exact absurd t g
   ·have:=Bae t
    rw[←Bdl (b:=c),←this] at r
    exact absurd (Bdl.1 r) h
   ·exact absurd (Ack r t) h
  ·rw[q]
theorem Bpo (a b:TVec):KU a b=KU b a:=by
 unfold KU
 congr 1<;>omega
theorem Bkd (a b c:TVec):KU (KU a b) c=KU a (KU b c):=by
 unfold KU
 congr 1<;>simp only<;>omega
theorem But (a b:TCell):HI a b=HI b a:=by
 rw[A0n,A0n b a,Bsv,Bpo]
theorem Buw (a b:TCell):OC (HI a b)=OC (F8 a b):=rfl
theorem A5e (a b c:TCell):HI (HI a b) c=HI a (HI b c):=by
 have l:OC (F8 (HI a b) c)=OC (F8 (F8 a b) c):=by rw[Akv,Akv (F8 a b) c,Buw]
 have r:OC (F8 a (HI b c))=OC (F8 a (F8 b c)):=by rw[Akv,Akv a (F8 b c),Buw]
 have h:=l.trans ((max_assoc a b c).trans r.symm)
 show mkC (OC (F8 (HI a b) c)) (KU (KU a.dead b.dead) c.dead)=mkC (OC (F8 a (HI b c))) (KU a.dead (KU b.dead c.dead))
 rw[h,Bkd]
theorem Bsw (a:TCell):F8 a a=a:=by
 rcases Gw a a with⟨_,e⟩|⟨_,e⟩<;>exact e
def Bgm (c:TCell):Bool:=bif !BR c then true else HJ c.stamp&&decide (0 <c.stamp.n)&&CL c.vec&&decide ((c.value.size:Int)≤64)&&!(c.gone&&!(c.value.size==0))
theorem Au9 {p:Int} {c:TCell}:Bv p c=true↔((p=1∧c.dead=⟨0,0⟩)∨(p=2∧c.gone=false∧CL c.dead=true))∧Bgm c=true:=by
 unfold Bv
 show(bif p==1&&!G8 c.dead||(p==2&&(c.gone||!CL c.dead)||!(p==1||p==2)) then false else Bgm c)=true↔_
 by_cases h1:p=1
 ·subst h1
  have e:((1:Int)==1&&!G8 c.dead||((1:Int)==2&&(c.gone||!CL c.dead)||!((1:Int)==1||(1:Int)==2)))=!G8 c.dead:=by
   cases G8 c.dead<;>rfl
  rw[e,←A5l]
  cases G8 c.dead<;>simp
 ·by_cases h2:p=2
  ·subst h2
   have e:((2:Int)==1&&!G8 c.dead||((2:Int)==2&&(c.gone||!CL c.dead)||!((2:Int)==1||(2:Int)==2)))=(c.gone||!CL c.dead):=by
    cases c.gone<;>cases CL c.dead<;>rfl
   rw[e]
   cases c.gone<;>cases CL c.dead<;>simp
  ·have e1:(p==1)=false:=beq_eq_false_iff_ne.2 h1
   have e2:(p==2)=false:=beq_eq_false_iff_ne.2 h2
   rw[e1,e2]
   simp[h1,h2]
theorem Bpp {a b:TVec} (h:CL a=true) (g:CL b=true):CL (KU a b)=true:=by
 unfold CL KU at*
 simp only[Bool.and_eq_true,decide_eq_true_eq] at*
 omega
theorem Bpq {a:TVec} (h:CL a=true):KU a a=a:=by
 unfold CL at h
 unfold KU
 simp only[Bool.and_eq_true,decide_eq_true_eq] at h
 exact Baa (by show max (max 0 a.a) a.a=a.a;omega) (by show max (max 0 a.b) a.b=a.b;omega)
theorem Buu {p:Int} {a b:TCell} (h:Bv p a=true) (g:Bv p b=true):Bv p (HI a b)=true:=by
 rw[Au9] at h g⊢
 obtain⟨h1,h2⟩:=h
 obtain⟨g1,g2⟩:=g
 have hw:Bgm (HI a b)=true:=by
  show Bgm (F8 a b)=true
  rcases Gw a b with⟨_,e⟩|⟨_,e⟩<;>rw[e]
  ·exact g2
  ·exact h2
 refine⟨?_,hw⟩
 rcases h1 with⟨hp,h1⟩|⟨hp,h1,h3⟩
 ·rcases g1 with⟨_,g1⟩|⟨gp,_⟩
  ·refine .inl ⟨hp,?_⟩
   show KU a.dead b.dead=_
   rw[h1,g1]
   rfl
  ·omega
 ·rcases g1 with⟨gp,_⟩|⟨_,g1,g3⟩
  ·omega
  ·refine .inr ⟨hp,?_,Bpp h3 g3⟩
   show(F8 a b).gone=false
   rcases Gw a b with⟨_,e⟩|⟨_,e⟩<;>rw[e]
   ·exact g1
   ·exact h1
theorem A3v {p:Int} {a:TCell} (h:Bv p a=true):CL a.dead=true:=by
 rcases(Au9.1 h).1 with⟨_,h1⟩|⟨_,_,h1⟩
 ·rw[h1];rfl
 ·exact h1
theorem Buv {p:Int} {a:TCell} (h:Bv p a=true):HI a a=a:=by
 rw[A0n,Bsw,Bpq (A3v h)]
 rfl
theorem Bdt {p:Int} {a:TCell} (h:Bv p a=true):OC (F8 zeroC a)=OC a:=by
 rcases Gw zeroC a with⟨_,e⟩|⟨q,e⟩
 ·rw[e]
 ·rw[e]
  have hw:=(Au9.1 h).2
  cases hwr:BR a with
  |true=>
   unfold Bgm at hw
   rw[hwr] at hw
   simp only[Bool.not_true,cond_false,Bool.and_eq_true,decide_eq_true_eq] at hw
   exact absurd (.inl hw.1.1.1.2) q
  |false=>
   unfold BR at hwr
   simp only[Bool.not_eq_false',Bool.and_eq_true,beq_iff_eq,Bool.not_eq_true'] at hwr
   obtain⟨⟨⟨h1,h2⟩,h3,h4⟩,h5,h6⟩:=hwr
   exact Bae ⟨h1.symm,h2.symm,h5.symm,(B24 h6).symm,h3.symm,h4.symm⟩
def Lk (a b:TCell):TCell:=mkC (OC (F8 (F8 zeroC a) b)) (KU a.dead b.dead)
theorem A35 {p:Int} {a b:TCell} (h:Bv p a=true):Lk a b=HI a b:=by
 unfold Lk
 rw[A0n,Akv (F8 zeroC a),Bdt h,←Akv]
def jnN (us ws:List TCell):Nat→List TCell
 |0=>us
 |i+1=>(jnN us ws i).set i (Lk (Cm (jnN us ws i) i) (Cm ws i))
theorem Af2 (us ws:List TCell):∀i,(jnN us ws i).length=us.length
 |0=>rfl
 |i+1=>by
  unfold jnN
  rw[List.length_set,Af2 us ws i]
theorem Bhy (us ws:List TCell) (j:Nat) (hj:j <us.length):∀i,Cm (jnN us ws i) j=bif decide (j <i) then Lk (Cm us j) (Cm ws j) else Cm us j
 |0=>rfl
 | i+1=>by
  have ih:=Bhy us ws j hj i
  unfold jnN
  unfold Cm at ih⊢
  rw[List.getD_eq_getElem?_getD,List.getElem?_set,Af2]
  by_cases e:i=j
  ·subst e
   rw[if_pos rfl,if_pos hj,decide_eq_true (by omega)]
   rw[decide_eq_false (Nat.lt_irrefl _),cond_false] at ih
   show Lk ((jnN us ws i).getD i (Ac TC.cell)) _=_
   rw[ih]
   rfl
  ·rw[if_neg e,←List.getD_eq_getElem?_getD,ih]
   congr 1
   exact decide_eq_decide.2 (by omega)
def jnR (a b:TRow):TRow:=⟨a.key,jnN a.cells b.cells b.cells.length⟩
def jnE (l:List TGroup) (a b:TRow):Int:=bif Ai l a !=0 then Ai l a else bif Ai l b !=0 then Ai l b else bif !(a.key==b.key) then 100 else 0
theorem Bc7 {l:List TGroup} {a b:TRow}:jnE l a b=0↔Ai l a=0∧Ai l b=0∧a.key=b.key:=by
 unfold jnE
 cases h:Ai l a !=0 with
 |true=>
  rw[cond_true]
  have h':Ai l a≠0:=by simpa using h
  exact⟨fun e=>absurd e h',fun e=>absurd e.1 h'⟩
 | false=>
  rw[cond_false]
  have h':Ai l a=0:=by simpa using h
  cases g:Ai l b !=0 with
  |true=>
   rw[cond_true]
   have g':Ai l b≠0:=by simpa using g
   exact⟨fun e=>absurd e g',fun e=>absurd e.2.1 g'⟩
  | false=>
   rw[cond_false]
   have g':Ai l b=0:=by simpa using g
   by_cases k:a.key=b.key
   ·rw[beq_iff_eq.2 k]
    exact⟨fun _=>⟨h',g',k⟩,fun _=>rfl⟩
   ·rw[beq_eq_false_iff_ne.2 k]
    exact⟨fun e=>(by cases e),fun e=>absurd e.2.2 k⟩
theorem Bnv {us ws:List TCell} (hl:us.length=ws.length) (h:∀i,i <us.length→Cm us i=Cm ws i):us=ws:=by
 refine List.ext_getElem hl fun i h1 h2=>?_
 have:=h i h1
 unfold Cm at this
 rw[List.getD_eq_getElem?_getD,List.getD_eq_getElem?_getD,List.getElem?_eq_getElem h1,List.getElem?_eq_getElem h2] at this
 exact this
theorem Jq {l:List TGroup} {r:TRow} (h:Ai l r=0) {i:Nat} (hi:i <l.length):Bv (LW l i) (Cm r.cells i)=true:=
 (A6v (AJ h).2.1).1 (AJ h).2.2.2.2 i hi
theorem Wp {l:List TGroup} {a b:TRow} (ha:Ai l a=0) (hb:Ai l b=0) {i:Nat} (hi:i <l.length):Cm (jnR a b).cells i=HI (Cm a.cells i) (Cm b.cells i):=by
 have h1:=(AJ ha).2.1
 have h2:=(AJ hb).2.1
 show Cm (jnN a.cells b.cells b.cells.length) i=_
 rw[Bhy _ _ i (by omega),decide_eq_true (by omega),cond_true,A35 (Jq ha hi)]
theorem Af3 {l:List TGroup} {a b:TRow} (ha:Ai l a=0):(jnR a b).cells.length=l.length:=by
 show(jnN a.cells b.cells b.cells.length).length=_
 rw[Af2]
 exact(AJ ha).2.1
theorem Pa {l:List TGroup} {a b:TRow} (ha:Ai l a=0) (hb:Ai l b=0):Ai l (jnR a b)=0:=by
 obtain⟨h1,h2,h3,h4,_⟩:=AJ ha
 refine Avc h1 h3 h4 (Af3 ha) ((A6v (Af3 ha)).2 fun i hi=>?_)
 rw[Wp ha hb hi]
 exact Buu (Jq ha hi) (Jq hb hi)
theorem Bxo {l:List TGroup} {x y:TRow} (hk:x.key=y.key) (hx:x.cells.length=l.length) (hy:y.cells.length=l.length) (h:∀i,i <l.length→Cm x.cells i=Cm y.cells i):x=y:=by
 have:=Bnv (hx.trans hy.symm) fun i hi=>h i (by omega)
 cases x;cases y
 simp only at hk this
 rw[hk,this]
theorem Bsn {l:List TGroup} {a b c:TRow} (ha:Ai l a=0) (hb:Ai l b=0) (hc:Ai l c=0):jnR (jnR a b) c=jnR a (jnR b c):=
 Bxo (l:=l) rfl (Af3 (Pa ha hb)) (Af3 ha) fun i hi=>by
  rw[Wp (Pa ha hb) hc hi,Wp ha (Pa hb hc) hi,Wp ha hb hi,Wp hb hc hi,A5e]
end Go.Proofs.Yteebobbhhgmeiaa
