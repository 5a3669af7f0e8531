/-
  A part of the proof of FnTop (texts of one proof, joined).
-/
import Derived.Test.YtijadclebjcckaaGreatJ17
import Derived.Test.YtijadclebjcckaaGreatJ18
namespace Go.Proofs.YtijadclebjcckaaGreat
set_option linter.all false
set_option maxRecDepth 100000
set_option maxHeartbeats 16000000
section
open Go.RowKit Go.Lib
def quT (k n : Nat) (l : List Cls) (t : Nat) : List Cls:=(l.take t).foldl (fun out x=>quS k n x out) []
theorem quT_succ (k n : Nat) (l : List Cls) {t : Nat} (h : t < l.length) : quT k n l (t+1)=quS k n (l.getD t clD) (quT k n l t):=by
 unfold quT
 rw [takeI_snoc l clD h,List.foldl_append]
 rfl
def KeyP (s : List Int) : Prop:=s=s.getD 0 0 :: s.drop 1 ∧ -1000000≤s.getD 0 0∧s.getD 0 0≤1000000
theorem sumdL_keys (s : List Int) (c : Int) : ∀ cs : List Cls,∀ x ∈ sumdL s c cs,x.1=s ∨ ∃ y ∈ cs,x.1=y.1
 | [],x,hx=>by unfold sumdL at hx;rw [List.mem_singleton] at hx;exact .inl (by rw [hx])
 | y :: l,x,hx=>by
   unfold sumdL at hx
   split at hx
   ·rcases List.mem_cons.1 hx with rfl | hx
    ·exact .inr ⟨x,List.mem_cons_self,rfl⟩
    ·exact (sumdL_keys s c l x hx).imp id fun ⟨z,hz,h⟩=>⟨z,List.mem_cons_of_mem _ hz,h⟩
   ·split at hx
    ·rcases List.mem_cons.1 hx with rfl | hx
     ·rename_i h;exact .inl rfl
     ·exact .inr ⟨x,List.mem_cons_of_mem _ hx,rfl⟩
    ·rcases List.mem_cons.1 hx with rfl | hx
     ·exact .inl rfl
     ·exact .inr ⟨x,hx,rfl⟩
def KeyQ (cs : List Cls) : Prop:=∀ x ∈ cs,KeyP x.1
theorem KeyQ.sumd {cs : List Cls} (h : KeyQ cs) {s : List Int} (hs : KeyP s) (c : Int) : KeyQ (sumdL s c cs):=fun x hx=>by
 rcases sumdL_keys s c cs x hx with e | ⟨y,hy,e⟩
 ·rw [e];exact hs
 ·rw [e];exact h y hy
theorem KeyQ.at {cs : List Cls} (h : KeyQ cs) : ∀ a,a < cs.length→(cs.getD a clD).1=(cs.getD a clD).1.getD 0 0 :: (cs.getD a clD).1.drop 1 ∧ -1000000≤(cs.getD a clD).1.getD 0 0∧(cs.getD a clD).1.getD 0 0≤1000000:=fun a ha=>h _ (getDI_in ha)
def quC (a b : List Int) (k n : Nat) : Bool :=
 decide ((fsL a b k 14).length < 1000) && decide ((filL a b k 14).length≤900) && (filL a b k 14).all fun x=>shOk x.1 && decide (x.1.length≤k) && decide (0≤x.2∧x.2≤1000000)
theorem quL_T (a b : List Int) (k n : Nat) : quL a b k n=quT k n (filL a b k 14) (filL a b k 14).length:=by
 unfold quT quL
 rw [List.take_of_length_le (Nat.le_refl _)]
theorem BdP.up {cs : List Cls} {m : Nat} (h : BdP cs m) : BdP cs (m+1):=by
 refine ⟨by have:=h.1;omega,fun x hx=> ?_⟩
 have:=h.2 x hx
 have h0 : (0 : Int)≤wC:=by decide
 have e : ((m+1 : Nat) : Int) * wC=(m : Int) * wC+wC:=by push_cast;rw [Int.add_mul];omega
 omega
theorem OwnQ.made0 (w : World) : OwnQ (w.alloc (.cells #[] 83)) w.heap.size w.heap.size (w.alloc (.cells #[] 83)).heap.size (.slice (some ⟨w.heap.size,0,none⟩) 0 0) [] :=
 ⟨fun _=>.slice none 0 0,⟨[],⟨⟨rfl,.inr ⟨w.heap.size,0,#[],rfl,Nat.le_refl _,heap_alloc_top _ _,Nat.le_refl _,Nat.zero_le _,rfl,rfl⟩⟩,fun k hk=>by
   have : w.heap.size=k:=by injection hk
   rw [size_alloc];omega⟩,fun i hi=>absurd hi (Nat.not_lt_zero _)⟩,fun i hi=>absurd hi (Nat.not_lt_zero _)⟩
theorem OwnQ.blk {w : World} {lo lo2 hi : Nat} {v : Value} {cs : List Cls} (h : OwnQ w lo lo2 hi v cs) {b : Nat} (hb : v.ownBlock=some b) : lo≤b∧b < hi:=by
 obtain ⟨g,⟨xs,q1,_⟩,_⟩:=h
 exact ⟨(q1.block hb).1,(q1.block hb).2.1⟩
theorem Frm.bel {a b : Nat} {w0 w w' : World} (hf : Frm a b w0 w) (hb : Below w.heap.size w w') : Frm a b w0 w' :=
 ⟨hb.os.trans hf.os,hb.tape.trans hf.tape,hb.output.trans hf.output,Nat.le_trans hf.size hb.size,fun k hk ho=>(hb.block k (Nat.lt_of_lt_of_le hk hf.size)).trans (hf.block k hk ho)⟩
theorem wrS_rng (sh : List Int) (k n : Nat) : -1≤wrS sh k n∧wrS sh k n≤1:=by
 unfold wrS
 omega
theorem QuantumProduct_any (va vb : Value) (a b : List Int) (k n : Nat) (w : World) (ha : Ints w va a) (hb : Ints w vb b) (hxa : bxOk a k n=true) (hxb : bxOk b k n=true) (h1 : 1≤k) (hk : k≤n) (h7 : n≤7) (hc : quC a b k n=true) :
 Calls Tryz.prog 47 #[va,vb,.int .i64 (k : Int),.int .i64 (n : Int)] w fun e w'=> ∃ u,e=.returned (.tuple #[u,.bool true])∧RdQ w' u ((quL a b k n).filter nzB)∧KeyQ ((quL a b k n).filter nzB)∧Below w.heap.size w w':=by
 have HXa:=Lib.hid (show ∀ wx,Qt w wx→Calls Tryz.prog 23 #[va,.int .i64 (k : Int),.int .i64 (n : Int)] wx fun e w'=>e=.returned (.bool true)∧Qt wx w' from fun wx hq=>hxa ▸ IsInBox_any va a k n wx (ha.qt hq) hk (by omega) h7)
 have HXb:=Lib.hid (show ∀ wx,Qt w wx→Calls Tryz.prog 23 #[vb,.int .i64 (k : Int),.int .i64 (n : Int)] wx fun e w'=>e=.returned (.bool true)∧Qt wx w' from fun wx hq=>hxb ▸ IsInBox_any vb b k n wx (hb.qt hq) hk (by omega) h7)
 unfold quC at hc
 rw [Bool.and_eq_true,Bool.and_eq_true,decide_eq_true_eq,decide_eq_true_eq,List.all_eq_true] at hc
 obtain ⟨⟨hc1,hc2⟩,hc3⟩:=hc
 obtain ⟨l,hl⟩ : ∃ l,l=filL a b k 14:=⟨_,rfl⟩
 have hfp : FilP a b k 14:=by
  have:=filP_of hxa hxb hk h7
  exact ⟨this.r16,this.la,this.lb,this.ba,this.bb,by omega⟩
 have HF:=Lib.hid (show ∀ wx,Below w.heap.size w wx→Calls Tryz.prog 24 #[va,vb,.int .i64 (k : Int),.int .i64 14] wx fun e w' =>
  ∃ u lo2,e=.returned u∧wx.heap.size≤lo2∧OwnP2 w' wx.heap.size lo2 w'.heap.size u l∧Below wx.heap.size wx w' from fun wx hq=>by
  refine (fillings_any va vb a b k 14 wx (ha.below hq) (hb.below hq) hfp hc1).mono ?_
  rintro e w' ⟨u,lo2,he,q1,q2,q3,q4,q5⟩
  rw [hl]
  exact ⟨u,lo2,he,q1,q2,q5⟩)
 have hqu:=quL_T a b k n
 rw [← hl] at hqu hc2 hc3
 have HQ:=Lib.hid hqu
 have Hc2:=Lib.hid hc2
 have Hc3:=Lib.hid (show ∀ t,t < l.length→shOk (l.getD t clD).1=true∧(l.getD t clD).1.length≤k∧0≤(l.getD t clD).2∧(l.getD t clD).2≤1000000 from fun t ht=>by
  have:=hc3 _ (getDI_in (d:=clD) ht)
  rw [Bool.and_eq_true,Bool.and_eq_true,decide_eq_true_eq,decide_eq_true_eq] at this
  exact ⟨this.1.1,this.1.2,this.2.1,this.2.2⟩)
 have hk0 : ((k : Int) == 0)=false:=by simp;omega
 clear hxa hxb hc1 hc2 hc3 hqu hl hfp
 obtain ⟨pa,ka,rfl,_⟩:=ha
 obtain ⟨pb,kb,rfl,_⟩:=hb
 go_enter Tryz.func47,Tryz.ntmps47
 go_wp2_with fail
 refine (HXa.out _ (Qt.refl _)).mono ?_
 rintro e w1 ⟨rfl,hq1⟩
 go_wp2_with fail
 refine (HXb.out _ hq1).mono ?_
 rintro e w2 ⟨rfl,hq2⟩
 have Hq2:=Lib.hid (hq1.trans hq2)
 clear hq1 hq2
 obtain ⟨W3,hW3⟩ : ∃ W3,W3=w2.alloc (.cells #[] 83):=⟨_,rfl⟩
 obtain ⟨lo,hlo⟩ : ∃ lo,lo=w2.heap.size:=⟨_,rfl⟩
 have HO3:=Lib.hid (show OwnQ W3 lo lo W3.heap.size (.slice (some ⟨lo,0,none⟩) 0 0) [] by rw [hW3,hlo];exact OwnQ.made0 w2)
 have hs3 : W3.heap.size=lo+1:=by rw [hW3,size_alloc,hlo]
 have hb3 : Below w.heap.size w W3:=by rw [hW3];exact (Hq2.out.below _).trans ((below_alloc _ _).mono (by rw [Hq2.out.size];exact Nat.le_refl _))
 have hlow : w.heap.size≤lo:=by rw [hlo,Hq2.out.size];exact Nat.le_refl _
 have HW3:=Lib.hid hW3
 have Hlo:=Lib.hid hlo
 have Hb3:=Lib.hid hb3
 have Hs3:=Lib.hid hs3
 have Hlow:=Lib.hid hlow
 clear hW3 hs3 hb3 hlow
 go_wp2_with fail
 rw [← HW3.out,← hlo]
 clear hlo
 refine (HF.out _ Hb3.out).mono ?_
 rintro e w4 ⟨ul,lol,rfl,hlol,hol,hb4⟩
 have Hol:=Lib.hid hol
 have Hlol:=Lib.hid (show lo+1≤lol by rw [← Hs3.out];exact hlol)
 have Hb4:=Lib.hid hb4
 have hs4:=hb4.size
 obtain ⟨pl,kl,rfl,hpl1,hpl2⟩:=hol.shape
 obtain ⟨T,hT⟩ : ∃ T,T=l.length:=⟨_,rfl⟩
 have HTT:=Lib.hid hT
 rw [← hT] at Hol hpl1 ⊢
 have HO4:=Lib.hid ((HO3.out.below hb4).mono (Nat.le_refl _) hs4)
 have hw4 : lo+1≤w4.heap.size:=by have:=Hs3.out;omega
 have Hob:=Lib.hid (show ∀ b,(Value.slice (some ⟨lo,0,none⟩) 0 0).ownBlock=some b→(lo≤b∧b < lo+1) ∨ w4.heap.size≤b from fun b hb=>.inl (by
  have:=HO3.out.blk hb
  rw [Hs3.out] at this
  exact this))
 have HK0:=Lib.hid (show AscP (quT k n l 0)∧BdP (quT k n l 0) 0∧KeyQ (quT k n l 0) from ⟨List.Pairwise.nil,⟨Nat.le_refl _,fun x hx=>absurd hx List.not_mem_nil⟩,fun x hx=>absurd hx List.not_mem_nil⟩)
 unfold maxLen at hpl2
 clear hlol hol hb4 hT hs4
 go_wp2_with fail
 go_loopg [10,39] T (fun g s10 s39 wr=> ∃ t : Nat,t≤T∧g=T - t∧s39=.int .i64 (t : Int)∧Hid (OwnQ wr lo lo wr.heap.size s10 (quT k n l t))∧Hid (AscP (quT k n l t)∧BdP (quT k n l t) t∧KeyQ (quT k n l t))∧Hid (Frm lo (lo+1) w4 wr)∧Hid (∀ b,s10.ownBlock=some b→(lo≤b∧b < lo+1) ∨ w4.heap.size≤b))
 case atStart=>exact ⟨0,Nat.zero_le _,rfl,rfl,HO4,HK0,Lib.hid ⟨rfl,rfl,rfl,Nat.le_refl _,fun _ _ _=>rfl⟩,Hob⟩
 case round =>
  obtain ⟨t,ht,rfl,rfl,ho6,hab6,hf6,hob6⟩:=hrel
  obtain ⟨w6,rfl⟩ : ∃ x : World,x=wr:=⟨_,rfl⟩
  by_cases htT : t < T
  ·have htT' : (t : Int) < (T : Int):=by omega
   have htl : t < l.length:=by rw [← HTT.out];exact htT
   obtain ⟨x1,x2,x3,x4⟩:=Hc3.out t htl
   have hol6:=Hol.out.frm hf6.out (by rw [Hs3.out];exact Nat.le_refl _) Hlol.out
   obtain ⟨gl,⟨pl',kl',e,_,hlc⟩,hli⟩:=hol6.rd
   injection e with e1 e2 e3
   subst e1 e3
   obtain ⟨bl,rfl,hlq⟩:=hlc (by omega)
   have d0 : w6.cell? ⟨bl,t * 2+0,none⟩=some (gl t):=hlq t htl 0 (by omega)
   have d1 : w6.cell? ⟨bl,t * 2+1,none⟩=some (.int .i64 (l.getD t clD).2):=hlq t htl 1 (by omega)
   have hI6:=hli t htl
   obtain ⟨d,hd⟩ : ∃ d,d=(l.getD t clD).2:=⟨_,rfl⟩
   obtain ⟨zs,hzs⟩ : ∃ zs,zs=(l.getD t clD).1:=⟨_,rfl⟩
   obtain ⟨yv,hyv⟩ : ∃ yv,yv=gl t:=⟨_,rfl⟩
   have hsucc:=quT_succ k n l htl
   rw [show l.getD t clD=(zs,d) by rw [hzs,hd]] at hsucc
   rw [← hd] at d1 x3 x4
   rw [← hzs] at hI6 x1 x2
   rw [← hyv] at d0 hI6
   have hI6':=hI6
   obtain ⟨pz,kz,rfl,_⟩:=hI6'
   obtain ⟨nz,hnz⟩ : ∃ nz,nz=zs.length:=⟨_,rfl⟩
   rw [← hnz] at d0 hI6
   have Hsucc:=Lib.hid hsucc
   obtain ⟨nx,hnx⟩ : ∃ nx,nx=quT k n l t:=⟨_,rfl⟩
   rw [← hnx] at ho6 hab6 Hsucc
   obtain ⟨pu6,ku6,rfl,hku1,hku2⟩:=ho6.out.shape
   obtain ⟨W7,hW7⟩ : ∃ W7,W7=w6.alloc (.cells #[.slice pz nz kz,.int .i64 d] 39):=⟨_,rfl⟩
   have hb7 : Below w6.heap.size w6 W7:=by rw [hW7];exact below_alloc _ _
   have hz7 : W7.heap[w6.heap.size]?=some (.cells #[.slice pz nz kz,.int .i64 d] 39 (0,0)):=by rw [hW7];exact heap_alloc_top _ _
   have HWr:=Lib.hid (WrapShape_any (.slice pz nz kz) zs k n W7 (hI6.below hb7) x1 x2 h1 hk h7)
   have HW7:=Lib.hid hW7
   have Hb7:=Lib.hid hb7
   have Hz7:=Lib.hid hz7
   have Hf6:=Lib.hid hf6.out
   have Hab6:=Lib.hid hab6.out
   have Hob6:=Lib.hid hob6.out
   have Ho6:=Lib.hid ho6.out
   have Hx34:=Lib.hid (And.intro x3 x4)
   have hPr:=wrP_rng (n:=n) x1 x2 (show k≤7 by omega) (by omega) k (Nat.le_refl _)
   have HPr:=Lib.hid hPr
   clear x1 x2 x3 x4 hol6 hlc hli hlq hd hzs hyv hnz hsucc hnx hW7 hb7 hz7 hI6 ho6 hab6 hf6 hob6 htl e2 hPr
   rw [show t * 2+0=t * 2 by omega] at d0
   go_wp2_with fail
   rw [← HW7.out]
   refine HWr.out.mono ?_
   rintro e w8 (⟨hy,uz,rfl,hIz,hb8⟩ | ⟨hno,rfl,hb8⟩)
   ·have HIo:=Lib.hid hIz
    have HIz:=Lib.hid hIz.ints
    obtain ⟨pq,kq,rfl,_,_⟩:=hIz.ints
    clear hIz
    obtain ⟨P,hP⟩ : ∃ P,P=wrP zs k n k:=⟨_,rfl⟩
    obtain ⟨S,hS⟩ : ∃ S,S=wrS zs k n:=⟨_,rfl⟩
    obtain ⟨us,hus⟩ : ∃ us,us=wrL zs k n:=⟨_,rfl⟩
    have hSr:=wrS_rng zs k n
    rw [← hS] at hSr
    have hPr:=HPr.out
    rw [← hP] at hPr
    rw [← hP,← hS,← hus]
    rw [← hus] at HIz HIo
    obtain ⟨nq,hnq⟩ : ∃ nq,nq=us.length:=⟨_,rfl⟩
    rw [← hnq] at HIz HIo ⊢
    have hPb : -1000000≤P∧P≤1000000:=by
     have : (k : Int)≤7:=by omega
     omega
    have Hsuc:=Lib.hid (show quT k n l (t+1)=sumdL (P :: us) (S * d) nx by rw [Hsucc.out];unfold quS;rw [if_pos hy,← hP,← hS,← hus])
    have hkey : KeyP (P :: us):=⟨rfl,hPb.1,hPb.2⟩
    have Hkey:=Lib.hid hkey
    obtain ⟨Wx,hWx⟩ : ∃ Wx,Wx=w8.alloc (.cells #[.int .i64 P,.slice pq nq kq,.int .i64 S] 83):=⟨_,rfl⟩
    have hbx : Below w8.heap.size w8 Wx:=by rw [hWx];exact below_alloc _ _
    have hzx : Wx.heap[w8.heap.size]?=some (.cells #[.int .i64 P,.slice pq nq kq,.int .i64 S] 83 (0,0)):=by rw [hWx];exact heap_alloc_top _ _
    have HB6x:=Lib.hid (show Below w6.heap.size w6 Wx from (Hb7.out.trans (hb8.mono Hb7.out.size)).trans (hbx.mono (Nat.le_trans Hb7.out.size hb8.size)))
    have hz7x:=blk_later (blk_later Hz7.out hb8) hbx
    have hox:=Ho6.out.below HB6x.out
    have hlx : nx.length≤901:=by have:=Hab6.out.2.1.1;have:=Hc2.out;have:=HTT.out;omega
    obtain ⟨q,hq⟩ : ∃ q,q=posP (P :: us) nx:=⟨_,rfl⟩
    have hqn : q≤nx.length:=by rw [hq];exact posP_le _ _
    have HSe:=Lib.hid (searchQ_any (.slice pu6 nx.length ku6) (.slice pq nq kq) nx P S us q Wx hox.rd (HIz.out.below hbx) (by omega) hqn (by rw [hq];exact posP_at _ nx Hab6.out.1) Hab6.out.2.2.at hPb)
    have HWx:=Lib.hid hWx
    have Hzx:=Lib.hid hzx
    have Hz7x:=Lib.hid hz7x
    have Hox:=Lib.hid hox
    have HIx:=Lib.hid (HIz.out.below hbx)
    have Hbx:=Lib.hid hbx
    have Hb8:=Lib.hid hb8
    have Hq:=Lib.hid hq
    have Hnq:=Lib.hid hnq
    obtain ⟨D,hD⟩ : ∃ D,D=S * d:=⟨_,rfl⟩
    have hx34:=Hx34.out
    have hDr : -1000000≤D∧D≤1000000:=by
     have h3 : S = -1 ∨ S=0 ∨ S=1:=by omega
     rcases h3 with h | h | h <;> rw [hD,h] <;> omega
    have hw1 : wrap64 (S * d)=D:=by rw [← hD];exact w64 (by omega) (by omega)
    have hw2 : IntKind.i64.wrap (S * d)=D:=by rw [← hD];exact k64 (by omega) (by omega)
    rw [← hD] at Hsuc
    have HDr:=Lib.hid hDr
    have hbd:=Hab6.out.2.1.get (by have:=Hc2.out;have:=HTT.out;omega)
    by_cases hf : q < nx.length∧(nx.getD q clD).1=P :: us
    ·have hdec : decide (q < nx.length∧(nx.getD q clD).1=P :: us)=true:=decide_eq_true hf
     rw [hdec] at HSe
     have Hres:=Lib.hid (show sumdL (P :: us) D nx=nx.set q ((nx.getD q clD).1,(nx.getD q clD).2+D) by
      rw [← sumd_same]
      unfold sumdP
      rw [← hq,if_pos hf,hf.2])
     have hbq:=hbd q hf.1
     obtain ⟨c0,hc0⟩ : ∃ c,c=(nx.getD q clD).2:=⟨_,rfl⟩
     rw [← hc0] at hbq
     have Hc0:=Lib.hid hc0
     have Hqn:=Lib.hid hf.1
     obtain ⟨g,o1,o2⟩:=hox
     obtain ⟨p',cap',e,_,_,hp⟩:=o1.shape
     injection e with e1 e2 e3
     subst e1 e3
     obtain ⟨g0,rfl,hg1,hg2,hg3⟩:=hp (by omega)
     have x2 : Wx.cell? ⟨g0,q * 3+2,none⟩=some (.int .i64 (nx.getD q clD).2):=o1.cell hf.1 (show 2 < 3 by omega)
     rw [← hc0] at x2
     have hfz:=o1.frozen (q * 3+2)
     have y2:=cell_of_blk hzx (j:=2) rfl
     have y0:=cell_of_blk hzx (j:=0) rfl
     have y1:=cell_of_blk hzx (j:=1) rfl
     have p1:=cell_of_blk hz7x (j:=1) rfl
     have Hx2:=Lib.hid x2
     have Hy2:=Lib.hid y2
     have Hp1:=Lib.hid p1
     obtain ⟨N,hN⟩ : ∃ N,N=nx.length:=⟨_,rfl⟩
     have hqN : (q : Int) < (N : Int):=by have:=hf.1;omega
     have HNN:=Lib.hid hN
     obtain ⟨c1,hc1⟩ : ∃ c1,c1=c0+D:=⟨_,rfl⟩
     have Hc1:=Lib.hid hc1
     have hw3 : wrap64 (c0+D)=c1:=by rw [hc1];exact w64 (by omega) (by omega)
     have hw4 : IntKind.i64.wrap (c0+D)=c1:=by rw [hc1];exact k64 (by omega) (by omega)
     rw [← hN] at HSe ⊢
     clear hf hdec hc0 o1 o2 hp hg1 hg2 hg3 e2 hbd hq hqn hD hx34 hDr hc1 hbq hWx hzx hz7x hbx hb8 hnq hP hS hus hSr hPr hy hPb hkey hlx hN
     go_wp2_with fail
     rw [← HWx.out]
     refine HSe.out.mono ?_
     rintro e w9 ⟨rfl,hb9⟩
     have Hb9:=Lib.hid hb9
     have x2:=cell_below hb9 Hx2.out
     have y2:=cell_below hb9 Hy2.out
     have p1:=cell_below hb9 Hp1.out
     have hfz : w9.frozen? ⟨g0,q * 3+2,none⟩=false:=by
      obtain ⟨_,r1,_⟩:=Hox.out.below hb9
      exact r1.frozen _
     clear hb9 HSe
     go_wp2_with fail
     go_still_tail 13,(by kernel_rfl)
     change wpList _ _ _ _ _ w9.drew
     have x2' : w9.drew.cell? ⟨g0,q * 3+2,none⟩=some (.int .i64 c0):=x2
     have hfz' : w9.drew.frozen? ⟨g0,q * 3+2,none⟩=false:=hfz
     have HbD:=Lib.hid Hb9.out.drew
     clear x2 hfz y2 p1 Hb9
     generalize w9.drew=wq at *
     go_wp2_with fail
     go_roundg (T - (t+1))
     case measure=>omega
     case rel =>
      have hbD:=HbD.out
      have hW:=HB6x.out.trans (hbD.mono HB6x.out.size)
      have o9:=Hox.out.below hbD
      have hset:=OwnQ.setN o9 (k:=q) Hqn.out c1
      rw [← HNN.out] at hset
      have hres:=Hres.out
      rw [← Hc0.out,← Hc1.out] at hres
      rw [← hres,← Hsuc.out] at hset
      have hbk:=Hob6.out
      rw [← HNN.out] at hbk
      refine ⟨t+1,htT,rfl,by go_num,Lib.hid (hset.mono (Nat.le_refl _) (by rw [size_setCell];exact hW.size)),Lib.hid (by rw [Hsuc.out];exact ⟨sumdL_asc _ _ Hab6.out.1,Hab6.out.2.1.step _ (by have:=HDr.out;unfold wC;omega),Hab6.out.2.2.sumd Hkey.out _⟩),Lib.hid ?_,Lib.hid hbk⟩
      exact Frm.step (v:=.slice (some ⟨g0,0,none⟩) N ku6) (Hf6.out.bel hW) (fun b hb=>(hbk b hb).imp id id) rfl rfl rfl (by rw [size_setCell];exact Nat.le_refl _) (fun j hj hne=>Below.heap_setCell _ ⟨g0,q * 3+2,none⟩ _ j (fun e=>hne (by rw [e];rfl)))
    ·have hdec : decide (q < nx.length∧(nx.getD q clD).1=P :: us)=false:=decide_eq_false hf
     rw [hdec] at HSe
     have hlp : (insP q (P :: us,0) nx).length=nx.length+1:=insP_len hqn
     have hkp : (insP q (P :: us,0) nx).getD q clD=(P :: us,0):=by rw [insP_getD hqn,if_neg (Nat.lt_irrefl q),if_pos rfl]
     have hres : sumdL (P :: us) D nx=(insP q (P :: us,0) nx).set q (((insP q (P :: us,0) nx).getD q clD).1,D):=by
      rw [← sumd_same]
      unfold sumdP
      rw [← hq,if_neg hf,hkp]
      unfold insP
      have hl2 : (nx.take q).length=q:=by simp;omega
      simp only [List.append_assoc]
      rw [List.set_append_right _ _ (by omega),hl2,Nat.sub_self]
      rfl
     obtain ⟨L,hL⟩ : ∃ L,L=insP q (P :: us,0) nx:=⟨_,rfl⟩
     rw [← hL] at hlp hkp hres
     have Hres:=Lib.hid hres
     have HL:=Lib.hid hL
     have HLk:=Lib.hid hkp
     have HLl:=Lib.hid hlp
     have Hqn:=Lib.hid hqn
     have y2:=cell_of_blk hzx (j:=2) rfl
     have y0:=cell_of_blk hzx (j:=0) rfl
     have y1:=cell_of_blk hzx (j:=1) rfl
     have Hy2:=Lib.hid y2
     have Hy0:=Lib.hid y0
     have Hy1:=Lib.hid y1
     obtain ⟨N,hN⟩ : ∃ N,N=nx.length:=⟨_,rfl⟩
     have HNN:=Lib.hid hN
     have hN9 : N≤901:=by omega
     have hw3 : wrap64 (0+D)=D:=by rw [Int.zero_add];exact w64 (by omega) (by omega)
     rw [← hN] at HSe HLl Hqn hku1 ⊢
     unfold maxLen at hku2
     clear hf hdec hbd hq hqn hD hx34 hDr hWx hzx hz7x hbx hb8 hnq hP hS hus hSr hPr hy hPb hkey hlx hN hlp hkp hres hL hox
     go_wp2_with fail
     rw [← HWx.out]
     refine HSe.out.mono ?_
     rintro e w9 ⟨rfl,hb9⟩
     have Hb9:=Lib.hid hb9
     have y0:=cell_below hb9 Hy0.out
     have y1:=cell_below hb9 Hy1.out
     obtain ⟨Wi,hWi⟩ : ∃ Wi,Wi=w9.alloc (.cells #[.int .i64 P,.slice pq nq kq,.int .i64 0] 83):=⟨_,rfl⟩
     have hbi : Below w9.heap.size w9 Wi:=by rw [hWi];exact below_alloc _ _
     have hvb : Wi.heap[w9.heap.size]?=some (.cells #[.int .i64 P,.slice pq nq kq,.int .i64 0] 83 (0,0)):=by rw [hWi];exact heap_alloc_top _ _
     have HbWx:=Lib.hid (show Below Wx.heap.size Wx Wi from hb9.trans (hbi.mono hb9.size))
     obtain ⟨g,xs',o1,o1f,o2⟩ : ∃ g xs',Own Wi lo w6.heap.size 83 3 (.slice pu6 N ku6) N xs'∧(∀ i,i < N → ∀ j,j < 3→xs'[i * 3+j]?=some (qF nx g i j)) ∧ ∀ i,i < N→OwnI 3 Wi lo w6.heap.size (g i) ((nx.getD i clD).1.drop 1):=by
      obtain ⟨g,⟨xs',r1,r2⟩,r3⟩:=Hox.out.below HbWx.out
      rw [← HNN.out] at r1 r2 r3
      exact ⟨g,xs',r1,r2,r3⟩
     have hoc : ∀ y ∈ xs',y.oneCell'=true:=fun y hy=>by
      obtain ⟨j,hj,e⟩:=List.mem_iff_getElem.1 hy
      have hxl:=o1.len
      have:=o1f (j / 3) (by omega) (j % 3) (by omega)
      rw [show j / 3 * 3+j % 3=j by omega,List.getElem?_eq_getElem hj,e] at this
      rw [Option.some.inj this]
      exact qF_one (lo:=lo) (hi:=w6.heap.size) (w:=Wi) (fun i hi'=>o2 i (by rw [HNN.out];exact hi')) (by rw [← HNN.out];omega) (by omega)
     have hlo9 : lo≤Wi.heap.size:=by
      have r1:=Hf6.out.size
      have r2:=HB6x.out.size
      have r3:=HbWx.out.size
      omega
     have hIns:=insertQ_any (.slice pu6 N ku6) N lo w6.heap.size q w9.heap.size 1 xs' _ _ _ Wi o1 Hqn.out (by omega) hlo9 hvb (fun e=>by
      have r1:=(o1.block e).2.1
      have r2:=HB6x.out.size
      have r3:=Hb9.out.size
      omega) hoc rfl rfl rfl
     have HIns:=Lib.hid hIns
     have HWi:=Lib.hid hWi
     have HO1:=Lib.hid (And.intro o1 (And.intro o1f o2))
     have Hbi:=Lib.hid hbi
     clear hb9 HSe hWi hbi hvb o1 o1f o2 hoc hIns hlo9
     go_wp2_with fail
     rw [← HWi.out]
     refine HIns.out.mono ?_
     rintro e w10 ⟨u10,rfl,ho10,hg10,hw10⟩
     have q10 : OwnQ w10 lo lo w10.heap.size u10 L:=by
      rw [HL.out]
      have r1:=HbWx.out.size
      have r2:=HB6x.out.size
      exact OwnQ.insert HNN.out Hqn.out HO1.out.1 HO1.out.2.1 HO1.out.2.2 (((HIo.out.below Hbx.out).below HbWx.out).mono (show lo≤W7.heap.size by
       have r1:=Hf6.out.size
       have r2:=Hb7.out.size
       omega) (Nat.le_refl _)) ho10 hg10 (by have:=hg10.size;omega) (by
       have:=hg10.size
       have:=Hbx.out.size
       omega)
     have HF10:=Lib.hid ((Hf6.out.bel (HB6x.out.trans (HbWx.out.mono HB6x.out.size))).step (v:=.slice pu6 N ku6) (fun b hb=>by have r:=Hob6.out;rw [← HNN.out] at r;exact r b hb) hg10.os hg10.tape hg10.output hg10.size (fun j hj hne=>hg10.block j hj fun e=>hne e.symm))
     have Hob10:=Lib.hid (show ∀ b,u10.ownBlock=some b→(lo≤b∧b < lo+1) ∨ w4.heap.size≤b from fun b hb=>by
      rcases hw10 with h | h
      ·have r:=Hob6.out
       rw [← HNN.out] at r
       exact r b (by rw [← h];exact hb)
      ·rw [h] at hb
       injection hb with hb
       have r1:=Hf6.out.size
       have r2:=HB6x.out.size
       have r3:=HbWx.out.size
       exact .inr (by omega))
     have Hq10:=Lib.hid q10
     obtain ⟨g',r5,_⟩:=q10
     obtain ⟨p',cap10,rfl,_,hcap,hp⟩:=r5.shape
     obtain ⟨g0,rfl,_⟩:=hp (by have:=HLl.out;omega)
     have x2 : w10.cell? ⟨g0,q * 3+2,none⟩=some (.int .i64 0):=by
      have:=r5.cell (i:=q) (j:=2) (by have:=HLl.out;have:=Hqn.out;omega) (by omega)
      rw [this]
      show some (Value.int .i64 (L.getD q clD).2)=_
      rw [HLk.out]
     have hfz:=r5.frozen (q * 3+2)
     have hkeep : ∀ (ad : Addr) (vv : Value),Wi.cell? ad=some vv→w6.heap.size≤ad.block→w10.cell? ad=some vv:=fun ad vv h hb=>by
      rw [← h]
      unfold World.cell?
      rw [hg10.block ad.block (World.block_lt_of_cell? Wi ad h) fun e=>by
       have:=(HO1.out.1.block e.symm).2.1
       omega]
     have y2:=hkeep _ _ (cell_below HbWx.out Hy2.out) (by have r1:=Hb7.out.size;have r2:=Hb8.out.size;show w6.heap.size≤w8.heap.size;omega)
     have p1:=hkeep _ _ (cell_below HbWx.out (cell_of_blk Hz7x.out (j:=1) rfl)) (Nat.le_refl _)
     obtain ⟨N1,hN1⟩ : ∃ N1,N1=N+1:=⟨_,rfl⟩
     rw [HLl.out,← hN1] at Hq10 Hob10 ⊢
     have hqN2 : (q : Int) < (N1 : Int):=by have:=Hqn.out;omega
     have HN1:=Lib.hid hN1
     clear hN1
     have hD9:=HDr.out
     have hw5 : wrap64 D=D:=w64 (by omega) (by omega)
     have hw6 : IntKind.i64.wrap D=D:=k64 (by omega) (by omega)
     have hw7 : IntKind.i64.wrap (0+D)=D:=by rw [Int.zero_add];exact hw6
     clear hkeep hp r5 ho10 hg10 hw10
     go_wp2_with fail
     go_still_tail 13,(by kernel_rfl)
     change wpList _ _ _ _ _ w10.drew
     have x2' : w10.drew.cell? ⟨g0,q * 3+2,none⟩=some (.int .i64 0):=x2
     have hfz' : w10.drew.frozen? ⟨g0,q * 3+2,none⟩=false:=hfz
     have HbD:=Lib.hid (Below.refl w10.heap.size w10).drew
     clear x2 hfz y2 p1
     generalize w10.drew=wq at *
     go_wp2_with fail
     go_roundg (T - (t+1))
     case measure=>omega
     case rel =>
      have o9:=Hq10.out.below HbD.out
      have hset:=OwnQ.setN o9 (k:=q) (by rw [HLl.out];have:=Hqn.out;omega) D
      rw [← Hres.out,← Hsuc.out] at hset
      refine ⟨t+1,htT,rfl,by go_num,Lib.hid (hset.mono (Nat.le_refl _) (by rw [size_setCell];exact HbD.out.size)),Lib.hid (by rw [Hsuc.out];exact ⟨sumdL_asc _ _ Hab6.out.1,Hab6.out.2.1.step _ (by unfold wC;omega),Hab6.out.2.2.sumd Hkey.out _⟩),Lib.hid ?_,Lib.hid Hob10.out⟩
      exact Frm.step (v:=.slice (some ⟨g0,0,none⟩) N1 cap10) (HF10.out.bel HbD.out) Hob10.out rfl rfl rfl (by rw [size_setCell];exact Nat.le_refl _) (fun j hj hne=>Below.heap_setCell _ ⟨g0,q * 3+2,none⟩ _ j (fun e=>hne (by rw [e];rfl)))
   ·have Hn:=Lib.hid (show quT k n l (t+1)=nx by rw [Hsucc.out];unfold quS;rw [if_neg (by rw [hno];decide)])
    have Hb8:=Lib.hid hb8
    clear hno hb8 HWr
    go_wp2_with fail
    go_roundg (T - (t+1))
    case measure=>omega
    case rel =>
     have hb9:=(Hb7.out.trans (Hb8.out.mono Hb7.out.size)).trans ((below_alloc w8 (.cells #[.int .i64 0,.slice none 0 0,.int .i64 0] 83)).mono (Nat.le_trans Hb7.out.size Hb8.out.size))
     refine ⟨t+1,htT,rfl,by go_num,Lib.hid (by rw [Hn.out];exact (Ho6.out.below hb9).mono (Nat.le_refl _) hb9.size),Lib.hid (by rw [Hn.out];exact ⟨Hab6.out.1,Hab6.out.2.1.up,Hab6.out.2.2⟩),Lib.hid (Hf6.out.bel hb9),Hob6⟩
  ·obtain rfl : t=T:=by omega
   have HD:=Lib.hid (nonzeroQ_any _ (quT k n l t) lo lo w6.heap.size w6 ho6.out (by have:=hab6.out.2.1.1;have:=Hc2.out;have:=HTT.out;omega) (by have:=hf6.out.size;omega))
   have HB6:=Lib.hid (show Below lo W3 w6 from by
    have h1 : Below lo W3 w4:=Hb4.out.mono (by rw [Hs3.out];omega)
    exact ⟨hf6.out.os.trans h1.os,hf6.out.tape.trans h1.tape,hf6.out.output.trans h1.output,Nat.le_trans h1.size hf6.out.size,fun k hk=>(hf6.out.block k (by omega) (.inl hk)).trans (h1.block k hk)⟩)
   have HQt:=Lib.hid (show quL a b k n=quT k n l t by rw [HQ.out,HTT.out])
   have HKy:=Lib.hid (show KeyQ ((quT k n l t).filter nzB) from fun x hx=>hab6.out.2.2 x (List.mem_filter.1 hx).1)
   obtain ⟨pu6,ku6,rfl,_,_⟩:=ho6.out.shape
   clear ho6 hab6 hf6 hob6
   go_wp2_with fail
   refine HD.out.mono ?_
   rintro e w7 ⟨u7,rfl,hr7,hf7⟩
   have Hr7:=Lib.hid hr7
   have HB7:=Lib.hid (show Below w.heap.size w w7 from by
    have h1 : Below w.heap.size w W3:=Hb3.out
    have h2 : Below w.heap.size W3 w6:=HB6.out.mono Hlow.out
    have h3 : Below w.heap.size w6 w7:=⟨hf7.os,hf7.tape,hf7.output,hf7.size,fun k hk=>hf7.block k (Nat.lt_of_lt_of_le hk (Nat.le_trans h1.size h2.size)) (.inl (Nat.lt_of_lt_of_le hk Hlow.out))⟩
    exact (h1.trans h2).trans h3)
   obtain ⟨f7,⟨p7,k7,rfl,_⟩,_⟩:=hr7
   clear hf7 HD
   go_wp2_with fail
   go_ret2
   exact ⟨_,rfl,by rw [HQt.out];exact Hr7.out,by rw [HQt.out];exact HKy.out,HB7.out⟩
theorem bx_rows {xs : List Int} {r c : Nat} (h : bxOk xs r c=true) (hrc : r≤c) : ∀ i,0≤xs.getD i 0∧xs.getD i 0≤(c : Int) - (r : Int):=fun i=>by
 unfold bxOk shOk at h
 simp only [Bool.and_eq_true,decide_eq_true_eq] at h
 obtain ⟨⟨⟨_,hs⟩,_⟩,h0⟩:=h
 by_cases hi : i < xs.length
 ·have hm : ∀ j,j < xs.length→xs.getD j 0≤xs.getD 0 0:=fun j=>by
   induction j with
   | zero=>intro _;exact Int.le_refl _
   | succ j ih =>
     intro hj
     have q:=(hs (j+1) hj).2.2 (by omega)
     rw [show j+1 - 1=j from rfl] at q
     exact Int.le_trans q (ih (by omega))
  have:=(hs i hi).1
  have:=hm i hi
  omega
 ·rw [List.getD_eq_getElem?_getD,List.getElem?_eq_none (by omega)]
  simp
  omega
theorem Gw_any (va vb vc : Value) (a b c : List Int) (k n : Nat) (d : Int) (w : World) (ha : Ints w va a) (hb : Ints w vb b) (hc : Ints w vc c) (hxa : bxOk a k n=true) (hxb : bxOk b k n=true) (hxc : bxOk c k n=true) (h1 : 1≤k) (hk : k≤n) (h7 : n≤7) (hq : quC a b k n=true) :
 Calls Tryz.prog 18 #[va,vb,vc,.int .i64 (k : Int),.int .i64 (n : Int),.int .i64 d] w fun e w'=>e=.returned (.int .i64 (gwL a b (dlL c k n) k n d))∧Below w.heap.size w w':=by
 have HQ:=Lib.hid (QuantumProduct_any va vb a b k n w ha hb hxa hxb h1 hk h7 hq)
 have HX:=Lib.hid (show ∀ wx,Below w.heap.size w wx→Calls Tryz.prog 23 #[vc,.int .i64 (k : Int),.int .i64 (n : Int)] wx fun e w'=>e=.returned (.bool true)∧Qt wx w' from fun wx hw=>hxc ▸ IsInBox_any vc c k n wx (hc.below hw) hk (by omega) h7)
 have HD:=Lib.hid (show ∀ wx,Below w.heap.size w wx→Calls Tryz.prog 17 #[vc,.int .i64 (k : Int),.int .i64 (n : Int)] wx fun e w'=> ∃ u,e=.returned u∧Ints w' u (dlL c k n)∧Below wx.heap.size wx w' from fun wx hw=>DualShape_any vc c k n wx (hc.below hw) hxc hk (by omega) h7 (fun i _=>bx_rows hxc hk i))
 obtain ⟨pc,kc,rfl,_⟩:=hc
 obtain ⟨nc,hnc⟩ : ∃ nc,nc=c.length:=⟨_,rfl⟩
 rw [← hnc] at HX HD ⊢
 obtain ⟨pa,ka,rfl,_⟩:=ha
 obtain ⟨pb,kb,rfl,_⟩:=hb
 obtain ⟨K,hK⟩ : ∃ K,K=gwL a b (dlL c k n) k n d:=⟨_,rfl⟩
 rw [← hK]
 have HK:=Lib.hid hK
 clear hxa hxb hxc hq hK hnc
 go_enter Tryz.func18,Tryz.ntmps18
 go_wp2_with fail
 refine HQ.out.mono ?_
 rintro e w1 ⟨ul,rfl,hr1,hky,hb1⟩
 obtain ⟨cs,hcs⟩ : ∃ cs,cs=(quL a b k n).filter nzB:=⟨_,rfl⟩
 rw [← hcs] at hr1 hky
 have HKy:=Lib.hid hky
 have HKK:=Lib.hid (show inC cs (d :: dlL c k n)=K by rw [HK.out,hcs];rfl)
 have Hb1:=Lib.hid hb1
 obtain ⟨f,hs1,hf⟩:=hr1
 obtain ⟨pl,kl,rfl,⟨hx1,hx⟩,hxc⟩:=hs1.three
 unfold maxLen at hx
 obtain ⟨N,hN⟩ : ∃ N,N=cs.length:=⟨_,rfl⟩
 have HN:=Lib.hid hN
 rw [← hN] at hx1 hxc hf ⊢
 have Hf:=Lib.hid hf
 have Hxc:=Lib.hid hxc
 clear hf hs1 hxc hN hb1 hky hcs HQ
 go_wp2_with fail
 refine (HX.out _ Hb1.out).mono ?_
 rintro e w2 ⟨rfl,hq2⟩
 have Hb2:=Lib.hid (hq2.below w1.heap.size)
 have Hw2:=Lib.hid (Hb1.out.trans (hq2.below _))
 clear hq2
 go_wp2_with fail
 refine (HD.out _ Hw2.out).mono ?_
 rintro e w3 ⟨ud,rfl,hd3,hb3⟩
 have Hd3:=Lib.hid hd3
 have Hb3:=Lib.hid (Hb2.out.trans (hb3.mono Hb2.out.size))
 obtain ⟨pd,kd,rfl,_⟩:=hd3
 obtain ⟨t,ht⟩ : ∃ t,t=dlL c k n:=⟨_,rfl⟩
 rw [← ht] at HKK Hd3 ⊢
 obtain ⟨nt,hnt⟩ : ∃ nt,nt=t.length:=⟨_,rfl⟩
 rw [← hnt] at Hd3 ⊢
 clear hb3 ht hnt
 go_wp2_with fail
 go_loopg [17,41] N (fun n' s17 i wr=> ∃ m : Nat,m≤N∧n'=N - m∧i=.int .i64 m∧Hid (Below w3.heap.size w3 wr)∧Hid (inC (cs.drop m) (d :: t)=K))
 case atStart=>exact ⟨0,Nat.zero_le _,rfl,rfl,Lib.hid (Below.refl _ _),Lib.hid (by rw [List.drop_zero,HKK.out])⟩
 case round =>
  obtain ⟨m,hm,rfl,rfl,hq,hkk⟩:=hrel
  obtain ⟨wx,rfl⟩ : ∃ x : World,x=wr:=⟨_,rfl⟩
  have HQ:=Lib.hid hq.out
  have HKM:=Lib.hid hkk.out
  have HW:=Lib.hid (show Below w1.heap.size w1 wx from Hb3.out.trans (hq.out.mono Hb3.out.size))
  clear hq hkk
  by_cases hlt : m < N
  ·have hlti : (m : Int) < (N : Int):=by omega
   obtain ⟨b',rfl,hc'⟩:=Hxc.out (by omega)
   obtain ⟨a0,a1,a2⟩:=hc' m hlt
   have c0:=cell_below HW.out a0
   have c1:=cell_below HW.out a1
   have c2:=cell_below HW.out a2
   have i1:=(Hf.out m hlt).below HW.out
   obtain ⟨y1,hy1'⟩ : ∃ y,y=f m:=⟨_,rfl⟩
   rw [← hy1'] at c1 i1
   obtain ⟨c9,hcc⟩ : ∃ c,c=(cs.getD m clD).2:=⟨_,rfl⟩
   obtain ⟨xs,hxx⟩ : ∃ xs,xs=(cs.getD m clD).1.drop 1:=⟨_,rfl⟩
   obtain ⟨P,hP⟩ : ∃ P,P=(cs.getD m clD).1.getD 0 0:=⟨_,rfl⟩
   rw [← hcc] at c2
   rw [← hxx] at i1
   rw [← hP] at c0
   have hmc : m < cs.length:=by rw [← HN.out];exact hlt
   have hky:=(HKy.out.at m hmc).1
   rw [← hP,← hxx] at hky
   have hdr : cs.drop m=(P :: xs,c9) :: cs.drop (m+1):=by
    rw [List.drop_eq_getElem_cons hmc]
    congr 1
    rw [← hky,hcc,List.getD_eq_getElem?_getD,List.getElem?_eq_getElem hmc]
    rfl
   have Hdr:=Lib.hid hdr
   obtain ⟨Wb,hWb⟩ : ∃ Wb,Wb=wx.alloc (.cells #[.int .i64 P,y1,.int .i64 c9] 83):=⟨_,rfl⟩
   have hbb : Below wx.heap.size wx Wb:=by rw [hWb];exact below_alloc _ _
   have hzb : Wb.heap[wx.heap.size]?=some (.cells #[.int .i64 P,y1,.int .i64 c9] 83 (0,0)):=by rw [hWb];exact heap_alloc_top _ _
   have HQ2:=Lib.hid (HQ.out.trans (hbb.mono HQ.out.size))
   have Hq:=Lib.hid (sliceEq_any y1 (.slice pd nt kd) xs t Wb (i1.below hbb) (Hd3.out.below HQ2.out))
   have Hzb:=Lib.hid hzb
   have HWb:=Lib.hid hWb
   obtain ⟨py,ky,rfl,_,_⟩:=i1
   obtain ⟨ny,hny⟩ : ∃ ny,ny=xs.length:=⟨_,rfl⟩
   rw [← hny] at c1 Hq Hzb HWb
   clear hc' a0 a1 a2 hy1' hcc hxx hP hky hdr hmc hWb hbb hzb hny
   by_cases e0 : P=d
   ·have hpd : (P == d)=true:=by simp [e0]
    subst e0
    by_cases e : xs=t
    ·have He:=Lib.hid e
     rw [decide_eq_true e] at Hq
     clear e
     go_wp2_with fail
     rw [← HWb.out]
     refine Hq.out.mono ?_
     rintro e w' ⟨rfl,q⟩
     have z2:=cell_of_blk (blk_later Hzb.out (q.below _)) (j:=2) rfl
     have Hq':=Lib.hid q
     clear q
     go_wp2_with fail
     go_ret
     have hk : K=c9:=by rw [← HKM.out,Hdr.out,inC,if_pos (by rw [He.out])]
     rw [hk]
     exact ⟨rfl,Hb1.out.trans ((Hb3.out.trans ((HQ2.out.trans ((Hq'.out.below _).mono HQ2.out.size)).mono Hb3.out.size)).mono Hb1.out.size)⟩
    ·have He:=Lib.hid e
     rw [decide_eq_false e] at Hq
     clear e
     go_wp2_with fail
     rw [← HWb.out]
     refine Hq.out.mono ?_
     rintro e w' ⟨rfl,q⟩
     have Hq':=Lib.hid q
     clear q
     go_wp2_with fail
     go_roundg (N - (m+1))
     case measure=>omega
     case rel=>exact ⟨m+1,by omega,rfl,by go_num,Lib.hid (HQ2.out.trans ((Hq'.out.below _).mono HQ2.out.size)),Lib.hid (by rw [← HKM.out,Hdr.out,inC,if_neg (fun h=>He.out (by injection h))])⟩
   ·have hpd : (P == d)=false:=by simp [e0]
    have He:=Lib.hid e0
    clear e0
    go_wp2_with fail
    go_roundg (N - (m+1))
    case measure=>omega
    case rel=>exact ⟨m+1,by omega,rfl,by go_num,Lib.hid (by rw [← HWb.out];exact HQ2.out),Lib.hid (by rw [← HKM.out,Hdr.out,inC,if_neg (fun h=>He.out (by injection h))])⟩
  ·obtain rfl : m=N:=by omega
   go_wp2_with fail
   go_ret
   refine ⟨?_,Hb1.out.trans (HW.out.mono Hb1.out.size)⟩
   rw [← HKM.out,List.drop_of_length_le (by rw [HN.out];exact Nat.le_refl _)];rfl
theorem cell_of_frm {lo B : Nat} {w w' : World} (hf : Frm lo B w w') {a : Addr} {v : Value} (h : w.cell? a=some v) (ha : B≤a.block) : w'.cell? a=some v:=hf.cellF h ha
theorem Isn_any (v : Value) (ss : List (List Int)) (k n : Nat) (w : World) (h : RdII w v ss) (hl : ss.length≤12) (hk : k≤n) (h1 : 1≤n) (h7 : n≤7) (hb : ∀ i,i < ss.length→bxOk (ss.getD i []) k n=true) (hc : isnD k n ss [([],1)]=true) :
 Calls Tryz.prog 16 #[v,.int .i64 (k : Int),.int .i64 (n : Int)] w fun e w'=>e=.returned (.int .i64 (inC (isnL k n ss) (blkL k n)))∧Below w.heap.size w w':=by
 obtain ⟨f,⟨p,cap,rfl,⟨hx1,hx2⟩,hxc⟩,hf⟩:=h
 obtain ⟨L,hL⟩ : ∃ L,L=ss.length:=⟨_,rfl⟩
 rw [← hL] at hl hx1 hxc hf hb ⊢
 have HL:=Lib.hid hL
 have Hxc:=Lib.hid hxc
 have Hf:=Lib.hid hf
 have Hb:=Lib.hid hb
 have Hc:=Lib.hid hc
 have hl12 : (L : Int)≤12:=by omega
 have hl12b : ¬ (12 : Int) < (L : Int):=by omega
 unfold maxLen at hx2
 clear hL hxc hf hb hc
 go_enter Tryz.func16,Tryz.ntmps16
 go_wp2_with fail
 refine (isBox_yes k n _ hk h1 h7).mono ?_
 rintro e w1 ⟨rfl,rfl⟩
 go_wp2_with fail
 go_loopg [8,30] L (fun g s8 s30 wr=> ∃ i : Nat,i≤L∧g=L - i∧s30=.int .i64 (i : Int)∧Hid (Qt w wr))
 case atStart=>exact ⟨0,Nat.zero_le _,rfl,rfl,Lib.hid (Qt.refl _)⟩
 case round =>
  obtain ⟨i,hi,rfl,rfl,hq⟩:=hrel
  obtain ⟨wo,rfl⟩ : ∃ x : World,x=wr:=⟨_,rfl⟩
  by_cases hlt : i < L
  ·have hlti : (i : Int) < (L : Int):=by omega
   obtain ⟨b,off,rfl,hc⟩:=Hxc.out (by omega)
   have c0:=hq.out.cell (hc i hlt)
   have HI:=Lib.hid (show Calls Tryz.prog 23 #[f i,.int .i64 (k : Int),.int .i64 (n : Int)] wo fun e w'=>e=.returned (.bool true)∧Qt wo w' from Hb.out i hlt ▸ IsInBox_any (f i) (ss.getD i []) k n wo ((Hf.out i hlt).qt hq.out) hk h1 h7)
   obtain ⟨pi,ki,e,_⟩:=Hf.out i hlt
   obtain ⟨ni,hni⟩ : ∃ ni,ni=(ss.getD i []).length:=⟨_,rfl⟩
   rw [← hni] at e
   rw [e] at c0 HI
   clear hc e hni
   go_wp2_with fail
   refine HI.out.mono ?_
   rintro e w2 ⟨rfl,hq2⟩
   have Hq2:=Lib.hid (hq.out.trans hq2)
   clear hq2
   go_wp2_with fail
   go_roundg (L - (i+1))
   case measure=>omega
   case rel=>exact ⟨i+1,by omega,rfl,by go_num,Hq2⟩
  ·obtain rfl : i=L:=by omega
   obtain ⟨W,hW⟩ : ∃ W,W=wo.alloc (.cells #[.slice none 0 0,.int .i64 1] 39):=⟨_,rfl⟩
   have hbW : Below wo.heap.size wo W:=by rw [hW];exact below_alloc _ _
   have hz : W.heap[wo.heap.size]?=some (.cells #[.slice none 0 0,.int .i64 1] 39 (0,0)):=by rw [hW];exact heap_alloc_top _ _
   have HBW:=Lib.hid (show Below w.heap.size w W from (hq.out.below _).trans (hbW.mono (by rw [hq.out.size];exact Nat.le_refl _)))
   have HNow:=Lib.hid (show RdCl W (.slice (some ⟨wo.heap.size,0,none⟩) 1 1) [([],1)] from ⟨fun _=>.slice none 0 0,⟨_,_,rfl,⟨Nat.le_refl _,by unfold maxLen;simp⟩,fun _=>⟨wo.heap.size,rfl,fun i hi j hj=>by
    obtain rfl : i=0:=by simp at hi;exact hi
    rcases (show j=0 ∨ j=1 by omega) with rfl | rfl
    ·exact cell_of_blk hz (j:=0) rfl
    ·exact cell_of_blk hz (j:=1) rfl⟩⟩,fun i hi=>⟨none,0,by
    obtain rfl : i=0:=by simp at hi;exact hi
    rfl,⟨by obtain rfl : i=0:=by simp at hi;exact hi
            exact Nat.le_refl _,Nat.zero_le _⟩,fun h=>by
    obtain rfl : i=0:=by simp at hi;exact hi
    exact absurd h (Nat.lt_irrefl _)⟩⟩)
   have HW:=Lib.hid hW
   clear hz hbW hW
   go_wp2_with fail
   rw [← HW.out]
   go_loopg [9,44] i (fun g s9 s44 wr=> ∃ j : Nat,j≤i∧g=i - j∧s44=.int .i64 (j : Int)∧Hid (RdCl wr s9 (isnL k n (ss.take j)))∧Hid (Below w.heap.size w wr)∧Hid (isnD k n (ss.drop j) (isnL k n (ss.take j))=true))
   case atStart=>exact ⟨0,Nat.zero_le _,rfl,rfl,HNow,HBW,Lib.hid (by rw [List.drop_zero,List.take_zero];exact Hc.out)⟩
   case round =>
    obtain ⟨j,hj,rfl,rfl,hnow,hbw,hdd⟩:=hrel
    obtain ⟨wj,rfl⟩ : ∃ x : World,x=wr:=⟨_,rfl⟩
    by_cases hji : j < i
    ·have hjii : (j : Int) < (i : Int):=by omega
     obtain ⟨b,off,rfl,hcc⟩:=Hxc.out (by omega)
     have c0:=cell_below hbw.out (hcc j hji)
     have hsj:=(Hf.out j hji).below hbw.out
     obtain ⟨s,hs⟩ : ∃ s,s=ss.getD j []:=⟨_,rfl⟩
     obtain ⟨vs,hvs⟩ : ∃ vs,vs=f j:=⟨_,rfl⟩
     have hbs:=Hb.out j hji
     rw [← hs] at hsj hbs
     rw [← hvs] at c0 hsj
     obtain ⟨now,hnw⟩ : ∃ now,now=isnL k n (ss.take j):=⟨_,rfl⟩
     have hdrop : ss.drop j=s :: ss.drop (j+1):=by
      rw [List.drop_eq_getElem_cons (by rw [← HL.out];exact hji),hs,List.getD_eq_getElem?_getD,List.getElem?_eq_getElem (by rw [← HL.out];exact hji)];rfl
     have htake : isnL k n (ss.take (j+1))=isnS k n s now:=by
      rw [takeI_snoc ss [] (by rw [← HL.out];exact hji),← hs,hnw]
      unfold isnL
      rw [List.foldl_append]
      rfl
     have hdd:=hdd.out
     rw [hdrop,← hnw] at hdd
     have hdd : isnC k n s now=true∧isnD k n (ss.drop (j+1)) (isnS k n s now)=true:=by
      unfold isnD at hdd
      exact Bool.and_eq_true_iff.1 hdd
     have HP:=Lib.hid (isnP_of hdd.1)
     have HD:=Lib.hid hdd.2
     have HT:=Lib.hid htake
     rw [← hnw] at hnow
     have Hnow:=Lib.hid hnow.out
     have Hsj:=Lib.hid hsj
     have Hbs:=Lib.hid hbs
     have Hbw:=Lib.hid hbw.out
     obtain ⟨N,hN⟩ : ∃ N,N=now.length:=⟨_,rfl⟩
     obtain ⟨fn,hr1,hr2⟩:=hnow.out
     rw [← hN] at hr1 hr2
     obtain ⟨pn,kn,rfl,⟨hn1,hn2⟩,hnc⟩:=hr1
     have HNN:=Lib.hid hN
     have Hnc:=Lib.hid hnc
     have Hr2:=Lib.hid hr2
     obtain ⟨ps,ks,e,_⟩:=hsj
     obtain ⟨ns,hns⟩ : ∃ ns,ns=s.length:=⟨_,rfl⟩
     rw [← hns] at e
     have Hns:=Lib.hid hns
     rw [e] at c0 Hsj
     unfold maxLen at hn2
     obtain ⟨W0,hW0⟩ : ∃ W0,W0=wj.alloc (.cells #[] 39):=⟨_,rfl⟩
     have HO0:=Lib.hid (show OwnP2 W0 wj.heap.size wj.heap.size W0.heap.size (.slice (some ⟨wj.heap.size,0,none⟩) 0 0) [] by rw [hW0];exact OwnP2.made0 wj)
     have HB0:=Lib.hid (show Below wj.heap.size wj W0 by rw [hW0];exact below_alloc _ _)
     have HW0:=Lib.hid hW0
     obtain ⟨lo,hlo⟩ : ∃ lo,lo=wj.heap.size:=⟨_,rfl⟩
     have Hlo:=Lib.hid hlo
     rw [← hlo] at HO0 HB0
     clear hcc hs hvs hnw hdrop htake hdd hnow hbw hbs hN hr2 hnc e hns hW0
     go_wp2_with fail
     rw [← HW0.out,← Hlo.out]
     clear hlo
     go_loopg [12,51] N (fun g s12 s51 wr=> ∃ q : Nat,q≤N∧g=N - q∧s51=.int .i64 (q : Int)∧Hid (OwnP2 wr lo lo wr.heap.size s12 (stepL k n s (now.take q) []))∧Hid (AscP (stepL k n s (now.take q) [])∧BdP (stepL k n s (now.take q) []) (lnI k n s (now.take q)))∧Hid (Below lo wj wr))
     case atStart=>exact ⟨0,Nat.zero_le _,rfl,rfl,by rw [List.take_zero];exact HO0,Lib.hid (by rw [List.take_zero];exact ⟨List.Pairwise.nil,Nat.le_refl _,fun x hx=>absurd hx List.not_mem_nil⟩),HB0⟩
     case round =>
      obtain ⟨q,hq,rfl,rfl,ho3,hab,hb3⟩:=hrel
      obtain ⟨w3,rfl⟩ : ∃ x : World,x=wr:=⟨_,rfl⟩
      by_cases hqN : q < N
      ·have hqi : (q : Int) < (N : Int):=by omega
       have hlw : lo≤w3.heap.size:=by rw [Hlo.out];rw [← Hlo.out];have:=hb3.out.size;have:=Hlo.out;omega
       have HBj:=Lib.hid (show Below wj.heap.size wj w3 by rw [← Hlo.out];exact hb3.out)
       obtain ⟨bn,rfl,hcn⟩:=Hnc.out (by omega)
       have a0 : w3.cell? ⟨bn,q * 2+0,none⟩=some (fn q):=cell_below HBj.out (hcn q hqN 0 (by omega))
       have a1 : w3.cell? ⟨bn,q * 2+1,none⟩=some (.int .i64 (now.getD q clD).2):=cell_below HBj.out (hcn q hqN 1 (by omega))
       have hI:=(Hr2.out q hqN).below HBj.out
       obtain ⟨c,hcc⟩ : ∃ c,c=(now.getD q clD).2:=⟨_,rfl⟩
       obtain ⟨xs,hxx⟩ : ∃ xs,xs=(now.getD q clD).1:=⟨_,rfl⟩
       obtain ⟨y,hy⟩ : ∃ y,y=fn q:=⟨_,rfl⟩
       rw [← hcc] at a1
       rw [← hy] at a0 hI
       rw [← hxx] at hI
       have hqn : q < now.length:=by rw [← HNN.out];exact hqN
       have hbx:=HP.out.bx q hqn
       have hfs:=HP.out.fs q hqn
       have hct:=HP.out.ct q hqn
       have hxs:=HP.out.xs q hqn
       rw [← hxx] at hbx hfs hxs
       rw [← hcc] at hct
       obtain ⟨ls,hls⟩ : ∃ ls,ls=filL xs s k ((n - k : Nat) : Int):=⟨_,rfl⟩
       have hstep : stepL k n s (now.take (q+1)) []=addL c ls (stepL k n s (now.take q) []):=by rw [stepL_succ k n s now [] hqn,← hxx,← hcc,← hls]
       have hlen : lnI k n s (now.take (q+1))=lnI k n s (now.take q)+ls.length:=by rw [lnI_succ k n s now hqn,← hxx,← hls]
       have hl9 : lnI k n s (now.take (q+1))≤900:=Nat.le_trans (lnI_take k n s now _) HP.out.ln
       rw [← hls] at hxs
       have Hstep:=Lib.hid hstep
       have Hlen:=Lib.hid hlen
       obtain ⟨nx,hnx⟩ : ∃ nx,nx=stepL k n s (now.take q) []:=⟨_,rfl⟩
       obtain ⟨m0,hm0⟩ : ∃ m0,m0=lnI k n s (now.take q):=⟨_,rfl⟩
       rw [← hnx] at ho3 hab Hstep
       rw [← hm0] at hab Hlen hlen
       have Hm0:=Lib.hid hm0
       have hm9 : m0+ls.length≤900:=by rw [← hlen];exact hl9
       have Hm9:=Lib.hid hm9
       have Hct:=Lib.hid hct
       have Hxs:=Lib.hid hxs
       have hI':=hI
       obtain ⟨py,ky,rfl,_⟩:=hI'
       obtain ⟨ny,hny⟩ : ∃ ny,ny=xs.length:=⟨_,rfl⟩
       obtain ⟨W4,hW4⟩ : ∃ W4,W4=w3.alloc (.cells #[.slice py ny ky,.int .i64 c] 39):=⟨_,rfl⟩
       have hb4 : Below w3.heap.size w3 W4:=by rw [hW4];exact below_alloc _ _
       have hz4 : W4.heap[w3.heap.size]?=some (.cells #[.slice py ny ky,.int .i64 c] 39 (0,0)):=by rw [hW4];exact heap_alloc_top _ _
       rw [← hny] at a0 hI
       have hGr:=GrProduct_any (.slice py ny ky) (.slice ps ns ks) xs s k n W4 (hI.below hb4) ((Hsj.out.below HBj.out).below hb4) hbx Hbs.out hk h1 h7 hfs
       rw [← hls] at hGr
       have HGr:=Lib.hid hGr
       have e0:=cell_of_blk hz4 (j:=0) rfl
       have e1:=cell_of_blk hz4 (j:=1) rfl
       have He1:=Lib.hid e1
       have HW4:=Lib.hid hW4
       have Hb4:=Lib.hid hb4
       have Ho3:=Lib.hid ho3.out
       have Hab:=Lib.hid hab.out
       have Hb3:=Lib.hid hb3.out
       have Hlw:=Lib.hid hlw
       obtain ⟨pu,ku,rfl,_,_⟩:=ho3.out.shape
       clear hcn hcc hxx hy hqn hbx hfs hct hxs hls hstep hlen hl9 hnx hm0 hm9 hI hny hW4 hb4 hz4 hGr ho3 hab hb3 hlw e1
       rw [show q * 2+0=q * 2 by omega] at a0
       go_wp2_with fail
       rw [← HW4.out]
       refine HGr.out.mono ?_
       rintro e w5 ⟨ul,lol,rfl,hlol,hol,hascl,hbdl,hb5⟩
       have Hol:=Lib.hid hol
       obtain ⟨pl,kl,rfl,hpl1,hpl2⟩:=hol.shape
       obtain ⟨T,hT⟩ : ∃ T,T=ls.length:=⟨_,rfl⟩
       have HTT:=Lib.hid hT
       rw [← hT] at Hol hpl1 ⊢
       have Hb5:=Lib.hid hb5
       have HB35:=Lib.hid (show Below w3.heap.size w3 w5 from Hb4.out.trans (hb5.mono Hb4.out.size))
       have hB:=HB35.out.size
       have e1:=cell_below hb5 He1.out
       have HE1:=Lib.hid e1
       have hs4 : w3.heap.size≤W4.heap.size:=Hb4.out.size
       have Hlol:=Lib.hid (Nat.le_trans hs4 hlol)
       have Hs4:=Lib.hid hs4
       have HO5:=Lib.hid ((Ho3.out.below HB35.out).mono (Nat.le_refl _) hB)
       have Hob:=Lib.hid (show ∀ b,(Value.slice pu nx.length ku).ownBlock=some b→(lo≤b∧b < w3.heap.size) ∨ w5.heap.size≤b from fun b hb=>.inl (Ho3.out.blk hb))
       unfold maxLen at hpl2
       clear hlol hol hascl hbdl hb5 hT hs4 e1 HGr e0
       go_wp2_with fail
       go_loopg [12,66] T (fun g s12 s66 wr=> ∃ t : Nat,t≤T∧g=T - t∧s66=.int .i64 (t : Int)∧Hid (OwnP2 wr lo lo wr.heap.size s12 (addL c (ls.take t) nx))∧Hid (AscP (addL c (ls.take t) nx)∧BdP (addL c (ls.take t) nx) (m0+t))∧Hid (Frm lo w3.heap.size w5 wr)∧Hid (∀ b,s12.ownBlock=some b→(lo≤b∧b < w3.heap.size) ∨ w5.heap.size≤b))
       case atStart=>exact ⟨0,Nat.zero_le _,rfl,rfl,HO5,Hab,Lib.hid ⟨rfl,rfl,rfl,Nat.le_refl _,fun _ _ _=>rfl⟩,Hob⟩
       case round =>
        obtain ⟨t,ht,rfl,rfl,ho6,hab6,hf6,hob6⟩:=hrel
        obtain ⟨w6,rfl⟩ : ∃ x : World,x=wr:=⟨_,rfl⟩
        by_cases htT : t < T
        ·have htT' : (t : Int) < (T : Int):=by omega
         have htl : t < ls.length:=by rw [← HTT.out];exact htT
         obtain ⟨x1,x2⟩:=Hxs.out t htl
         have hol6:=Hol.out.frm hf6.out Hs4.out Hlol.out
         obtain ⟨gl,⟨pl',kl',e,_,hlc⟩,hli⟩:=hol6.rd
         injection e with e1 e2 e3
         subst e1 e3
         obtain ⟨bl,rfl,hlq⟩:=hlc (by omega)
         have d0 : w6.cell? ⟨bl,t * 2+0,none⟩=some (gl t):=hlq t htl 0 (by omega)
         have d1 : w6.cell? ⟨bl,t * 2+1,none⟩=some (.int .i64 (ls.getD t clD).2):=hlq t htl 1 (by omega)
         have hI6:=hli t htl
         obtain ⟨d,hd⟩ : ∃ d,d=(ls.getD t clD).2:=⟨_,rfl⟩
         obtain ⟨zs,hzs⟩ : ∃ zs,zs=(ls.getD t clD).1:=⟨_,rfl⟩
         obtain ⟨yv,hyv⟩ : ∃ yv,yv=gl t:=⟨_,rfl⟩
         rw [← hd] at d1 x1
         rw [← hzs] at hI6 x2
         rw [← hyv] at d0 hI6
         have hI6':=hI6
         obtain ⟨pz,kz,rfl,_⟩:=hI6'
         obtain ⟨nz,hnz⟩ : ∃ nz,nz=zs.length:=⟨_,rfl⟩
         rw [← hnz] at d0 hI6
         have hsucc : addL c (ls.take (t+1)) nx=sumdL zs (c * d) (addL c (ls.take t) nx):=by rw [addL_succ c ls nx htl,← hzs,← hd]
         have Hsucc:=Lib.hid hsucc
         obtain ⟨nx6,hnx6⟩ : ∃ nx6,nx6=addL c (ls.take t) nx:=⟨_,rfl⟩
         rw [← hnx6] at ho6 hab6 Hsucc
         have hm9:=Hm9.out
         have hct:=Hct.out
         obtain ⟨P,hP⟩ : ∃ P,P=c * d:=⟨_,rfl⟩
         have hP0 : 0≤P:=by rw [hP];exact Int.mul_nonneg hct.1 x1.1
         have hP1 : P≤1000000000000:=by
          rw [hP]
          have q1:=Int.mul_le_mul_of_nonneg_right hct.2 x1.1
          have q2:=Int.mul_le_mul_of_nonneg_left x1.2 (show (0 : Int)≤1000000 by decide)
          omega
         have hw1 : wrap64 (c * d)=P:=by rw [← hP];exact w64 (by omega) (by omega)
         have hw2 : IntKind.i64.wrap (c * d)=P:=by rw [← hP];exact k64 (by omega) (by omega)
         have b1:=cell_of_frm hf6.out HE1.out (Nat.le_refl _)
         obtain ⟨pu6,ku6,rfl,_,_⟩:=ho6.out.shape
         obtain ⟨W7,hW7⟩ : ∃ W7,W7=w6.alloc (.cells #[.slice pz nz kz,.int .i64 d] 39):=⟨_,rfl⟩
         have hb7 : Below w6.heap.size w6 W7:=by rw [hW7];exact below_alloc _ _
         have hz7 : W7.heap[w6.heap.size]?=some (.cells #[.slice pz nz kz,.int .i64 d] 39 (0,0)):=by rw [hW7];exact heap_alloc_top _ _
         have f0:=cell_of_blk hz7 (j:=0) rfl
         have f1:=cell_of_blk hz7 (j:=1) rfl
         have b1':=cell_below hb7 b1
         rw [hW7] at b1'
         have hlo6 : lo≤w6.heap.size:=by have:=hf6.out.size;have:=Hlw.out;omega
         have HSm:=Lib.hid (summed_any (.slice pu6 nx6.length ku6) (.slice pz nz kz) nx6 zs P lo lo W7.heap.size W7 ((ho6.out.below hb7).mono (Nat.le_refl _) hb7.size) (hI6.below hb7) hab6.out.1 (by have:=hab6.out.2.1;omega) (by omega)
          (hab6.out.2.get (by omega)) (by omega) (Nat.le_trans hlo6 hb7.size) (Nat.le_trans hlo6 hb7.size) (Nat.le_refl _))
         have HW7:=Lib.hid hW7
         have Hb7:=Lib.hid hb7
         have Hf6:=Lib.hid hf6.out
         have Hab6:=Lib.hid hab6.out
         have Hob6:=Lib.hid hob6.out
         have HPP:=Lib.hid hP
         have HPb:=Lib.hid (And.intro hP0 hP1)
         clear x1 x2 hol6 hlc hli hlq hd hzs hyv hnz hsucc hnx6 hm9 hct hP hP0 hP1 b1 hW7 hb7 hz7 hI6 ho6 hab6 hf6 hob6 hlo6 htl e2
         rw [show t * 2+0=t * 2 by omega] at d0
         go_wp2_with fail
         rw [← HW7.out]
         refine HSm.out.mono ?_
         rintro e w9 ⟨u9,rfl,ho9,hf9,hk9,hw9⟩
         rw [sumd_same] at ho9
         have HO9:=Lib.hid ho9
         have HF9:=Lib.hid hf9
         have HK9:=Lib.hid hk9
         have HW9:=Lib.hid hw9
         clear ho9 hf9 hk9 hw9 HSm b1' f0 f1
         go_wp2_with fail
         go_roundg (T - (t+1))
         case measure=>omega
         case rel =>
          have hF7 : Frm lo w3.heap.size w5 W7:=⟨Hb7.out.os.trans Hf6.out.os,Hb7.out.tape.trans Hf6.out.tape,Hb7.out.output.trans Hf6.out.output,Nat.le_trans Hf6.out.size Hb7.out.size,fun k' hk' ho'=>(Hb7.out.block k' (Nat.lt_of_lt_of_le hk' Hf6.out.size)).trans (Hf6.out.block k' hk' ho')⟩
          have hPb:=HPb.out
          refine ⟨t+1,htT,rfl,by go_num,Lib.hid (by rw [Hsucc.out,← HPP.out];exact HO9.out),Lib.hid ?_,Lib.hid (hF7.step Hob6.out HF9.out.os HF9.out.tape HF9.out.output HF9.out.size HK9.out),Lib.hid ?_⟩
          ·rw [Hsucc.out,← HPP.out,← Nat.add_assoc]
           exact ⟨sumdL_asc _ _ Hab6.out.1,Hab6.out.2.step _ (by unfold wC;omega)⟩
          ·intro b' hb'
           rcases HW9.out with h | ⟨b2,h,h2⟩
           ·exact Hob6.out b' (by rw [← h];exact hb')
           ·rw [h] at hb'
            injection hb' with hb'
            have:=Hf6.out.size
            have:=Hb7.out.size
            exact .inr (by omega)
        ·obtain rfl : t=T:=by omega
         have hb0:=Below.of_frm (Hb3.out.trans (HB35.out.mono Hlw.out)) hf6.out (Nat.le_trans Hlw.out hB)
         have HB0:=Lib.hid hb0
         have HO6:=Lib.hid ho6.out
         have HAB:=Lib.hid hab6.out
         clear hb0 ho6 hab6 hf6 hob6
         go_wp2_with fail
         go_roundg (N - (q+1))
         case measure=>omega
         case rel =>
          have e3 : ls.take t=ls:=List.take_of_length_le (by rw [HTT.out];exact Nat.le_refl _)
          have ho:=HO6.out
          have hab:=HAB.out
          rw [e3] at ho hab
          refine ⟨q+1,hqN,rfl,by go_num,Lib.hid (by rw [Hstep.out];exact ho),Lib.hid ?_,HB0⟩
          rw [Hstep.out,Hlen.out,← HTT.out]
          exact hab
      ·obtain rfl : q=N:=by omega
       have HO3:=Lib.hid ho3.out
       have HB3:=Lib.hid hb3.out
       clear ho3 hab hb3
       go_wp2_with fail
       go_roundg (i - (j+1))
       case measure=>omega
       case rel =>
        have e3 : now.take q=now:=List.take_of_length_le (by rw [HNN.out];exact Nat.le_refl _)
        have ho:=HO3.out
        rw [e3,← isnS_eq] at ho
        exact ⟨j+1,hji,rfl,by go_num,Lib.hid (by rw [HT.out];exact ho.rd),Lib.hid (Hbw.out.trans (HB3.out.mono (by rw [Hlo.out];exact Hbw.out.size))),Lib.hid (by rw [HT.out];exact HD.out)⟩
    ·obtain rfl : j=i:=by omega
     have e3 : ss.take j=ss:=List.take_of_length_le (by rw [HL.out];exact Nat.le_refl _)
     have hnow:=hnow.out
     rw [e3] at hnow
     have Hnow:=Lib.hid hnow
     have HBw:=Lib.hid hbw.out
     obtain ⟨fn,hr1,_⟩:=hnow
     obtain ⟨pn,kn,rfl,_,_⟩:=hr1
     clear hbw hdd e3
     go_wp2_with fail
     refine (block_any k n hk h7 _).mono ?_
     rintro e w8 ⟨ub,rfl,hib,hb8⟩
     have Hib:=Lib.hid hib
     have Hb8:=Lib.hid (HBw.out.trans (hb8.mono HBw.out.size))
     have Hn8:=Lib.hid (Hnow.out.below hb8)
     clear hib hb8
     go_wp2_with fail
     refine (countOf_any _ _ _ _ _ Hn8.out Hib.out).mono ?_
     rintro e w9 ⟨rfl,hb9⟩
     have Hb9:=Lib.hid (Hb8.out.trans (hb9.mono Hb8.out.size))
     clear hb9
     go_wp2_with fail
     go_ret
     exact ⟨rfl,Hb9.out⟩
end
section
open Go.RowKit
def cmpK (xs ys : List Int) : Nat→Int
 | 0=>0
 | k+1=>if xs.getD k 0=ys.getD k 0 then cmpK xs ys k else ys.getD k 0 - xs.getD k 0
def cmpT (xs ys : List Int) : Int:=cmpK xs ys 7
def rvK (xs : List Int) : Nat→List Int
 | 0=>[]
 | k+1=> -(xs.getD k 0) :: rvK xs k
def rvT (xs : List Int) : List Int:=(xs.map fun x=> -x).reverse
theorem rvK_eq (xs : List Int) : ∀ k,k≤xs.length→rvK xs k=((xs.take k).map fun x=> -x).reverse
 | 0,_=>by simp [rvK]
 | k+1,h=>by
   rw [rvK,rvK_eq xs k (by omega),List.take_succ_eq_append_getElem (by omega),List.map_append,List.reverse_append,List.getD_eq_getElem?_getD,List.getElem?_eq_getElem (show k < xs.length by omega)]
   rfl
theorem rvK_all {xs : List Int} (h : xs.length=7) : rvK xs 7=rvT xs:=by
 rw [rvK_eq xs 7 (by omega),← h,List.take_length];rfl
theorem cmpK_lt (xs ys : List Int) : ∀ k,decide (cmpK xs ys k < 0)=ltB (rvK xs k) (rvK ys k)
 | 0=>rfl
 | k+1=>by
   rw [rvK,rvK,ltB,cmpK]
   by_cases e : xs.getD k 0=ys.getD k 0
   ·rw [if_pos e,if_neg (by omega),if_neg (by omega)]
    exact cmpK_lt xs ys k
   ·rw [if_neg e]
    by_cases h : -(xs.getD k 0) < -(ys.getD k 0)
    ·rw [if_pos h];exact decide_eq_true (by omega)
    ·rw [if_neg h,if_pos (by omega)];exact decide_eq_false (by omega)
def ltT (xs ys : List Int) : Bool:=ltB (rvT xs) (rvT ys)
theorem cmpT_neg {xs ys : List Int} (hx : xs.length=7) (hy : ys.length=7) : decide (cmpT xs ys < 0)=ltT xs ys:=by
 unfold cmpT ltT
 rw [cmpK_lt,rvK_all hx,rvK_all hy]
theorem rvT_inj {xs ys : List Int} (h : rvT xs=rvT ys) : xs=ys:=by
 have h1:=List.reverse_inj.1 h
 exact (List.map_inj_right fun a b e=>by omega).1 h1
theorem ltT_irrefl (xs : List Int) : ltT xs xs=false:=ltB_irrefl _
theorem ltT_total (xs ys : List Int) (h1 : ltT xs ys=false) (h2 : ltT ys xs=false) : xs=ys:=rvT_inj (ltB_total _ _ h1 h2)
theorem ltT_trans (xs ys zs : List Int) (h1 : ltT xs ys=true) (h2 : ltT ys zs=true) : ltT xs zs=true:=ltB_trans _ _ _ h1 h2
theorem ltT_ntrans (xs ys zs : List Int) (h1 : ltT xs ys=false) (h2 : ltT ys zs=false) : ltT xs zs=false:=ltB_ntrans _ _ _ h1 h2
theorem ltT_asym {xs ys : List Int} (h : ltT xs ys=true) : ltT ys xs=false:=ltB_asym h
def insT (c : Cls) : List Cls→List Cls
 | []=>[c]
 | x :: l=>if ltT x.1 c.1 then x :: insT c l else c :: x :: l
def srtT (cs : List Cls) : List Cls:=cs.foldl (fun l c=>insT c l) []
theorem insT_perm (c : Cls) : ∀ l,(insT c l).Perm (c :: l)
 | []=>List.Perm.refl _
 | x :: l=>by
   rw [insT]
   split
   ·exact ((insT_perm c l).cons x).trans (List.Perm.swap c x l)
   ·exact List.Perm.refl _
theorem insT_fold_perm : ∀ (cs acc : List Cls),(cs.foldl (fun l c=>insT c l) acc).Perm (cs ++ acc)
 | [],acc=>List.Perm.refl _
 | c :: cs,acc=>by
   rw [List.foldl_cons]
   exact (insT_fold_perm cs _).trans (((insT_perm c acc).append_left cs).trans (List.perm_middle))
theorem srtT_perm (cs : List Cls) : (srtT cs).Perm cs:=by
 have:=insT_fold_perm cs []
 rw [List.append_nil] at this
 exact this
def AscT (cs : List Cls) : Prop:=cs.Pairwise fun a b=>ltT a.1 b.1=true
theorem insT_asc {c : Cls} : ∀ {l : List Cls},AscT l→(∀ x ∈ l,x.1 ≠ c.1)→AscT (insT c l)
 | [],_,_=>List.pairwise_singleton _ _
 | x :: l,h,hn=>by
   obtain ⟨h1,h2⟩:=List.pairwise_cons.1 h
   rw [insT]
   by_cases e : ltT x.1 c.1=true
   ·rw [if_pos e]
    refine List.pairwise_cons.2 ⟨fun y hy=> ?_,insT_asc h2 fun y hy=>hn y (List.mem_cons_of_mem _ hy)⟩
    rcases List.mem_cons.1 ((insT_perm c l).mem_iff.1 hy) with rfl | hy
    ·exact e
    ·exact h1 y hy
   ·rw [if_neg e]
    have e2 : ltT c.1 x.1=true:=by
     cases a : ltT c.1 x.1 with
     | true=>rfl
     | false=>exact absurd (ltT_total _ _ (by simpa using e) a) (hn x List.mem_cons_self)
    refine List.pairwise_cons.2 ⟨fun y hy=> ?_,h⟩
    rcases List.mem_cons.1 hy with rfl | hy
    ·exact e2
    ·exact ltT_trans _ _ _ e2 (h1 y hy)
theorem foldT_asc : ∀ (cs acc : List Cls),AscT acc→((cs ++ acc).map (·.1)).Nodup→AscT (cs.foldl (fun l c=>insT c l) acc)
 | [],acc,h,_=>h
 | c :: cs,acc,h,hn=>by
   rw [List.foldl_cons]
   have hn':=hn
   rw [List.cons_append,List.map_cons,List.nodup_cons] at hn'
   refine foldT_asc cs _ (insT_asc h fun x hx e=>hn'.1 ?_) ?_
   ·rw [← e]
    exact List.mem_map.2 ⟨x,List.mem_append_right _ hx,rfl⟩
   ·refine (List.Perm.nodup_iff ?_).2 hn
    exact (((insT_perm c acc).append_left cs).trans List.perm_middle).map _
theorem srtT_asc {cs : List Cls} (h : (cs.map (·.1)).Nodup) : AscT (srtT cs):=foldT_asc cs [] List.Pairwise.nil (by rw [List.append_nil];exact h)
theorem ascT_one : ∀ {a b : List Cls},AscT a→AscT b→a.Perm b→a=b
 | [],b,_,_,h=>(List.nil_perm.1 h).symm
 | x :: a,[],_,_,h=>absurd h.length_eq (by simp)
 | x :: a,y :: b,ha,hb,h=>by
   obtain ⟨a1,a2⟩:=List.pairwise_cons.1 ha
   obtain ⟨b1,b2⟩:=List.pairwise_cons.1 hb
   have hx : x ∈ y :: b:=h.mem_iff.1 List.mem_cons_self
   have hy : y ∈ x :: a:=h.mem_iff.2 List.mem_cons_self
   have e : x=y:=by
    rcases List.mem_cons.1 hx with e | hx
    ·exact e
    ·rcases List.mem_cons.1 hy with e | hy
     ·exact e.symm
     ·have c1:=b1 x hx
      have c2:=a1 y hy
      rw [ltT_asym c1] at c2;cases c2
   subst e
   rw [ascT_one a2 b2 (List.Perm.cons_inv h)]
theorem srtT_eq {cs cs' : List Cls} (hn : (cs.map (·.1)).Nodup) (hp : cs'.Perm cs) (hs : cs'.Pairwise fun a b=>ltT b.1 a.1=false) : cs'=srtT cs:=by
 refine ascT_one ?_ (srtT_asc hn) (hp.trans (srtT_perm cs).symm)
 have hn' : (cs'.map (·.1)).Nodup:=(List.Perm.nodup_iff (hp.map _)).2 hn
 have key : ∀ l : List Cls,(l.map (·.1)).Nodup→(l.Pairwise fun a b=>ltT b.1 a.1=false)→AscT l:=fun l=>by
  induction l with
  | nil=>exact fun _ _=>List.Pairwise.nil
  | cons x l ih =>
    intro h1 h2
    rw [List.map_cons,List.nodup_cons] at h1
    obtain ⟨p1,p2⟩:=List.pairwise_cons.1 h2
    refine List.pairwise_cons.2 ⟨fun y hy=> ?_,ih h1.2 p2⟩
    cases a : ltT x.1 y.1 with
    | true=>rfl
    | false=>exact absurd (List.mem_map.2 ⟨y,hy,ltT_total _ _ (p1 y hy) a⟩) h1.1
 exact key cs' hn' hs
end
end Go.Proofs.YtijadclebjcckaaGreat
