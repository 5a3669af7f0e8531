/-
  A part of the proof of FnTop (texts of one proof, joined).
-/
import Derived.Test.YtijadclebjcckaaGreatJ11
namespace Go.Proofs.YtijadclebjcckaaGreat
set_option linter.all false
set_option maxRecDepth 100000
set_option maxHeartbeats 16000000
section
open Go.RowKit
def shapeL (k n : Nat) (t : List Int) : List Int:=shL ((List.range k).map fun (i : Nat)=>(growL t n).getD (k - 1 - i) 0 - ((k - 1 - i : Nat) : Int))
def impP (k n : Nat) (L : List Cls) : List Cls:=(ishs k (n - k)).flatMap fun sh=>(L.filter fun x=>decide (x.1=trimL (gpW sh k n))).map fun x=>(sh,x.2)
structure ShpL (k n : Nat) (L P : List Cls) : Prop where
 mem : ∀ x ∈ L,∃ sh ∈ ishs k (n - k),x.1=trimL (gpW sh k n)∧x.2 ≠ 0
 imp : impP k n L=P
 spc : srtC (L.map fun x=>(shapeL k n x.1,x.2))=P
 nodup : (L.map fun x=>shapeL k n x.1).Nodup
 len : L.length≤6
 plen : P.length≤6
 pmem : ∀ x ∈ P,x.1.length≤4
theorem filter_oneL : ∀ (l : List (List Int)) (x : List Int),l.Nodup→x ∈ l→(l.filter fun y=>decide (y=x))=[x]
 | [],_,_,h=>by cases h
 | y :: l,x,hn,h=>by
   rw [List.nodup_cons] at hn
   by_cases e : y=x
   ·rw [List.filter_cons_of_pos (by simpa using e),e]
    congr 1
    rw [List.filter_eq_nil_iff]
    intro z hz
    simp only [decide_eq_true_eq]
    exact fun e2=>hn.1 (by rw [e,← e2];exact hz)
   ·rw [List.filter_cons_of_neg (by simpa using e)]
    exact filter_oneL l x hn.2 ((List.mem_cons.1 h).resolve_left fun e2=>e e2.symm)
theorem flatMap_if (q : List Int→Bool) (f : List Int→Cls) : ∀ G : List (List Int),(G.flatMap fun sh=>if q sh then [f sh] else [])=(G.filter q).map f
 | []=>rfl
 | sh :: G=>by
   rw [List.flatMap_cons,flatMap_if q f G]
   cases h : q sh with
   | true=>rw [List.filter_cons_of_pos h];simp
   | false=>rw [List.filter_cons_of_neg (by rw [h];decide)];simp
section
variable {n : Nat} {ys : List Int}
theorem c_zero (hy : YOk n ys) {u v : List Int} (hu : P5 n u) (hv : P5 n v) {c : List Int→Int} (h : Ex n ys (fun p=>FW n ys u p * FW n ys v p) c) {j : Nat} (hj : j+1 < n) (au : ascB j u=true) (av : ascB j v=true)
 {w : List Int} (hw : P5 n w) (aw : ascB j w=false) : c w=0:=by
 have h0 : Ex n ys (fun _=>0) (dnC j c):=fun p hp=>by
  have hd:=h.down hy.one hy.four hj hp
  have e : ∀ x,P5 n x→ascB j x=true→FW n ys x (sw j p)=FW n ys x p:=fun x hx ax=>by rw [FW_rec hx hp hj,ax];simp
  rw [e u hu au,e v hv av,Int.sub_self] at hd
  exact ((Int.mul_eq_zero.1 hd.symm).resolve_left (df_ne hy.dst hp hj)).symm
 have h1:=h0.nil hy.len hy.one hy.four hy.dst _ (sw j w) rfl (hw.sw hj)
 unfold dnC at h1
 rw [(hw.desc hj aw).2,if_pos rfl,sw_sw (by have:=hw.len;omega)] at h1
 exact h1
theorem gp_asc {k : Nat} (S : ShpIs n k) {sh : List Int} (hs : sh ∈ ishs k (n - k)) {j : Nat} (hj : j+1 < n) (hk : j+1 ≠ k) : ascB j (gpW sh k n)=true:=by
 have hm : gpW sh k n ∈ (permsL n).filter (grB k n):=S.perm.mem_iff.2 (List.mem_map.2 ⟨sh,hs,rfl⟩)
 have hg:=(List.mem_filter.1 hm).2
 unfold grB at hg
 rw [List.all_eq_true] at hg
 have:=hg j (by simp;omega)
 simpa [hk] using this
theorem c_gr (hy : YOk n ys) {k : Nat} (S : ShpIs n k) {a b : List Int} (ha : a ∈ ishs k (n - k)) (hb : b ∈ ishs k (n - k)) {c : List Int→Int} (h : Ex n ys (fun p=>FW n ys (gpW a k n) p * FW n ys (gpW b k n) p) c)
 {w : List Int} (hw : P5 n w) (hg : grB k n w=false) : c w=0:=by
 unfold grB at hg
 rw [List.all_eq_false] at hg
 obtain ⟨j,hj,hn⟩:=hg
 have hj' : j+1 < n:=by have:=List.mem_range.1 hj;omega
 simp only [Bool.or_eq_true,decide_eq_true_eq,not_or] at hn
 have hn2 : ascB j w=false:=by cases e : ascB j w with
  | true=>exact absurd e hn.2
  | false=>rfl
 exact c_zero hy (S.p5 a ha) (S.p5 b hb) h hj' (gp_asc S ha hj' hn.1) (gp_asc S hb hj' hn.1) hw hn2
theorem gp_inj {k : Nat} (S : ShpIs n k) {s t : List Int} (hs : s ∈ ishs k (n - k)) (ht : t ∈ ishs k (n - k)) (e : gpW s k n=gpW t k n) : s=t:=by
 rw [← S.back s hs,e,S.back t ht]
theorem shape_back {k : Nat} (S : ShpIs n k) {s : List Int} (hs : s ∈ ishs k (n - k)) : shapeL k n (trimL (gpW s k n))=s:=by
 unfold shapeL
 rw [S.grow s hs,S.back s hs]
theorem sum_shapes (hy : YOk n ys) {k : Nat} (S : ShpIs n k) {c : List Int→Int} (hc : ∀ w,P5 n w→grB k n w=false→c w=0) :
 (sumC n c).Perm (((ishs k (n - k)).filter fun sh=> !decide (c (gpW sh k n)=0)).map fun sh=>(trimL (gpW sh k n),c (gpW sh k n))):=by
 have OI:=ordIs hy.one hy.four
 have A:=aL hy.one hy.four
 have p1 : (sumC n c).Perm (((List.range (fact n)).filter fun x=> !decide (c (pmA n x)=0)).map fun x=>(trimL (pmA n x),c (pmA n x))):=by
  unfold sumC
  exact (srtC_perm _).trans ((OI.perm.filter _).map _)
 have e2 : (((List.range (fact n)).filter fun x=> !decide (c (pmA n x)=0)).map fun x=>(trimL (pmA n x),c (pmA n x)))=((permsL n).filter fun w=> !decide (c w=0)).map fun w=>(trimL w,c w):=by
  rw [← perms_map n,List.filter_map,List.map_map];rfl
 have e3 : ((permsL n).filter fun w=> !decide (c w=0))=((permsL n).filter (grB k n)).filter fun w=> !decide (c w=0):=by
  rw [List.filter_filter]
  refine List.filter_congr fun w hw=> ?_
  cases hg : grB k n w with
  | true=>simp
  | false=>simp [hc w ((A.mem w).1 hw) hg]
 have p4 : (((permsL n).filter (grB k n)).filter fun w=> !decide (c w=0)).Perm (((ishs k (n - k)).filter fun sh=> !decide (c (gpW sh k n)=0)).map fun sh=>gpW sh k n):=by
  have:=S.perm.filter fun w=> !decide (c w=0)
  rw [List.filter_map] at this
  exact this
 rw [e2,e3] at p1
 have:=p4.map fun w=>(trimL w,c w)
 rw [List.map_map] at this
 exact p1.trans this
theorem shp_sum (hy : YOk n ys) {k : Nat} (S : ShpIs n k) {c : List Int→Int} (hc : ∀ w,P5 n w→grB k n w=false→c w=0) : ∃ P,ShpL k n (sumC n c) P:=by
 obtain ⟨G,hG⟩ : ∃ G,G=ishs k (n - k):=⟨_,rfl⟩
 obtain ⟨q,hq⟩ : ∃ q : List Int→Bool,q=fun sh=> !decide (c (gpW sh k n)=0):=⟨_,rfl⟩
 have hp:=sum_shapes hy S hc
 rw [← hq] at hp
 have hnd : (ishs k (n - k)).Nodup:=S.asc.imp fun {a b} h e=>by rw [e,ltB_irrefl] at h;cases h
 have hkey : (((ishs k (n - k)).filter q).map fun sh=>((trimL (gpW sh k n),c (gpW sh k n)) : Cls)).map (fun x=>((shapeL k n x.1,x.2) : Cls))=((ishs k (n - k)).filter q).map fun sh=>(sh,c (gpW sh k n)):=by
  rw [List.map_map]
  refine List.map_congr_left fun sh hs=> ?_
  have:=(List.mem_filter.1 hs).1
  show (shapeL k n (trimL (gpW sh k n)),c (gpW sh k n))=_
  rw [shape_back S this]
 have hperm2 : ((sumC n c).map fun x=>((shapeL k n x.1,x.2) : Cls)).Perm (((ishs k (n - k)).filter q).map fun sh=>(sh,c (gpW sh k n))):=by
  rw [← hkey]
  exact hp.map _
 have hk1 : (((ishs k (n - k)).filter q).map fun sh=>((sh,c (gpW sh k n)) : Cls)).map (·.1)=(ishs k (n - k)).filter q:=by
  rw [List.map_map]
  exact List.map_id _
 have hnq : ((ishs k (n - k)).filter q).Nodup:=hnd.sublist List.filter_sublist
 have hlenq : ((ishs k (n - k)).filter q).length≤6:=Nat.le_trans (List.length_filter_le _ _) S.six
 refine ⟨((ishs k (n - k)).filter q).map fun sh=>(sh,c (gpW sh k n)),⟨fun x hx=> ?_,?_,?_,?_,?_,?_,fun x hx=> ?_⟩⟩
 ·obtain ⟨sh,hs,e⟩:=List.mem_map.1 (hp.mem_iff.1 hx)
  obtain ⟨h1,h2⟩:=List.mem_filter.1 hs
  refine ⟨sh,h1,by rw [← e],?_⟩
  rw [← e]
  rw [hq] at h2
  simpa using h2
 ·have hone : ∀ sh ∈ ishs k (n - k),((sumC n c).filter fun x=>decide (x.1=trimL (gpW sh k n)))=if q sh then [(trimL (gpW sh k n),c (gpW sh k n))] else []:=fun sh hs=>by
   have h1:=hp.filter fun x=>decide (x.1=trimL (gpW sh k n))
   rw [List.filter_map,List.filter_filter] at h1
   have h2 : ((ishs k (n - k)).filter fun a=>((fun x : Cls=>decide (x.1=trimL (gpW sh k n))) ∘ fun sh=>(trimL (gpW sh k n),c (gpW sh k n))) a && q a)=((ishs k (n - k)).filter fun y=>decide (y=sh)).filter q:=by
    rw [List.filter_filter]
    refine List.filter_congr fun s hss=> ?_
    by_cases e : s=sh
    ·rw [e];simp
    ·have : ¬ trimL (gpW s k n)=trimL (gpW sh k n):=fun h=>e (gp_inj S hss hs (trim_inj hy.one hy.four (S.p5 s hss) (S.p5 sh hs) h))
     simp [e,this]
   rw [h2,filter_oneL _ sh hnd hs] at h1
   cases hqs : q sh with
   | true =>
     rw [List.filter_cons_of_pos hqs] at h1
     simp only [List.filter_nil,List.map_cons,List.map_nil] at h1
     rw [List.perm_singleton.1 h1];rfl
   | false =>
     rw [List.filter_cons_of_neg (by rw [hqs];decide)] at h1
     simp only [List.filter_nil,List.map_nil] at h1
     rw [List.perm_nil.1 h1];rfl
  unfold impP
  rw [← flatMap_if q (fun sh=>(sh,c (gpW sh k n)))]
  have fm : ∀ G : List (List Int),(∀ sh ∈ G,sh ∈ ishs k (n - k))→(G.flatMap fun sh=>((sumC n c).filter fun x=>decide (x.1=trimL (gpW sh k n))).map fun x=>((sh,x.2) : Cls))=G.flatMap fun sh=>if q sh then [(sh,c (gpW sh k n))] else []:=fun G=>by
   induction G with
   | nil=>exact fun _=>rfl
   | cons sh G ih =>
     intro h
     rw [List.flatMap_cons,List.flatMap_cons,ih fun s hs=>h s (List.mem_cons_of_mem _ hs),hone sh (h sh List.mem_cons_self)]
     cases q sh <;> rfl
  exact fm _ fun _ h=>h
 ·refine (srtC_eq ?_ hperm2.symm ?_).symm
  ·refine (List.Perm.nodup_iff (hperm2.map (·.1))).2 ?_
   rw [hk1];exact hnq
  ·refine List.Pairwise.map _ (fun {a b} h=> ?_) (S.asc.sublist (List.filter_sublist (p:=q)))
   exact ltB_asym h
 ·have:=(List.Perm.nodup_iff (hperm2.map (·.1))).2 (by rw [hk1];exact hnq)
  rw [List.map_map] at this
  exact this
 ·rw [hp.length_eq,List.length_map];exact hlenq
 ·rw [List.length_map];exact hlenq
 ·obtain ⟨sh,hs,e⟩:=List.mem_map.1 hx
  rw [← e]
  exact S.short sh (List.mem_filter.1 hs).1
theorem shp_eq (hy : YOk n ys) {k : Nat} (hk : k≤n) {a b : List Int} (ha : bxOk a k n=true) (hb : bxOk b k n=true) : ∃ L P,eqL (gpW a k n) (gpW b k n) ys=(L,true)∧ShpL k n L P:=by
 have S:=shpIs hy.one hy.four hk
 have ma:=bx_mem ha hk
 have mb:=bx_mem hb hk
 have pa:=S.p5 a ma
 have pb:=S.p5 b mb
 obtain ⟨c,hc,_,hE⟩:=expE_prod hy pa pb
 obtain ⟨P,hP⟩:=shp_sum hy S (c:=c) fun w hw hg=>c_gr hy S ma mb hc hw hg
 refine ⟨sumC n c,P,?_,hP⟩
 have hok : eqOk (gpW a k n) (gpW b k n) ys=true:=by
  unfold eqOk
  rw [pa.ok,pb.ok,pa.len,pb.len,hy.ap];simp
 rw [eqL_yes hok,pa.len,hE]
end
abbrev Mo:=Nat × Nat × Nat
abbrev PA:=List (Mo × Int)
def moMul (a b : Mo) : Mo:=(a.1+b.1,a.2.1+b.2.1,a.2.2+b.2.2)
def moEq (a b : Mo) : Bool:=Nat.beq a.1 b.1 && Nat.beq a.2.1 b.2.1 && Nat.beq a.2.2 b.2.2
def al (ys : List Int) (t : Nat) : Int:=ys.getD (t+1) 0 - ys.getD t 0
def moV (ys : List Int) (a : Mo) : Int:=al ys 0 ^ a.1 * al ys 1 ^ a.2.1 * al ys 2 ^ a.2.2
def evA (ys : List Int) : PA→Int
 | []=>0
 | t :: P=>t.2 * moV ys t.1+evA ys P
theorem moEq_eq {a b : Mo} (h : moEq a b=true) : a=b:=by
 unfold moEq at h
 rw [Bool.and_eq_true,Bool.and_eq_true] at h
 obtain ⟨⟨h1,h2⟩,h3⟩:=h
 obtain ⟨a0,a1,a2⟩:=a
 obtain ⟨b0,b1,b2⟩:=b
 have e1:=Nat.eq_of_beq_eq_true h1
 have e2:=Nat.eq_of_beq_eq_true h2
 have e3:=Nat.eq_of_beq_eq_true h3
 dsimp only at e1 e2 e3
 rw [e1,e2,e3]
theorem moV_mul (ys : List Int) (a b : Mo) : moV ys (moMul a b)=moV ys a * moV ys b:=by
 unfold moV moMul
 simp only [Int.pow_add]
 grind
theorem evA_append (ys : List Int) : ∀ P Q : PA,evA ys (P ++ Q)=evA ys P+evA ys Q
 | [],Q=>by simp [evA]
 | t :: P,Q=>by rw [List.cons_append,evA,evA,evA_append ys P Q];omega
def addA (t : Mo × Int) : PA→PA
 | []=>[t]
 | s :: P=>if moEq s.1 t.1 then (s.1,s.2+t.2) :: P else s :: addA t P
theorem evA_add (ys : List Int) (t : Mo × Int) : ∀ P : PA,evA ys (addA t P)=t.2 * moV ys t.1+evA ys P
 | []=>by simp [addA,evA]
 | s :: P=>by
   unfold addA
   cases h : moEq s.1 t.1 with
   | true =>
     rw [if_pos rfl,evA,evA,moEq_eq h]
     dsimp only
     rw [Int.add_mul]
     omega
   | false =>
     rw [if_neg (by decide),evA,evA,evA_add ys t P]
     omega
def sumA (P Q : PA) : PA:=P.foldl (fun acc t=>addA t acc) Q
theorem evA_sum (ys : List Int) : ∀ P Q : PA,evA ys (sumA P Q)=evA ys P+evA ys Q
 | [],Q=>by simp [sumA,evA]
 | t :: P,Q=>by
   show evA ys (sumA P (addA t Q))=_
   rw [evA_sum ys P,evA_add,evA]
   omega
def mulM (t : Mo × Int) (Q : PA) : PA:=Q.map fun s=>(moMul t.1 s.1,t.2 * s.2)
theorem evA_mulM (ys : List Int) (t : Mo × Int) : ∀ Q : PA,evA ys (mulM t Q)=t.2 * moV ys t.1 * evA ys Q
 | []=>by simp [mulM,evA]
 | s :: Q=>by
   have ih:=evA_mulM ys t Q
   show (t.2 * s.2) * moV ys (moMul t.1 s.1)+evA ys (mulM t Q)=_
   rw [ih,moV_mul,evA]
   grind
def mulA (P Q R : PA) : PA:=P.foldl (fun acc t=>sumA (mulM t Q) acc) R
theorem evA_mul (ys : List Int) (Q : PA) : ∀ P R : PA,evA ys (mulA P Q R)=evA ys P * evA ys Q+evA ys R
 | [],R=>by simp [mulA,evA]
 | t :: P,R=>by
   show evA ys (mulA P Q (sumA (mulM t Q) R))=_
   rw [evA_mul ys Q P,evA_sum,evA_mulM,evA]
   grind
def negA (P : PA) : PA:=P.map fun t=>(t.1,-t.2)
theorem evA_neg (ys : List Int) : ∀ P : PA,evA ys (negA P) = -(evA ys P)
 | []=>by simp [negA,evA]
 | t :: P=>by
   have ih:=evA_neg ys P
   show -t.2 * moV ys t.1+evA ys (negA P)=_
   rw [ih,evA,Int.neg_mul]
   omega
def nulA (P : PA) : Bool:=P.all fun t=>t.2 == 0
theorem evA_nul (ys : List Int) : ∀ P : PA,nulA P=true→evA ys P=0
 | [],_=>rfl
 | t :: P,h=>by
   unfold nulA at h
   rw [List.all_cons,Bool.and_eq_true] at h
   have e : t.2=0:=by simpa using h.1
   rw [evA,e,evA_nul ys P h.2]
   simp
def oneA : PA:=[((0,0,0),1)]
theorem evA_one (ys : List Int) : evA ys oneA=1:=by simp [oneA,evA,moV]
def varA (t : Nat) (c : Int) : Mo × Int:=(if t=0 then (1,0,0) else if t=1 then (0,1,0) else (0,0,1),c)
def difA (i j : Nat) : PA:=if i < j then (List.range (j - i)).map fun t=>varA (i+t) 1 else (List.range (i - j)).map fun t=>varA (j+t) (-1)
theorem difA_ev (ys : List Int) : ∀ i j : Nat,i < 4→j < 4→evA ys (difA i j)=ys.getD j 0 - ys.getD i 0:=fun i j hi hj=>by
 have h1 : i=0 ∨ i=1 ∨ i=2 ∨ i=3:=by omega
 have h2 : j=0 ∨ j=1 ∨ j=2 ∨ j=3:=by omega
 rcases h1 with rfl | rfl | rfl | rfl <;> rcases h2 with rfl | rfl | rfl | rfl <;> simp [difA,varA,evA,moV,al,List.range_succ,Int.pow_succ] <;> omega
def sumSA (v : List Int) : List Nat→List Int→List Int→PA
 | [],_,h=>if h=v then oneA else []
 | k :: r,u,h=>if ascB k h then mulA (difA (u.getD k 0).toNat (u.getD (k+1) 0).toNat) (sumSA v r (sw k u) (sw k h)) (sumSA v r (sw k u) h) else sumSA v r (sw k u) h
def Let4 (n : Nat) (u : List Int) : Prop:=u.length=n ∧ ∀ i,i < n→0≤u.getD i 0∧u.getD i 0 < 4
theorem Let4.sw {n k : Nat} {u : List Int} (h : Let4 n u) (hk : k+1 < n) : Let4 n (sw k u):=by
 refine ⟨by rw [sw_length];exact h.1,fun i hi=> ?_⟩
 rw [sw_getD (by rw [h.1];exact hk)]
 split
 ·exact h.2 k (by omega)
 ·split
  ·exact h.2 (k+1) hk
  ·exact h.2 i hi
theorem sumSA_ev {n : Nat} (ys v : List Int) : ∀ (r : List Nat) (u h : List Int),Let4 n u→(∀ j ∈ r,j+1 < n)→evA ys (sumSA v r u h)=sumS v ys r u h
 | [],u,h,_,_=>by
   unfold sumSA sumS
   split
   ·exact evA_one ys
   ·rfl
 | k :: r,u,h,hu,hr=>by
   have hk : k+1 < n:=hr k List.mem_cons_self
   have hr' : ∀ j ∈ r,j+1 < n:=fun j hj=>hr j (List.mem_cons_of_mem _ hj)
   have i1:=sumSA_ev ys v r (Go.Proofs.YtijadclebjcckaaGreat.sw k u) h (hu.sw hk) hr'
   have i2:=sumSA_ev ys v r (Go.Proofs.YtijadclebjcckaaGreat.sw k u) (Go.Proofs.YtijadclebjcckaaGreat.sw k h) (hu.sw hk) hr'
   unfold sumSA sumS
   cases ascB k h with
   | true =>
     have a:=hu.2 k (by omega)
     have b:=hu.2 (k+1) hk
     rw [if_pos rfl,if_pos rfl,evA_mul,i1,i2,difA_ev ys _ _ (by omega) (by omega)]
     omega
   | false =>
     rw [if_neg (by decide),if_neg (by decide),i1]
     omega
def fwA (n : Nat) (v p : List Int) : PA:=sumSA v (fstL p) (idL n) (idL n)
theorem id_let4 : ∀ n : Fin 5,Let4 n.val (idL n.val):=by
 intro n
 refine ⟨by unfold idL;simp,fun i hi=> ?_⟩
 have : ∀ n : Fin 5,∀ i : Fin 4,i.val < n.val→0≤(idL n.val).getD i.val 0∧(idL n.val).getD i.val 0 < 4:=by decide
 exact this n ⟨i,by omega⟩ hi
theorem fwA_ev {n : Nat} {ys v p : List Int} (hv : P5 n v) (hp : P5 n p) (hy : ys.length=n) (h1 : 1≤n) (h4 : n≤4) : evA ys (fwA n v p)=FW n ys v p:=by
 have h:=wrd_at hp
 unfold fwA
 rw [sumSA_ev (n:=n) ys v _ _ _ (id_let4 ⟨n,by omega⟩) h.2.1]
 have:=sum_val hy h1 hp.le _ (fstL p) v rfl hv h.2.1
 rw [h.1] at this
 exact this.symm
def gsK (A : List Int) (t : Nat) (j : Nat) : Int:=if (j : Int) ∈ A.take t then 1 else 0
def gsL (sh : List Int) (k n : Nat) : List Int:=(List.range n).map fun j=>gsK (gpA sh k k) k j
theorem gsL_length (sh : List Int) (k n : Nat) : (gsL sh k n).length=n:=by simp [gsL]
theorem gsL_getD {sh : List Int} {k n j : Nat} (h : j < n) : (gsL sh k n).getD j 0=gsK (gpA sh k k) k j:=by simp [gsL,List.getD_eq_getElem?_getD,h]
theorem gsK_succ {A : List Int} {t j : Nat} (ht : t < A.length) : gsK A (t+1) j=if (j : Int)=A.getD t 0 then 1 else gsK A t j:=by
 unfold gsK
 rw [List.take_succ,List.getElem?_eq_getElem ht,getD_lt ht]
 simp only [Option.toList,List.mem_append,List.mem_singleton]
 by_cases e : (j : Int)=A[t] <;> simp [e]
abbrev Tr:=Int × Int × Int
def triL : List Tr:=[(0,0,0),(1,1,1),(0,1,2),(1,2,0),(2,0,1),(1,0,3)]
def atN (r k : Nat) : Nat:=r * (r+1) / 2+k
structure Puz where
 L : List Int
 R : List Int
 B : List Int
def fitB (n : Nat) (a b : List Int) (p : Puz) (r k : Nat) (t : Tr) : Bool :=
 !(decide (k=0) && !decide (t.1=a.getD (n - 1 - r) 0)) && !(decide (0 < k) && !decide ((t.1,p.R.getD (atN r k - 1) 0,p.B.getD (atN (r - 1) (k - 1)) 0) ∈ triL)) &&
   !(decide (k=r) && !decide (t.2.1=b.getD r 0)) && !(decide (r+1=n) && decide (1 < t.2.2))
def Puz.put (p : Puz) (t : Tr) : Puz:=⟨p.L ++ [t.1],p.R ++ [t.2.1],p.B ++ [t.2.2]⟩
def tileL (n : Nat) (a b : List Int) : Nat→Nat→Nat→Puz→List Puz
 | 0,_,_,p=>[p]
 | f+1,r,k,p=>triL.flatMap fun t=>if fitB n a b p r k t then (if k=r then tileL n a b f (r+1) 0 (p.put t) else tileL n a b f r (k+1) (p.put t)) else []
def puzL (n : Nat) (a b : List Int) : List Puz:=tileL n a b (n * (n+1) / 2) 0 0 ⟨[],[],[]⟩
def thirdL (n : Nat) (p : Puz) : List Int:=(List.range n).map fun (r : Nat)=>p.B.getD (atN (n - 1) r) 0
def cellsL (n : Nat) : List (Nat × Nat):=(List.range n).flatMap fun r=>(List.range (r+1)).map fun k=>(r,k)
def wtA (n : Nat) (p : Puz) : PA:=(cellsL n).foldl (fun P c=>if p.B.getD (atN c.1 c.2) 0=3 then mulA P (difA c.2 (c.2+n - 1 - c.1)) [] else P) oneA
def wtI (n : Nat) (ys : List Int) (p : Puz) : Int:=(cellsL n).foldl (fun x c=>if p.B.getD (atN c.1 c.2) 0=3 then x * (ys.getD (c.2+n - 1 - c.1) 0 - ys.getD c.2 0) else x) 1
theorem cellsL_in {n : Nat} {c : Nat × Nat} (h : c ∈ cellsL n) : c.2 < n∧c.2+n - 1 - c.1 < n:=by
 unfold cellsL at h
 obtain ⟨r,hr,h⟩:=List.mem_flatMap.1 h
 obtain ⟨k,hk,rfl⟩:=List.mem_map.1 h
 rw [List.mem_range] at hr hk
 dsimp only
 omega
theorem wt_fold {n : Nat} (h4 : n≤4) (ys : List Int) (p : Puz) : ∀ (l : List (Nat × Nat)) (P : PA) (x : Int),(∀ c ∈ l,c.2 < n∧c.2+n - 1 - c.1 < n)→evA ys P=x →
 evA ys (l.foldl (fun P c=>if p.B.getD (atN c.1 c.2) 0=3 then mulA P (difA c.2 (c.2+n - 1 - c.1)) [] else P) P)=l.foldl (fun x c=>if p.B.getD (atN c.1 c.2) 0=3 then x * (ys.getD (c.2+n - 1 - c.1) 0 - ys.getD c.2 0) else x) x
 | [],P,x,_,h=>h
 | c :: l,P,x,hc,h=>by
   rw [List.foldl_cons,List.foldl_cons]
   refine wt_fold h4 ys p l _ _ (fun c hc'=>hc c (List.mem_cons_of_mem _ hc')) ?_
   split
   ·obtain ⟨q1,q2⟩:=hc c List.mem_cons_self
    rw [evA_mul,difA_ev ys _ _ (by omega) (by omega),h]
    simp [evA]
   ·exact h
theorem wt_ev {n : Nat} (h4 : n≤4) (ys : List Int) (p : Puz) : evA ys (wtA n p)=wtI n ys p :=
 wt_fold h4 ys p _ _ _ (fun c hc=>cellsL_in hc) (evA_one ys)
def strSh (s : List Int) : List Int:=shL (ssR s s.length)
def wsA (n : Nat) (sh : List Int) (ps : List Puz) : PA:=ps.foldl (fun P p=>if strSh (thirdL n p)=sh then sumA (wtA n p) P else P) []
def wsI (n : Nat) (ys : List Int) (sh : List Int) (ps : List Puz) : Int:=ps.foldl (fun x p=>if strSh (thirdL n p)=sh then x+wtI n ys p else x) 0
theorem ws_fold {n : Nat} (h4 : n≤4) (ys sh : List Int) : ∀ (ps : List Puz) (P : PA) (x : Int),evA ys P=x →
 evA ys (ps.foldl (fun P p=>if strSh (thirdL n p)=sh then sumA (wtA n p) P else P) P)=ps.foldl (fun x p=>if strSh (thirdL n p)=sh then x+wtI n ys p else x) x
 | [],_,_,h=>h
 | p :: ps,P,x,h=>by
   rw [List.foldl_cons,List.foldl_cons]
   refine ws_fold h4 ys sh ps _ _ ?_
   split
   ·rw [evA_sum,wt_ev h4,h];omega
   ·exact h
theorem ws_ev {n : Nat} (h4 : n≤4) (ys sh : List Int) (ps : List Puz) : evA ys (wsA n sh ps)=wsI n ys sh ps:=ws_fold h4 ys sh ps [] 0 rfl
def wtB1 (n k : Nat) (a b p : List Int) : Bool :=
 nulA (mulA (fwA n (gpW a k n) (gpW p k n)) (fwA n (gpW b k n) (gpW p k n)) (negA ((ishs k (n - k)).foldl (fun acc s=>mulA (wsA n s (puzL n (gsL a k n) (gsL b k n))) (fwA n (gpW s k n) (gpW p k n)) acc) [])))
def wtB (n k : Nat) : Bool:=(ishs k (n - k)).all fun a=>(ishs k (n - k)).all fun b=>(ishs k (n - k)).all fun p=>wtB1 n k a b p
theorem wt_dec : ∀ n : Fin 4,((List.range (n.val+2)).all fun k=>wtB (n.val+1) k)=true:=by decide +kernel
theorem wt_at {n k : Nat} (h1 : 1≤n) (h4 : n≤4) (hk : k≤n) {a b p : List Int} (ha : a ∈ ishs k (n - k)) (hb : b ∈ ishs k (n - k)) (hp : p ∈ ishs k (n - k)) : wtB1 n k a b p=true:=by
 have:=wt_dec ⟨n - 1,by omega⟩
 rw [show (⟨n - 1,by omega⟩ : Fin 4).val+1=n by simp;omega,show (⟨n - 1,by omega⟩ : Fin 4).val+2=n+1 by simp;omega] at this
 rw [List.all_eq_true] at this
 have:=this k (List.mem_range.2 (by omega))
 unfold wtB at this
 rw [List.all_eq_true] at this
 have:=this a ha
 rw [List.all_eq_true] at this
 have:=this b hb
 rw [List.all_eq_true] at this
 exact this p hp
theorem evA_foldS (ys : List Int) (f g : List Int→PA) : ∀ (l : List (List Int)) (acc : PA),evA ys (l.foldl (fun acc s=>mulA (f s) (g s) acc) acc)=(l.map fun s=>evA ys (f s) * evA ys (g s)).sum+evA ys acc
 | [],acc=>by simp
 | s :: l,acc=>by
   rw [List.foldl_cons,evA_foldS ys f g l,evA_mul,List.map_cons,List.sum_cons]
   omega
def wsN (n k : Nat) (ys a b s : List Int) : Int:=wsI n ys s (puzL n (gsL a k n) (gsL b k n))
section
variable {n k : Nat} {ys a b : List Int}
theorem wt_gr (hy : YOk n ys) (hk : k≤n) (ha : a ∈ ishs k (n - k)) (hb : b ∈ ishs k (n - k)) {p : List Int} (hp : p ∈ ishs k (n - k)) :
 FW n ys (gpW a k n) (gpW p k n) * FW n ys (gpW b k n) (gpW p k n)=((ishs k (n - k)).map fun s=>wsN n k ys a b s * FW n ys (gpW s k n) (gpW p k n)).sum:=by
 have S:=shpIs hy.one hy.four hk
 have h:=evA_nul ys _ (wt_at hy.one hy.four hk ha hb hp)
 rw [evA_mul,evA_neg,evA_foldS,fwA_ev (S.p5 a ha) (S.p5 p hp) hy.len hy.one hy.four,fwA_ev (S.p5 b hb) (S.p5 p hp) hy.len hy.one hy.four] at h
 have e : ((ishs k (n - k)).map fun s=>evA ys (wsA n s (puzL n (gsL a k n) (gsL b k n))) * evA ys (fwA n (gpW s k n) (gpW p k n)))=(ishs k (n - k)).map fun s=>wsN n k ys a b s * FW n ys (gpW s k n) (gpW p k n):=by
  refine List.map_congr_left fun s hs=> ?_
  rw [ws_ev hy.four,fwA_ev (S.p5 s hs) (S.p5 p hp) hy.len hy.one hy.four]
  rfl
 rw [e] at h
 simp only [evA] at h
 omega
theorem wt_all (hy : YOk n ys) (hk : k≤n) (ha : a ∈ ishs k (n - k)) (hb : b ∈ ishs k (n - k)) : ∀ (m : Nat) (p : List Int),lnN p=m→P5 n p →
 FW n ys (gpW a k n) p * FW n ys (gpW b k n) p=((ishs k (n - k)).map fun s=>wsN n k ys a b s * FW n ys (gpW s k n) p).sum:=by
 have S:=shpIs hy.one hy.four hk
 intro m
 induction m using Nat.strongRecOn with
 | _ m ih =>
   intro p hm hp
   cases hg : grB k n p with
   | true =>
     have hm : p ∈ (permsL n).filter (grB k n):=List.mem_filter.2 ⟨perm_mem hp.ok (by rw [hp.len];exact Nat.le_trans hy.four (by omega)) |> fun h=>by rw [hp.len] at h;exact h,hg⟩
     obtain ⟨s,hs,e⟩:=List.mem_map.1 (S.perm.mem_iff.1 hm)
     rw [← e]
     exact wt_gr hy hk ha hb hs
   | false =>
     unfold grB at hg
     rw [List.all_eq_false] at hg
     obtain ⟨j,hj,hn⟩:=hg
     have hj' : j+1 < n:=by have:=List.mem_range.1 hj;omega
     simp only [Bool.or_eq_true,decide_eq_true_eq,not_or] at hn
     have hn2 : ascB j p=false:=by cases e : ascB j p with
      | true=>exact absurd e hn.2
      | false=>rfl
     have hu:=hp.sw hj'
     have hl:=len_desc hp hj' hn2
     have h1:=ih (lnN (sw j p)) (by omega) (sw j p) rfl hu
     have ss : sw j (sw j p)=p:=sw_sw (by rw [hp.len];exact hj')
     have e : ∀ s,s ∈ ishs k (n - k)→FW n ys (gpW s k n) p=FW n ys (gpW s k n) (sw j p):=fun s hs=>by
      have h2:=FW_rec (ys:=ys) (S.p5 s hs) hu hj'
      rw [ss,gp_asc S hs hj' hn.1] at h2
      simpa using h2
     rw [e a ha,e b hb,h1]
     congr 1
     refine List.map_congr_left fun s hs=> ?_
     rw [e s hs]
end
theorem implAp_c (N : Int) (v : Value) (y : List Int) (b : Bool) (hb : apOk N y=b) (w : World) (h : Ints w v y) : Calls Tryz.prog 36 #[.int .i64 N,v] w fun e w'=>e=.returned (.bool b)∧Below w.heap.size w w' :=
 (weightsOk_any N v y w h).mono fun e w' ⟨h1,h2⟩=>⟨by rw [h1,hb],h2.below _⟩
theorem implEqui_any (pu pv py : Value) (us vs ys : List Int) (w : World) (hu : Ints w pu us) (hv : Ints w pv vs) (hy : Ints w py ys) :
 Calls Tryz.prog 37 #[pu,pv,py] w (RetCB w (eqL us vs ys)):=by
 have HU:=Lib.hid hu
 have HV:=Lib.hid hv
 have HY:=Lib.hid hy
 obtain ⟨au,cu,rfl,⟨hu1,hu2⟩,hux⟩:=hu
 obtain ⟨av,cv,rfl,⟨hv1,hv2⟩,hvx⟩:=hv
 obtain ⟨ay,cy,rfl,⟨hy1,hy2⟩,hyx⟩:=hy
 clear hux hvx hyx
 unfold maxLen at hu2 hv2 hy2
 have no : ∀ w',eqOk us vs ys=false→Below w.heap.size w w'→RetCB w (eqL us vs ys) (.returned (.tuple #[.slice none 0 0,.bool false])) w':=fun w' h hb=>by rw [eqL_no h];exact ⟨_,rfl,OwnCd.nil _ _ _,hb⟩
 have No:=Lib.hid no
 clear no
 go_enter Tryz.func37,Tryz.ntmps37
 cases h1 : permOk us with
 | false =>
   have H1:=Lib.hid h1
   clear h1
   go_wp2_with fail
   refine (implIsPerm_b _ us false H1.out _ HU.out).mono ?_
   rintro e w1 ⟨rfl,hb⟩
   have Hb:=Lib.hid hb
   clear hb
   go_wp2_with fail
   go_ret2
   exact No.out _ (by unfold eqOk;rw [H1.out];rfl) Hb.out
 | true =>
 cases h2 : permOk vs with
 | false =>
   have H1:=Lib.hid h1
   have H2:=Lib.hid h2
   clear h1 h2
   go_wp2_with fail
   refine (implIsPerm_b _ us true H1.out _ HU.out).mono ?_
   rintro e w1 ⟨rfl,hb⟩
   have Hb:=Lib.hid hb
   clear hb
   go_wp2_with fail
   refine (implIsPerm_b _ vs false H2.out _ (HV.out.below Hb.out)).mono ?_
   rintro e w2 ⟨rfl,hb2⟩
   have Hb2:=Lib.hid (below_trans Hb.out hb2)
   clear hb2
   go_wp2_with fail
   go_ret2
   exact No.out _ (by unfold eqOk;rw [H2.out];simp) Hb2.out
 | true =>
 have H1:=Lib.hid h1
 have H2:=Lib.hid h2
 clear h1 h2
 by_cases h3 : us.length=vs.length
 ·have H3:=Lib.hid h3
  rw [← h3] at hv1 HV ⊢
  clear h3
  cases h4 : apOk us.length ys with
  | false =>
    have H4:=Lib.hid h4
    clear h4
    go_wp2_with fail
    refine (implIsPerm_b _ us true H1.out _ HU.out).mono ?_
    rintro e w1 ⟨rfl,hb⟩
    have Hb:=Lib.hid hb
    clear hb
    go_wp2_with fail
    refine (implIsPerm_b _ vs true H2.out _ (by have:=HV.out.below Hb.out;exact this)).mono ?_
    rintro e w2 ⟨rfl,hb2⟩
    have Hb2:=Lib.hid (below_trans Hb.out hb2)
    clear hb2
    go_wp2_with fail
    refine (implAp_c _ _ ys false H4.out _ (HY.out.below Hb2.out)).mono ?_
    rintro e w3 ⟨rfl,hb3⟩
    have Hb3:=Lib.hid (below_trans Hb2.out hb3)
    clear hb3
    go_wp2_with fail
    go_ret2
    exact No.out _ (by unfold eqOk;rw [H4.out];simp) Hb3.out
  | true =>
    have H4:=Lib.hid h4
    have hok : eqOk us vs ys=true:=by unfold eqOk;rw [H1.out,H2.out,decide_eq_true H3.out,h4];rfl
    have E:=eqIs hok
    rw [eqL_yes hok]
    clear h4 hok No
    obtain ⟨n,hn⟩ : ∃ n,n=us.length:=⟨_,rfl⟩
    rw [← hn] at E H3 H4 hu1 hv1 HU HV ⊢
    have HE:=Lib.hid E
    have Hn:=Lib.hid hn
    obtain ⟨F,hF⟩ : ∃ F,F=fact n:=⟨_,rfl⟩
    have hf:=fact4 E.y.one (show n≤5 by have:=E.y.four;omega)
    rw [← hF] at hf
    have HF:=Lib.hid hF
    have hyl:=E.y.len
    rw [hyl] at hy1 HY ⊢
    clear E hF hn hyl
    go_wp2_with fail
    refine (implIsPerm_b _ us true H1.out _ HU.out).mono ?_
    rintro e w1 ⟨rfl,hb⟩
    have Hb:=Lib.hid hb
    clear hb
    go_wp2_with fail
    refine (implIsPerm_b _ vs true H2.out _ (HV.out.below Hb.out)).mono ?_
    rintro e w2 ⟨rfl,hb2⟩
    have Hb2:=Lib.hid (below_trans Hb.out hb2)
    clear hb2
    go_wp2_with fail
    refine (implAp_c _ _ ys true H4.out _ (HY.out.below Hb2.out)).mono ?_
    rintro e w3 ⟨rfl,hb3⟩
    have Hb3:=Lib.hid (below_trans Hb2.out hb3)
    clear hb3
    go_wp2_with fail
    refine (implTable_any n us ys _ _ w3 HE.out.u HE.out.y.one HE.out.y.four HE.out.y.len HE.out.y.nine (HU.out.below Hb3.out) (HY.out.below Hb3.out)).mono ?_
    rintro e w4 ⟨ua,rfl,hoa,hb4⟩
    have hla : (tabL us ys).length=F:=by rw [tabL_length,HE.out.u.len,HF.out]
    have ha:=hoa.fn
    obtain ⟨pa,ka,rfl,hka,hkam⟩:=hoa.shape
    unfold maxLen at hkam
    rw [hla] at ha hka ⊢
    have hs4:=hb4.size
    have HA:=Lib.hid ha
    have Hb4:=Lib.hid (below_trans Hb3.out hb4)
    have hs3:=Hb3.out.size
    clear ha hb4 hoa hla
    go_wp2_with fail
    refine (implTable_any n vs ys _ _ w4 HE.out.v HE.out.y.one HE.out.y.four HE.out.y.len HE.out.y.nine (HV.out.below Hb4.out) (HY.out.below Hb4.out)).mono ?_
    rintro e w5 ⟨ub,rfl,hob,hb5⟩
    have hlb : (tabL vs ys).length=F:=by rw [tabL_length,HE.out.v.len,HF.out]
    have hb':=hob.fn
    obtain ⟨pb,kb,rfl,hkb,hkbm⟩:=hob.shape
    unfold maxLen at hkbm
    rw [hlb] at hb' hkb ⊢
    have hs5:=hb5.size
    have ha5:=HA.out.below hb5
    obtain ⟨ga,rfl,hga1,hga2,hga3⟩:=ha5.at_ (by omega)
    obtain ⟨gb,rfl,hgb1,hgb2,hgb3⟩:=hb'.at_ (by omega)
    have HA5:=Lib.hid ha5
    have HB5:=Lib.hid (show ∀ j,j < F→w5.cell? ⟨gb,j,none⟩=some (iv (tabL vs ys) j) from fun j hj=>hb'.cell hj)
    have Hb5:=Lib.hid (below_trans Hb4.out hb5)
    have hgab : w4.heap.size≤gb:=hgb1
    clear ha5 hb' hb5 hob hlb HA
    go_wp2_with fail
    go_loopg [12,49] F (fun g s12 s49 wr=> ∃ j : Nat,j≤F∧g=F - j∧s49=.int .i64 (j : Int)∧Hid (Frm w3.heap.size w4.heap.size w5 wr)∧Hid (OwnF wr w3.heap.size w4.heap.size 3 (.slice (some ⟨ga,0,none⟩) F ka) F (fun t=>if t < j then iv (mulT n ys us vs) t else iv (tabL us ys) t)))
    case atStart=>exact ⟨0,Nat.zero_le _,rfl,rfl,Lib.hid (Frm.refl _ _ _),Lib.hid (HA5.out.congr fun t _=>by rw [if_neg (Nat.not_lt_zero _)])⟩
    case round =>
     obtain ⟨j,hj,rfl,rfl,hfj,hoj⟩:=hrel
     obtain ⟨wz,rfl⟩ : ∃ x : World,x=wr:=⟨_,rfl⟩
     have Hfj:=Lib.hid hfj.out
     have Hoj:=Lib.hid hoj.out
     clear hfj hoj
     by_cases hjF : j < F
     ·have hjFi : (j : Int) < (F : Int):=by omega
      obtain ⟨a,haa⟩ : ∃ a,a=(tabL us ys).getD j 0:=⟨_,rfl⟩
      obtain ⟨b,hbb⟩ : ∃ b,b=(tabL vs ys).getD j 0:=⟨_,rfl⟩
      have ca : wz.cell? ⟨ga,j,none⟩=some (.int .i64 a):=by rw [Hoj.out.cell hjF,if_neg (Nat.lt_irrefl _),haa];rfl
      have fa : wz.frozen? ⟨ga,j,none⟩=false:=Hoj.out.frozen j
      have cb : wz.cell? ⟨gb,j,none⟩=some (.int .i64 b):=by
       have:=HB5.out j hjF
       unfold World.cell? at this ⊢
       rw [Hfj.out.block gb hgb3 (.inr hgab),hbb]
       exact this
      obtain ⟨M,hM⟩ : ∃ M,M=a * b:=⟨_,rfl⟩
      have hMb : M.natAbs≤1000000 * 1000000:=by rw [hM,haa,hbb];exact abs_mul2 (tab_bound HE.out.y HE.out.u (by rw [← HF.out];exact hjF)) (tab_bound HE.out.y HE.out.v (by rw [← HF.out];exact hjF))
      have hwM : IntKind.i64.wrap (a * b)=M:=by rw [← hM,IntKind.wrap_i64];omega
      have Ha:=Lib.hid haa
      have HB:=Lib.hid hbb
      have HM:=Lib.hid hM
      clear haa hbb hM hMb
      go_wp2_with fail
      go_region
      go_wp2_with fail
      go_roundg (F - (j+1))
      case measure=>omega
      case rel =>
       refine ⟨j+1,by omega,rfl,by go_num,Lib.hid ?_,Lib.hid ?_⟩
       ·exact (Hfj.out.setCell (p:=⟨ga,j,none⟩) hga1 hga2 _).drewN 1
       ·have h1:=Hoj.out.set j (.int .i64 M)
        have h2 : OwnF (wz.setCell ⟨ga,j,none⟩ (.int .i64 M)).drew w3.heap.size w4.heap.size 3 (.slice (some ⟨ga,0,none⟩) F ka) F _:=h1.below ((Below.refl _ _).drew)
        refine h2.congr fun t ht=> ?_
        by_cases h3 : t=j
        ·rw [if_pos h3,if_pos (by omega),h3]
         unfold iv
         rw [mulT_getD (by rw [← HF.out];exact hjF),HM.out,Ha.out,HB.out]
        ·rw [if_neg h3]
         by_cases h4 : t < j
         ·rw [if_pos h4,if_pos (by omega)]
         ·rw [if_neg h4,if_neg (by omega)]
     ·have hjFi : ¬ (j : Int) < (F : Int):=by omega
      have hjE : j=F:=by omega
      have hml : (mulT n ys us vs).length=F:=by rw [mulT_length,HF.out]
      have Hmz:=Lib.hid (show Ints wz (.slice (some ⟨ga,0,none⟩) F ka) (mulT n ys us vs) from by
       refine OwnI.ints (T:=3) (lo:=w3.heap.size) (hi:=w4.heap.size) (OwnF.ints ?_)
       rw [hml]
       exact Hoj.out.congr fun t ht=>by rw [if_pos (by omega)])
      have hbz : Below w.heap.size w wz:=Hb5.out.trans (Hfj.out.below hs3 Hb5.out.size)
      have Hbz:=Lib.hid hbz
      have Hyz:=Lib.hid (HY.out.below hbz)
      have Hx:=Lib.hid (implExpand_any n _ _ _ ys wz Hmz.out Hyz.out true (gk_mul HE.out.y HE.out.u HE.out.v))
      rw [show (if true=true then expE (n : Int).toNat (mulT n ys us vs) ys (ordL (n : Int).toNat) else ([],false))=expE n (mulT n ys us vs) ys (ordL n) from rfl] at Hx
      obtain ⟨E',hE'⟩ : ∃ E',E'=expE n (mulT n ys us vs) ys (ordL n):=⟨_,rfl⟩
      rw [← hE'] at Hx
      have HE':=Lib.hid hE'
      clear hml hbz hE'
      go_wp2_with fail
      refine Hx.out.mono ?_
      rintro e w9 ⟨r,rfl,hor,hbr⟩
      obtain ⟨pr,kr,rfl,_,_⟩:=hor.shape
      have Hor:=Lib.hid hor
      have Hbr:=Lib.hid hbr
      clear hor hbr Hx
      go_wp2_with fail
      go_ret2
      rw [← HE'.out]
      exact ⟨_,rfl,Hor.out.mono Hbz.out.size (Nat.le_refl _),Hbz.out.trans (Hbr.out.mono Hbz.out.size)⟩
 ·have H3:=Lib.hid h3
  have hni : (((us.length : Int)) != (vs.length : Int))=true:=by simp;omega
  clear h3
  go_wp2_with fail
  refine (implIsPerm_b _ us true H1.out _ HU.out).mono ?_
  rintro e w1 ⟨rfl,hb⟩
  have Hb:=Lib.hid hb
  clear hb
  go_wp2_with fail
  refine (implIsPerm_b _ vs true H2.out _ (HV.out.below Hb.out)).mono ?_
  rintro e w2 ⟨rfl,hb2⟩
  have Hb2:=Lib.hid (below_trans Hb.out hb2)
  clear hb2
  go_wp2_with fail
  go_ret2
  exact No.out _ (by unfold eqOk;rw [decide_eq_false H3.out];simp) Hb2.out
def OwnPl (w : World) (lo hi : Nat) (v : Value) (cs : List Cls) : Prop :=
 ∃ g,OwnS w lo hi 39 2 v cs.length (clF cs g) ∧ ∀ i,i < cs.length→OwnI 3 w lo hi (g i) (cs.getD i clD).1
theorem OwnPl.rd {w : World} {lo hi : Nat} {v : Value} {cs : List Cls} (h : OwnPl w lo hi v cs) : RdCl w v cs:=by
 obtain ⟨g,h1,h2⟩:=h
 exact ⟨g,h1.rd,fun i hi=>(h2 i hi).ints⟩
theorem OwnPl.below {w w' : World} {lo hi : Nat} {v : Value} {cs : List Cls} (h : OwnPl w lo hi v cs) (hb : Below w.heap.size w w') : OwnPl w' lo hi v cs:=by
 obtain ⟨g,h1,h2⟩:=h
 exact ⟨g,h1.below hb,fun i hi=>(h2 i hi).below hb⟩
theorem OwnPl.mono {w : World} {lo hi lo' hi' : Nat} {v : Value} {cs : List Cls} (h : OwnPl w lo hi v cs) (a : lo'≤lo) (b : hi≤hi') : OwnPl w lo' hi' v cs:=by
 obtain ⟨g,h1,h2⟩:=h
 exact ⟨g,h1.mono a b,fun i hi=>(h2 i hi).mono a b⟩
theorem OwnPl.setCell {w : World} {lo hi : Nat} {v : Value} {cs : List Cls} (h : OwnPl w lo hi v cs) {a : Addr} (ho : a.block < lo ∨ hi≤a.block) (u : Value) : OwnPl (w.setCell a u) lo hi v cs:=by
 obtain ⟨g,h1,h2⟩:=h
 exact ⟨g,h1.setCell ho u,fun i hi=>(h2 i hi).setCell ho u⟩
theorem OwnPl.shape {w : World} {lo hi : Nat} {v : Value} {cs : List Cls} (h : OwnPl w lo hi v cs) : ∃ p cap,v=.slice p cs.length cap∧cs.length≤cap∧cap≤maxLen:=by
 obtain ⟨g,h1,_⟩:=h
 obtain ⟨p,cap,e,h2,h3,_⟩:=h1.shape
 exact ⟨p,cap,e,h2,h3⟩
def OwnPd (w : World) (lo hi : Nat) (v : Value) (cs : List Cls) : Prop :=
 ∃ f,OwnS w lo hi 39 2 v cs.length (clF cs f)∧(∀ i,i < cs.length→OwnI 3 w lo hi (f i) (cs.getD i clD).1) ∧
   ∀ i j,i < j→j < cs.length → ∀ k,(f i).ownBlock=some k→(f j).ownBlock ≠ some k
namespace OwnPd
variable {w w' : World} {lo hi : Nat} {v : Value} {cs : List Cls}
theorem cl (h : OwnPd w lo hi v cs) : OwnPl w lo hi v cs:=by
 obtain ⟨f,h1,h2,_⟩:=h
 exact ⟨f,h1,h2⟩
theorem rd (h : OwnPd w lo hi v cs) : RdCl w v cs:=h.cl.rd
theorem keep (h : OwnPd w lo hi v cs) (hb : ∀ k,lo≤k→k < hi→k < w.heap.size→w'.heap[k]?=w.heap[k]?) : OwnPd w' lo hi v cs:=by
 obtain ⟨f,h1,h2,h3⟩:=h
 exact ⟨f,h1.keep hb,fun i hi=>Own.keep (h2 i hi) hb,h3⟩
theorem below (h : OwnPd w lo hi v cs) (hb : Below w.heap.size w w') : OwnPd w' lo hi v cs:=h.keep fun k _ _ h3=>hb.block k h3
theorem frm {lo' hi' : Nat} (h : OwnPd w lo hi v cs) (hb : Frm lo' hi' w w') (ho : hi≤lo' ∨ hi'≤lo) : OwnPd w' lo hi v cs:=h.keep fun k h1 h2 h3=>hb.block k h3 (by omega)
theorem mono {lo' hi' : Nat} (h : OwnPd w lo hi v cs) (h1 : lo'≤lo) (h2 : hi≤hi') : OwnPd w lo' hi' v cs:=by
 obtain ⟨f,g1,g2,g3⟩:=h
 exact ⟨f,g1.mono h1 h2,fun i hi=>(g2 i hi).mono h1 h2,g3⟩
theorem shape (h : OwnPd w lo hi v cs) : ∃ p cap,v=.slice p cs.length cap∧cs.length≤cap∧cap≤maxLen:=h.cl.shape
theorem nil (w : World) (lo hi : Nat) : OwnPd w lo hi (.slice none 0 0) []:=⟨fun _=>undef,OwnS.nil _ _ _ _ _ _,fun i hi=>absurd hi (Nat.not_lt_zero _),fun i j _ hj=>absurd hj (Nat.not_lt_zero _)⟩
theorem made0 (w : World) : OwnPd (w.alloc (.cells #[] 39)) w.heap.size (w.heap.size+1) (.slice (some ⟨w.heap.size,0,none⟩) 0 0) [] :=
 ⟨fun _=>undef,OwnS.made0 _ _ _ _,fun i hi=>absurd hi (Nat.not_lt_zero _),fun i j _ hj=>absurd hj (Nat.not_lt_zero _)⟩
theorem getD_snoc {cs : List Cls} {m : Cls} {i : Nat} : (cs ++ [m]).getD i clD=if i < cs.length then cs.getD i clD else if i=cs.length then m else clD:=by
 by_cases h : i < cs.length
 ·rw [if_pos h];simp [List.getD_eq_getElem?_getD,List.getElem?_append_left h]
 ·rw [if_neg h]
  by_cases e : i=cs.length
  ·subst e;simp [List.getD_eq_getElem?_getD]
  ·rw [if_neg e];simp [List.getD_eq_getElem?_getD];rw [List.getElem?_eq_none (by simp;omega)];rfl
theorem snoc {v' x : Value} {m : Cls} {mid : Nat} {f : Nat→Value} (g1 : OwnS w lo mid 39 2 v cs.length (clF cs f)) (g2 : ∀ i,i < cs.length→OwnI 3 w lo mid (f i) (cs.getD i clD).1)
 (g3 : ∀ i j,i < j→j < cs.length → ∀ k,(f i).ownBlock=some k→(f j).ownBlock ≠ some k) (hx : OwnI 3 w mid hi x m.1) (hm : lo≤mid) (hmh : mid≤hi)
 (hg : w.grownBy w' v.ownBlock) (hsz : hi≤w'.heap.size)
 (hv : OwnS w' lo w'.heap.size 39 2 v' (cs.length+1) (fun i=>if i < cs.length then clF cs f i else fun j=>match j with | 0=>x | _=>.int .i64 m.2)) : OwnPd w' lo w'.heap.size v' (cs ++ [m]):=by
 have hrow : ∀ (y : Value) (ys : List Int) (lo1 hi1 : Nat),OwnI 3 w lo1 hi1 y ys→OwnI 3 w' lo1 hi1 y ys:=fun y ys lo1 hi1 hy =>
  ⟨ownsRow_of_block hy.1 fun k hk=>hg.block k (Own.block hy hk).2.2 fun e=>ne_of_kinds (g1.kind k e.symm) (OwnI.kind hy k hk) (by decide),hy.2⟩
 refine ⟨fun i=>if i < cs.length then f i else x,by
  rw [List.length_append]
  refine hv.congr fun i hi j hj=> ?_
  by_cases h : i < cs.length
  ·rw [if_pos h]
   unfold clF
   rw [getD_snoc,if_pos h]
   have : j=0 ∨ j=1:=by omega
   rcases this with rfl | rfl
   ·show f i=if i < cs.length then f i else x
    rw [if_pos h]
   ·rfl
  ·have e : i=cs.length:=by omega
   rw [if_neg h]
   unfold clF
   rw [getD_snoc,if_neg h,if_pos e]
   have : j=0 ∨ j=1:=by omega
   rcases this with rfl | rfl
   ·show x=if i < cs.length then f i else x
    rw [if_neg h]
   ·rfl,fun i hi=> ?_,fun i j hij hj k hk=> ?_⟩
 ·rw [List.length_append] at hi
  simp only [List.length_singleton] at hi
  rw [getD_snoc]
  by_cases h : i < cs.length
  ·simp only [h,if_true]
   exact (hrow _ _ _ _ (g2 i h)).mono (Nat.le_refl _) (by omega)
  ·have : i=cs.length:=by omega
   simp only [h,if_false]
   rw [if_pos this]
   exact (hrow _ _ _ _ hx).mono hm hsz
 ·rw [List.length_append] at hj
  simp only [List.length_singleton] at hj
  simp only [show i < cs.length by omega,if_true] at hk
  by_cases h : j < cs.length
  ·simp only [h,if_true]
   exact g3 i j hij h k hk
  ·simp only [h,if_false]
   intro e
   have h5:=(Own.block (g2 i (by omega)) hk).2.1
   have h6:=(Own.block hx e).1
   omega
end OwnPd
theorem info_prt : (Tryz.prog.info? 39).map (fun i=>(i.zero,i.size,i.bytes))=some (some (.agg #[.slice none 0 0,.int .i64 0]),2,32):=by kernel_rfl
def OwnPe (w : World) (lo1 lo0 hi : Nat) (v : Value) (cs : List Cls) : Prop :=
 ∃ g,OwnS w lo1 hi 39 2 v cs.length (clF cs g) ∧ ∀ i,i < cs.length→OwnI 3 w lo0 hi (g i) (cs.getD i clD).1
theorem OwnPe.below {w w' : World} {lo1 lo0 hi : Nat} {v : Value} {cs : List Cls} (h : OwnPe w lo1 lo0 hi v cs) (hb : Below w.heap.size w w') : OwnPe w' lo1 lo0 hi v cs:=by
 obtain ⟨g,h1,h2⟩:=h
 exact ⟨g,h1.below hb,fun i hi=>(h2 i hi).below hb⟩
theorem OwnPe.cl {w : World} {lo1 lo0 hi : Nat} {v : Value} {cs : List Cls} (h : OwnPe w lo1 lo0 hi v cs) (hl : lo0≤lo1) : OwnPl w lo0 hi v cs:=by
 obtain ⟨g,h1,h2⟩:=h
 exact ⟨g,h1.mono hl (Nat.le_refl _),h2⟩
theorem OwnPe.snoc {w w' : World} {lo1 lo0 mid : Nat} {v v' x : Value} {cs : List Cls} {m : Cls} {f : Nat→Value} {n : Nat} (hn : n=cs.length) (g1 : OwnS w lo1 mid 39 2 v n (clF cs f)) (g2 : ∀ i,i < cs.length→OwnI 3 w lo0 mid (f i) (cs.getD i clD).1)
 (hx : OwnI 3 w lo0 mid x m.1) (hg : w.grownBy w' v.ownBlock) (hsz : mid≤w'.heap.size)
 (hv : OwnS w' lo1 w'.heap.size 39 2 v' (n+1) (fun i=>if i < n then clF cs f i else fun j=>match j with | 0=>x | _=>.int .i64 m.2)) : OwnPe w' lo1 lo0 w'.heap.size v' (cs ++ [m]):=by
 subst hn
 have hrow : ∀ (y : Value) (ys : List Int) (lo1 hi1 : Nat),OwnI 3 w lo1 hi1 y ys→OwnI 3 w' lo1 hi1 y ys:=fun y ys lo1 hi1 hy =>
  ⟨ownsRow_of_block hy.1 fun k hk=>hg.block k (Own.block hy hk).2.2 fun e=>ne_of_kinds (g1.kind k e.symm) (OwnI.kind hy k hk) (by decide),hy.2⟩
 refine ⟨fun i=>if i < cs.length then f i else x,by
  rw [List.length_append]
  refine hv.congr fun i hi j hj=> ?_
  by_cases h : i < cs.length
  ·rw [if_pos h]
   unfold clF
   rw [OwnCd.getD_snoc,if_pos h]
   have : j=0 ∨ j=1:=by omega
   rcases this with rfl | rfl
   ·show f i=if i < cs.length then f i else x
    rw [if_pos h]
   ·rfl
  ·have e : i=cs.length:=by omega
   rw [if_neg h]
   unfold clF
   rw [OwnCd.getD_snoc,if_neg h,if_pos e]
   have : j=0 ∨ j=1:=by omega
   rcases this with rfl | rfl
   ·show x=if i < cs.length then f i else x
    rw [if_neg h]
   ·rfl,fun i hi=> ?_⟩
 rw [List.length_append] at hi
 simp only [List.length_singleton] at hi
 rw [OwnCd.getD_snoc]
 by_cases h : i < cs.length
 ·simp only [h,if_true]
  exact (hrow _ _ _ _ (g2 i h)).mono (Nat.le_refl _) hsz
 ·have : i=cs.length:=by omega
  simp only [h,if_false]
  rw [if_pos this]
  exact (hrow _ _ _ _ hx).mono (Nat.le_refl _) hsz
def clAt (cs : List Cls) (k : Nat) : Bool :=
 permOk (cs.getD k clD).1 && decide (trimN (cs.getD k clD).1 (cs.getD k clD).1.length=(cs.getD k clD).1.length) && !decide ((cs.getD k clD).2=0) && !decide ((cs.getD k clD).2 < -1000000) && !decide (1000000 < (cs.getD k clD).2) &&
  (!decide (0 < k) || ltB (cs.getD (k - 1) clD).1 (cs.getD k clD).1)
def clsOk (cs : List Cls) : Bool:=decide (cs.length≤100) && (List.range cs.length).all (clAt cs)
theorem clsOk_big {cs : List Cls} (h : 100 < cs.length) : clsOk cs=false:=by
 unfold clsOk;rw [decide_eq_false (by omega)];rfl
theorem clsOk_bad {cs : List Cls} {k : Nat} (hk : k < cs.length) (h : clAt cs k=false) : clsOk cs=false:=by
 unfold clsOk
 have : (List.range cs.length).all (clAt cs)=false:=List.all_eq_false.2 ⟨k,List.mem_range.2 hk,by simp [h]⟩
 rw [this,Bool.and_false]
theorem clsOk_yes {cs : List Cls} (hl : cs.length≤100) (h : ∀ k,k < cs.length→clAt cs k=true) : clsOk cs=true:=by
 unfold clsOk
 rw [decide_eq_true hl,Bool.true_and,List.all_eq_true]
 exact fun k hk=>h k (List.mem_range.1 hk)
theorem implTrim_sh (v : Value) (xs : List Int) (w : World) (h : Ints w v xs) (hp : permOk xs=true) :
 Calls Tryz.prog 14 #[v] w fun e w'=> ∃ (p : Option Addr) (k : Nat),e=.returned (.slice p (trimN xs xs.length) k)∧Below w.heap.size w w' :=
 (implTrim_yes v xs w h hp).mono fun e w' ⟨u,h1,h2,h3⟩=>by
   obtain ⟨p,k,rfl,_,_⟩:=h2.shape
   exact ⟨p,k,by rw [h1,trimL_length],h3⟩
theorem keep3w {wr W W' : World} {a0 a1 a2 : Addr} {v0 v1 v2 : Value} (hb : Below W.heap.size W W') (h : (W.cell? a0=some v0∧W.cell? a1=some v1∧W.cell? a2=some v2)∧Below wr.heap.size wr W) :
 (W'.cell? a0=some v0∧W'.cell? a1=some v1∧W'.cell? a2=some v2)∧Below wr.heap.size wr W' :=
 ⟨⟨cell_below hb h.1.1,cell_below hb h.1.2.1,cell_below hb h.1.2.2⟩,below_trans h.2 hb⟩
end
end Go.Proofs.YtijadclebjcckaaGreat
