/-
  A part of the proof of FnTop (texts of one proof, joined).
-/
import Derived.Test.YtijadclebjcckaaGreatJ8
namespace Go.Proofs.YtijadclebjcckaaGreat
set_option linter.all false
set_option maxRecDepth 100000
set_option maxHeartbeats 16000000
section
open Go.RowKit Go.Shelf Go.Sort Go.Lib
variable {α : Type} [Inhabited α]
theorem shUA_up {a k : Nat} (h : a≤k) (d : Array α) : shUA a (k+1 - a) d=swp (shUA a (k - a) d) k (k+1):=by
 have e : k+1 - a=(k - a)+1:=by omega
 rw [e,shUA,show a+(k - a)=k by omega]
theorem shDA_dn {m k : Nat} (h : k≤m) (h0 : 0 < k) (d : Array α) : shDA m (m - (k - 1)) d=swp (shDA m (m - k) d) k (k - 1):=by
 have e : m - (k - 1)=(m - k)+1:=by omega
 rw [e,shDA,show m - (m - k)=k by omega]
def sy3 (lt : α→α→Bool) (f a m b mid st en : Nat) (d : Array α) : Array α :=
 if mid < en∧en < b then symA lt f mid en b (if a < st∧st < mid then symA lt f a st mid (if st < m∧m < en then rotA m (en - st) (m - st) (en - m) d else d) else (if st < m∧m < en then rotA m (en - st) (m - st) (en - m) d else d))
 else (if a < st∧st < mid then symA lt f a st mid (if st < m∧m < en then rotA m (en - st) (m - st) (en - m) d else d) else (if st < m∧m < en then rotA m (en - st) (m - st) (en - m) d else d))
theorem symA_mid (lt : α→α→Bool) {f a m b : Nat} {d : Array α} (c1 : ¬ m - a=1) (c2 : ¬ b - m=1) :
 symA lt (f+1) a m b d=sy3 lt f a m b ((a+b) / 2) (smAt lt d a m b) ((a+b) / 2+m - smAt lt d a m b) d:=by
 rw [symA,if_neg c1,if_neg c2];rfl
theorem symMerge_any (enc : α→Value) (cf : α→α→Int) (g : Nat) (cb : Array Value) (blk off cap : Nat) (d0 : Array α) (w0 : World)
 (eg : ∀ args w,(callFunc g args).run Tryz.prog w=.ok (.enter g args) w) (hcmp : CmpZ Tryz.prog g cb enc cf blk off d0.size w0) (R : Row1 enc w0 blk off d0) :
 ∀ (f a m b : Nat) (d : Array α) (w : World),d0.size=d.size→SZ enc w0 blk off d w→a < m→m < b→b≤d.size→b - a≤f→d.size < 4611686018427387904 →
 Calls Tryz.prog 156 #[.slice (some ⟨blk,off,none⟩) d.size cap,.int .i64 (a : Int),.int .i64 (m : Int),.int .i64 (b : Int),.func (.func g) #[] cb] w fun e w'=>e=.returned (.tuple #[])∧SZ enc w0 blk off (symA (ltOf cf) f a m b d) w':=by
 have hcl0:=R.hO.cells
 simp only [Value.cells] at hcl0
 have hst:=R.hO.store Tryz.prog
 have mixed:=Tryz.insI.mixed
 have HC : Aside _:=hcmp
 clear hcmp
 intro f
 induction f with
 | zero=>intro a m b d w _ _ _ _ _ hf;omega
 | succ f ih =>
 intro a m b d w hs S ham hmb hb hf hsz
 have S0 : Aside (SZ enc w0 blk off d w):=S
 clear S
 go_enter Tryz.func156,Tryz.ntmps156
 by_cases c1 : m - a=1
 ·have e1 : (((m : Int) - (a : Int)) == 1)=true:=by simp;omega
  obtain ⟨K,hK⟩ : ∃ K,K=bsA (sp1 (ltOf cf) d a) (b - m) m b:=⟨_,rfl⟩
  have hKr:=bsA_rng (sp1 (ltOf cf) d a) (b - m) m b (by omega)
  rw [← hK] at hKr
  have HK:=Lib.hid hK
  clear hK
  go_wp2_with fail
  go_loopg [10,11,12] (b - m) (fun g1 vi vj vh wr=> ∃ i j : Nat,vi=.int .i64 (i : Int)∧vj=.int .i64 (j : Int)∧m≤i∧i≤j∧j≤b∧j - i≤g1∧Aside (SZ enc w0 blk off d wr)∧Hid (bsA (sp1 (ltOf cf) d a) g1 i j=K))
  case atStart=>exact ⟨m,b,by first | rfl | go_num,by first | rfl | go_num,Nat.le_refl _,by omega,Nat.le_refl _,Nat.le_refl _,S0,HK.out.symm⟩
  case round =>
   clear S0
   obtain ⟨i,j,rfl,rfl,hli,hij0,hjh,hg1,S1,HD⟩:=hrel
   by_cases hij : i < j
   ·have hijz : (i : Int) < (j : Int):=by omega
    obtain ⟨h,hh⟩ : ∃ h : Nat,h=(i+j) / 2:=⟨_,rfl⟩
    have hhz : ((i : Int)+(j : Int)) / 2=(h : Int):=by omega
    have hh1 : i≤h:=by omega
    have hh2 : h < j:=by omega
    cases hL : ltOf cf d[h]! d[a]! with
    | true =>
      have hp : (sp1 (ltOf cf) d a) ((i+j) / 2)=true:=by rw [← hh];unfold sp1;rw [hL]
      have Hh:=Lib.hid hh
      clear hh
      obtain ⟨iN5,hiN5⟩ : ∃ zz,zz=h:=⟨_,rfl⟩
      obtain ⟨jN5,hjN5⟩ : ∃ zz,zz=a:=⟨_,rfl⟩
      have eaN5 : ((h : Int)).toNat=iN5:=by omega
      have paN5 : (0 : Int)≤(h : Int):=by omega
      have baN5 : (h : Int) < (d.size : Int):=by omega
      have raN5 : IntKind.i64.wrap ((h : Int))=(h : Int):=by rw [IntKind.wrap_i64];omega
      have ecN5 : ((a : Int)).toNat=jN5:=by omega
      have pcN5 : (0 : Int)≤(a : Int):=by omega
      have bcN5 : (a : Int) < (d.size : Int):=by omega
      have rcN5 : IntKind.i64.wrap ((a : Int))=(a : Int):=by rw [IntKind.wrap_i64];omega
      obtain ⟨xN5,hxN5⟩ : ∃ x,x=d[h]!:=⟨_,rfl⟩
      obtain ⟨yN5,hyN5⟩ : ∃ x,x=d[a]!:=⟨_,rfl⟩
      have lN5a:=S1.out.cl R (by omega) (h) (by omega)
      have lN5b:=S1.out.cl R (by omega) (a) (by omega)
      rw [← hxN5,← hiN5] at lN5a
      rw [← hyN5,← hjN5] at lN5b
      have hcN5:=S1.out.cmp HC.out (by omega) xN5 yN5
      have hvN5 : cf xN5 yN5 < 0:=by rw [hxN5,hyN5];exact of_decide_eq_true hL
      have hdN5 : decide (cf xN5 yN5 < 0)=true:=decide_eq_true hvN5
      clear hxN5 hyN5 hiN5 hjN5
      go_wp2_with fail
      refine wp_region_quiet_z (by assumption) (by kernel_rfl) ?_
      repeat (quiet_step (first | (go_at_fn g;refine grown_z (hcN5 _ _))))
      refine wpQuiet_nil ?_
      intro _ hw'
      obtain ⟨⟨nq,osq⟩,hw''⟩:=hw'
      subst hw''
      have S2 : Aside (SZ enc w0 blk off d (grow (atd wr nq) osq)):=S1.out.grown nq osq
      clear lN5a lN5b hcN5 S1
      generalize grow (atd wr nq) osq=w2 at S2 ⊢
      clear nq osq
      clear eaN5 ecN5 paN5 baN5 raN5 pcN5 bcN5 rcN5
      go_wp2_with fail
      go_roundg (gk - 1)
      case measure=>omega
      case rel=>exact ⟨h+1,j,by first | rfl | go_num,rfl,by omega,by omega,by omega,by omega,S2,(show Hid _ from by rw [Hh.out,← bsA_up hg1 hij hp];exact HD.out)⟩
    | false =>
      have hp : (sp1 (ltOf cf) d a) ((i+j) / 2)=false:=by rw [← hh];unfold sp1;rw [hL]
      have Hh:=Lib.hid hh
      clear hh
      obtain ⟨iN6,hiN6⟩ : ∃ zz,zz=h:=⟨_,rfl⟩
      obtain ⟨jN6,hjN6⟩ : ∃ zz,zz=a:=⟨_,rfl⟩
      have eaN6 : ((h : Int)).toNat=iN6:=by omega
      have paN6 : (0 : Int)≤(h : Int):=by omega
      have baN6 : (h : Int) < (d.size : Int):=by omega
      have raN6 : IntKind.i64.wrap ((h : Int))=(h : Int):=by rw [IntKind.wrap_i64];omega
      have ecN6 : ((a : Int)).toNat=jN6:=by omega
      have pcN6 : (0 : Int)≤(a : Int):=by omega
      have bcN6 : (a : Int) < (d.size : Int):=by omega
      have rcN6 : IntKind.i64.wrap ((a : Int))=(a : Int):=by rw [IntKind.wrap_i64];omega
      obtain ⟨xN6,hxN6⟩ : ∃ x,x=d[h]!:=⟨_,rfl⟩
      obtain ⟨yN6,hyN6⟩ : ∃ x,x=d[a]!:=⟨_,rfl⟩
      have lN6a:=S1.out.cl R (by omega) (h) (by omega)
      have lN6b:=S1.out.cl R (by omega) (a) (by omega)
      rw [← hxN6,← hiN6] at lN6a
      rw [← hyN6,← hjN6] at lN6b
      have hcN6:=S1.out.cmp HC.out (by omega) xN6 yN6
      have hvN6 : ¬ cf xN6 yN6 < 0:=by rw [hxN6,hyN6];exact of_decide_eq_false hL
      have hdN6 : decide (cf xN6 yN6 < 0)=false:=decide_eq_false hvN6
      clear hxN6 hyN6 hiN6 hjN6
      go_wp2_with fail
      refine wp_region_quiet_z (by assumption) (by kernel_rfl) ?_
      repeat (quiet_step (first | (go_at_fn g;refine grown_z (hcN6 _ _))))
      refine wpQuiet_nil ?_
      intro _ hw'
      obtain ⟨⟨nq,osq⟩,hw''⟩:=hw'
      subst hw''
      have S2 : Aside (SZ enc w0 blk off d (grow (atd wr nq) osq)):=S1.out.grown nq osq
      clear lN6a lN6b hcN6 S1
      generalize grow (atd wr nq) osq=w2 at S2 ⊢
      clear nq osq
      clear eaN6 ecN6 paN6 baN6 raN6 pcN6 bcN6 rcN6
      go_wp2_with fail
      go_roundg (gk - 1)
      case measure=>omega
      case rel=>exact ⟨i,h,rfl,by first | rfl | go_num,by omega,by omega,by omega,by omega,S2,(show Hid _ from by rw [Hh.out,← bsA_dn hg1 hij hp];exact HD.out)⟩
   ·have hijz : ¬ (i : Int) < (j : Int):=by omega
    have hiK : i=K:=by rw [← HD.out,bsA_end _ _ _ _ hij]
    have hji : j=i:=by omega
    clear HD hg1
    subst hji
    subst hiK
    go_wp2_with fail
    go_loopg [13] (j - 1 - a) (fun g2 vk wr2=> ∃ (k : Nat) (dk : Array α),vk=.int .i64 (k : Int)∧a≤k∧k≤j - 1∧j - 1 - k≤g2∧dk.size=d.size∧Aside (SZ enc w0 blk off dk wr2)∧Hid (dk=shUA a (k - a) d))
    case atStart=>exact ⟨a,d,rfl,Nat.le_refl _,by omega,Nat.le_refl _,rfl,S1,(show Hid _ from by rw [Nat.sub_self];exact rfl)⟩
    case round =>
     clear S1
     obtain ⟨k,dk,rfl,hak,hkj,hg2,hsk,S3,HD⟩:=hrel
     by_cases hlt : k < j - 1
     ·have hltz : (k : Int) < (j : Int) - 1:=by omega
      obtain ⟨iN7,hiN7⟩ : ∃ zz,zz=k:=⟨_,rfl⟩
      obtain ⟨jN7,hjN7⟩ : ∃ zz,zz=k+1:=⟨_,rfl⟩
      have eaN7 : ((k : Int)).toNat=iN7:=by omega
      have paN7 : (0 : Int)≤(k : Int):=by omega
      have baN7 : (k : Int) < (d.size : Int):=by omega
      have raN7 : IntKind.i64.wrap ((k : Int))=(k : Int):=by rw [IntKind.wrap_i64];omega
      have ecN7 : ((k : Int)+1).toNat=jN7:=by omega
      have pcN7 : (0 : Int)≤(k : Int)+1:=by omega
      have bcN7 : (k : Int)+1 < (d.size : Int):=by omega
      have rcN7 : IntKind.i64.wrap ((k : Int)+1)=(k : Int)+1:=by rw [IntKind.wrap_i64];omega
      obtain ⟨xN7,hxN7⟩ : ∃ x,x=dk[k]!:=⟨_,rfl⟩
      obtain ⟨yN7,hyN7⟩ : ∃ x,x=dk[k+1]!:=⟨_,rfl⟩
      have S4 : Aside (SZ enc w0 blk off (swp dk (k) (k+1)) ((wr.setCell ⟨blk,off+iN7,none⟩ (enc yN7)).setCell ⟨blk,off+jN7,none⟩ (enc xN7)).drew):=by rw [hiN7,hjN7,hxN7,hyN7];exact S3.out.swapped R (k) (k+1) (by omega) (by omega)
      have cN7a:=S3.out.c1 R (by omega) (k) (by omega)
      have cN7b:=S3.out.c1 R (by omega) (k+1) (by omega)
      have fN7a:=S3.out.f1 R (by omega) (k) (by omega)
      have fN7b:=S3.out.f1 R (by omega) (k+1) (by omega)
      obtain ⟨uN7,cN7c⟩:=S3.out.c2 R (by omega) (k) (k+1) (by omega) (by omega) (enc yN7)
      rw [← hjN7,← hiN7] at cN7c
      rw [← hxN7,← hiN7] at cN7a
      rw [← hyN7,← hjN7] at cN7b
      rw [← hiN7] at fN7a
      rw [← hjN7] at fN7b
      clear S3 hxN7 hyN7 hiN7 hjN7
      go_wp2_with fail
      go_big_region_o
      clear cN7a cN7b cN7c fN7a fN7b
      generalize ((wr.setCell ⟨blk,off+iN7,none⟩ (enc yN7)).setCell ⟨blk,off+jN7,none⟩ (enc xN7)).drew=w4 at S4 ⊢
      clear eaN7 ecN7 paN7 baN7 raN7 pcN7 bcN7 rcN7
      go_wp2
      go_roundg (j - 1 - (k+1))
      case measure=>omega
      case rel=>exact ⟨k+1,swp dk k (k+1),by first | rfl | go_num,by omega,by omega,Nat.le_refl _,by rw [size_swp];exact hsk,S4,(show Hid _ from by rw [HD.out];exact (shUA_up hak d).symm)⟩
     ·have hltz : ¬ (k : Int) < (j : Int) - 1:=by omega
      go_wp2
      (try simp only [Exit.inBlock,Exit.then])
      first | refine bodyPost_ret (results_none rfl _ _ _) rfl ?_ | refine bodyPost_end (results_none rfl _ _ _) rfl ?_
      refine ⟨rfl,?_⟩
      have h5 : k=j - 1:=by omega
      have:=S3.out
      rw [HD.out,h5] at this
      rw [symA,if_pos c1,← HK.out]
      exact this
 ·by_cases c2 : b - m=1
  ·have e1 : (((m : Int) - (a : Int)) == 1)=false:=by simp;omega
   have e2 : (((b : Int) - (m : Int)) == 1)=true:=by simp;omega
   obtain ⟨K,hK⟩ : ∃ K,K=bsA (sp2 (ltOf cf) d m) (m - a) a m:=⟨_,rfl⟩
   have hKr:=bsA_rng (sp2 (ltOf cf) d m) (m - a) a m (by omega)
   rw [← hK] at hKr
   have HK:=Lib.hid hK
   clear hK
   go_wp2_with fail
   go_loopg [14,15,16] (m - a) (fun g1 vi vj vh wr=> ∃ i j : Nat,vi=.int .i64 (i : Int)∧vj=.int .i64 (j : Int)∧a≤i∧i≤j∧j≤m∧j - i≤g1∧Aside (SZ enc w0 blk off d wr)∧Hid (bsA (sp2 (ltOf cf) d m) g1 i j=K))
   case atStart=>exact ⟨a,m,by first | rfl | go_num,by first | rfl | go_num,Nat.le_refl _,by omega,Nat.le_refl _,Nat.le_refl _,S0,HK.out.symm⟩
   case round =>
    clear S0
    obtain ⟨i,j,rfl,rfl,hli,hij0,hjh,hg1,S1,HD⟩:=hrel
    by_cases hij : i < j
    ·have hijz : (i : Int) < (j : Int):=by omega
     obtain ⟨h,hh⟩ : ∃ h : Nat,h=(i+j) / 2:=⟨_,rfl⟩
     have hhz : ((i : Int)+(j : Int)) / 2=(h : Int):=by omega
     have hh1 : i≤h:=by omega
     have hh2 : h < j:=by omega
     cases hL : ltOf cf d[m]! d[h]! with
     | true =>
       have hp : (sp2 (ltOf cf) d m) ((i+j) / 2)=false:=by rw [← hh];unfold sp2;rw [hL];rfl
       have Hh:=Lib.hid hh
       clear hh
       obtain ⟨iN8,hiN8⟩ : ∃ zz,zz=m:=⟨_,rfl⟩
       obtain ⟨jN8,hjN8⟩ : ∃ zz,zz=h:=⟨_,rfl⟩
       have eaN8 : ((m : Int)).toNat=iN8:=by omega
       have paN8 : (0 : Int)≤(m : Int):=by omega
       have baN8 : (m : Int) < (d.size : Int):=by omega
       have raN8 : IntKind.i64.wrap ((m : Int))=(m : Int):=by rw [IntKind.wrap_i64];omega
       have ecN8 : ((h : Int)).toNat=jN8:=by omega
       have pcN8 : (0 : Int)≤(h : Int):=by omega
       have bcN8 : (h : Int) < (d.size : Int):=by omega
       have rcN8 : IntKind.i64.wrap ((h : Int))=(h : Int):=by rw [IntKind.wrap_i64];omega
       obtain ⟨xN8,hxN8⟩ : ∃ x,x=d[m]!:=⟨_,rfl⟩
       obtain ⟨yN8,hyN8⟩ : ∃ x,x=d[h]!:=⟨_,rfl⟩
       have lN8a:=S1.out.cl R (by omega) (m) (by omega)
       have lN8b:=S1.out.cl R (by omega) (h) (by omega)
       rw [← hxN8,← hiN8] at lN8a
       rw [← hyN8,← hjN8] at lN8b
       have hcN8:=S1.out.cmp HC.out (by omega) xN8 yN8
       have hvN8 : cf xN8 yN8 < 0:=by rw [hxN8,hyN8];exact of_decide_eq_true hL
       have hdN8 : decide (cf xN8 yN8 < 0)=true:=decide_eq_true hvN8
       clear hxN8 hyN8 hiN8 hjN8
       go_wp2_with fail
       refine wp_region_quiet_z (by assumption) (by kernel_rfl) ?_
       repeat (quiet_step (first | (go_at_fn g;refine grown_z (hcN8 _ _))))
       refine wpQuiet_nil ?_
       intro _ hw'
       obtain ⟨⟨nq,osq⟩,hw''⟩:=hw'
       subst hw''
       have S2 : Aside (SZ enc w0 blk off d (grow (atd wr nq) osq)):=S1.out.grown nq osq
       clear lN8a lN8b hcN8 S1
       generalize grow (atd wr nq) osq=w2 at S2 ⊢
       clear nq osq
       clear eaN8 ecN8 paN8 baN8 raN8 pcN8 bcN8 rcN8
       go_wp2_with fail
       go_roundg (gk - 1)
       case measure=>omega
       case rel=>exact ⟨i,h,rfl,by first | rfl | go_num,by omega,by omega,by omega,by omega,S2,(show Hid _ from by rw [Hh.out,← bsA_dn hg1 hij hp];exact HD.out)⟩
     | false =>
       have hp : (sp2 (ltOf cf) d m) ((i+j) / 2)=true:=by rw [← hh];unfold sp2;rw [hL];rfl
       have Hh:=Lib.hid hh
       clear hh
       obtain ⟨iN9,hiN9⟩ : ∃ zz,zz=m:=⟨_,rfl⟩
       obtain ⟨jN9,hjN9⟩ : ∃ zz,zz=h:=⟨_,rfl⟩
       have eaN9 : ((m : Int)).toNat=iN9:=by omega
       have paN9 : (0 : Int)≤(m : Int):=by omega
       have baN9 : (m : Int) < (d.size : Int):=by omega
       have raN9 : IntKind.i64.wrap ((m : Int))=(m : Int):=by rw [IntKind.wrap_i64];omega
       have ecN9 : ((h : Int)).toNat=jN9:=by omega
       have pcN9 : (0 : Int)≤(h : Int):=by omega
       have bcN9 : (h : Int) < (d.size : Int):=by omega
       have rcN9 : IntKind.i64.wrap ((h : Int))=(h : Int):=by rw [IntKind.wrap_i64];omega
       obtain ⟨xN9,hxN9⟩ : ∃ x,x=d[m]!:=⟨_,rfl⟩
       obtain ⟨yN9,hyN9⟩ : ∃ x,x=d[h]!:=⟨_,rfl⟩
       have lN9a:=S1.out.cl R (by omega) (m) (by omega)
       have lN9b:=S1.out.cl R (by omega) (h) (by omega)
       rw [← hxN9,← hiN9] at lN9a
       rw [← hyN9,← hjN9] at lN9b
       have hcN9:=S1.out.cmp HC.out (by omega) xN9 yN9
       have hvN9 : ¬ cf xN9 yN9 < 0:=by rw [hxN9,hyN9];exact of_decide_eq_false hL
       have hdN9 : decide (cf xN9 yN9 < 0)=false:=decide_eq_false hvN9
       clear hxN9 hyN9 hiN9 hjN9
       go_wp2_with fail
       refine wp_region_quiet_z (by assumption) (by kernel_rfl) ?_
       repeat (quiet_step (first | (go_at_fn g;refine grown_z (hcN9 _ _))))
       refine wpQuiet_nil ?_
       intro _ hw'
       obtain ⟨⟨nq,osq⟩,hw''⟩:=hw'
       subst hw''
       have S2 : Aside (SZ enc w0 blk off d (grow (atd wr nq) osq)):=S1.out.grown nq osq
       clear lN9a lN9b hcN9 S1
       generalize grow (atd wr nq) osq=w2 at S2 ⊢
       clear nq osq
       clear eaN9 ecN9 paN9 baN9 raN9 pcN9 bcN9 rcN9
       go_wp2_with fail
       go_roundg (gk - 1)
       case measure=>omega
       case rel=>exact ⟨h+1,j,by first | rfl | go_num,rfl,by omega,by omega,by omega,by omega,S2,(show Hid _ from by rw [Hh.out,← bsA_up hg1 hij hp];exact HD.out)⟩
    ·have hijz : ¬ (i : Int) < (j : Int):=by omega
     have hiK : i=K:=by rw [← HD.out,bsA_end _ _ _ _ hij]
     have hji : j=i:=by omega
     clear HD hg1
     subst hji
     subst hiK
     go_wp2_with fail
     go_loopg [17] (m - j) (fun g2 vk wr2=> ∃ (k : Nat) (dk : Array α),vk=.int .i64 (k : Int)∧j≤k∧k≤m∧k - j≤g2∧dk.size=d.size∧Aside (SZ enc w0 blk off dk wr2)∧Hid (dk=shDA m (m - k) d))
     case atStart=>exact ⟨m,d,rfl,by omega,Nat.le_refl _,Nat.le_refl _,rfl,S1,(show Hid _ from by rw [Nat.sub_self];exact rfl)⟩
     case round =>
      clear S1
      obtain ⟨k,dk,rfl,hjk,hkm,hg2,hsk,S3,HD⟩:=hrel
      by_cases hlt : j < k
      ·have hltz : (j : Int) < (k : Int):=by omega
       obtain ⟨iN10,hiN10⟩ : ∃ zz,zz=k:=⟨_,rfl⟩
       obtain ⟨jN10,hjN10⟩ : ∃ zz,zz=k - 1:=⟨_,rfl⟩
       have eaN10 : ((k : Int)).toNat=iN10:=by omega
       have paN10 : (0 : Int)≤(k : Int):=by omega
       have baN10 : (k : Int) < (d.size : Int):=by omega
       have raN10 : IntKind.i64.wrap ((k : Int))=(k : Int):=by rw [IntKind.wrap_i64];omega
       have ecN10 : ((k : Int) - 1).toNat=jN10:=by omega
       have pcN10 : (0 : Int)≤(k : Int) - 1:=by omega
       have bcN10 : (k : Int) - 1 < (d.size : Int):=by omega
       have rcN10 : IntKind.i64.wrap ((k : Int) - 1)=(k : Int) - 1:=by rw [IntKind.wrap_i64];omega
       obtain ⟨xN10,hxN10⟩ : ∃ x,x=dk[k]!:=⟨_,rfl⟩
       obtain ⟨yN10,hyN10⟩ : ∃ x,x=dk[k - 1]!:=⟨_,rfl⟩
       have S4 : Aside (SZ enc w0 blk off (swp dk (k) (k - 1)) ((wr.setCell ⟨blk,off+iN10,none⟩ (enc yN10)).setCell ⟨blk,off+jN10,none⟩ (enc xN10)).drew):=by rw [hiN10,hjN10,hxN10,hyN10];exact S3.out.swapped R (k) (k - 1) (by omega) (by omega)
       have cN10a:=S3.out.c1 R (by omega) (k) (by omega)
       have cN10b:=S3.out.c1 R (by omega) (k - 1) (by omega)
       have fN10a:=S3.out.f1 R (by omega) (k) (by omega)
       have fN10b:=S3.out.f1 R (by omega) (k - 1) (by omega)
       obtain ⟨uN10,cN10c⟩:=S3.out.c2 R (by omega) (k) (k - 1) (by omega) (by omega) (enc yN10)
       rw [← hjN10,← hiN10] at cN10c
       rw [← hxN10,← hiN10] at cN10a
       rw [← hyN10,← hjN10] at cN10b
       rw [← hiN10] at fN10a
       rw [← hjN10] at fN10b
       clear S3 hxN10 hyN10 hiN10 hjN10
       go_wp2_with fail
       go_big_region_o
       clear cN10a cN10b cN10c fN10a fN10b
       generalize ((wr.setCell ⟨blk,off+iN10,none⟩ (enc yN10)).setCell ⟨blk,off+jN10,none⟩ (enc xN10)).drew=w4 at S4 ⊢
       clear eaN10 ecN10 paN10 baN10 raN10 pcN10 bcN10 rcN10
       go_wp2
       go_roundg (k - 1 - j)
       case measure=>omega
       case rel=>exact ⟨k - 1,swp dk k (k - 1),by first | rfl | go_num | exact swInj (by omega),by omega,by omega,Nat.le_refl _,by rw [size_swp];exact hsk,S4,(show Hid _ from by rw [HD.out];exact (shDA_dn hkm (by omega) d).symm)⟩
      ·have hltz : ¬ (j : Int) < (k : Int):=by omega
       go_wp2
       (try simp only [Exit.inBlock,Exit.then])
       first | refine bodyPost_ret (results_none rfl _ _ _) rfl ?_ | refine bodyPost_end (results_none rfl _ _ _) rfl ?_
       refine ⟨rfl,?_⟩
       have h5 : k=j:=by omega
       have:=S3.out
       rw [HD.out,h5] at this
       rw [symA,if_neg c1,if_pos c2,← HK.out]
       exact this
  ·have e1 : (((m : Int) - (a : Int)) == 1)=false:=by simp;omega
   have e2 : (((b : Int) - (m : Int)) == 1)=false:=by simp;omega
   obtain ⟨mid,hmid⟩ : ∃ mid : Nat,mid=(a+b) / 2:=⟨_,rfl⟩
   have hmidz : ((a : Int)+(b : Int)) / 2=(mid : Int):=by omega
   have hmr : a < mid∧mid < b:=by omega
   obtain ⟨p,hp⟩ : ∃ p : Nat,p=mid+m - 1:=⟨_,rfl⟩
   have hpz : (mid : Int)+(m : Int) - 1=(p : Int):=by omega
   obtain ⟨K,hK⟩ : ∃ K,K=smAt (ltOf cf) d a m b:=⟨_,rfl⟩
   have hm2 : 2 * mid≤a+b∧a+b≤2 * mid+1:=by omega
   have hpp : p+1=mid+m:=by omega
   have Hmid:=Lib.hid hmid
   have HK:=Lib.hid hK
   unfold smAt smLo smHi at hK
   rw [← hmid,← hp] at hK
   clear hp hmid
   by_cases hc : mid < m
   ·have hcz : (mid : Int) < (m : Int):=by omega
    rw [if_pos hc,if_pos hc] at hK
    obtain ⟨lo,hlo⟩ : ∃ lo : Nat,lo=mid+m - b:=⟨_,rfl⟩
    have hlz : (mid : Int)+(m : Int) - (b : Int)=(lo : Int):=by omega
    rw [← hlo] at hK
    have hlb : lo+b=mid+m:=by omega
    have hlm : lo≤mid:=by omega
    clear hlo
    have HK2:=HK
    have HK:=Lib.hid hK
    clear hK
    go_wp2_with fail
    go_loopg [20,21,23] (mid - lo) (fun g1 vi vj vh wr=> ∃ i j : Nat,vi=.int .i64 (i : Int)∧vj=.int .i64 (j : Int)∧lo≤i∧i≤j∧j≤mid∧j - i≤g1∧Aside (SZ enc w0 blk off d wr)∧Hid (bsA (sp3 (ltOf cf) d p) g1 i j=K))
    case atStart=>exact ⟨lo,mid,by first | rfl | go_num,by first | rfl | go_num,Nat.le_refl _,by omega,Nat.le_refl _,Nat.le_refl _,S0,HK.out.symm⟩
    case round =>
     clear S0
     obtain ⟨i,j,rfl,rfl,hli,hij0,hjh,hg1,S1,HD⟩:=hrel
     by_cases hij : i < j
     ·have hijz : (i : Int) < (j : Int):=by omega
      obtain ⟨h,hh⟩ : ∃ h : Nat,h=(i+j) / 2:=⟨_,rfl⟩
      have hhz : ((i : Int)+(j : Int)) / 2=(h : Int):=by omega
      have hh1 : i≤h:=by omega
      have hh2 : h < j:=by omega
      obtain ⟨q,hq⟩ : ∃ q : Nat,q=p - h:=⟨_,rfl⟩
      have hqz : (p : Int) - (h : Int)=(q : Int):=by omega
      have hqn : q < d.size:=by omega
      have Hq:=Lib.hid hq
      clear hq
      cases hL : ltOf cf d[q]! d[h]! with
      | true =>
        have hp : (sp3 (ltOf cf) d p) ((i+j) / 2)=false:=by rw [← hh];unfold sp3;rw [← Hq.out];rw [hL];rfl
        have Hh:=Lib.hid hh
        clear hh
        obtain ⟨iN11,hiN11⟩ : ∃ zz,zz=q:=⟨_,rfl⟩
        obtain ⟨jN11,hjN11⟩ : ∃ zz,zz=h:=⟨_,rfl⟩
        have eaN11 : ((q : Int)).toNat=iN11:=by omega
        have paN11 : (0 : Int)≤(q : Int):=by omega
        have baN11 : (q : Int) < (d.size : Int):=by omega
        have raN11 : IntKind.i64.wrap ((q : Int))=(q : Int):=by rw [IntKind.wrap_i64];omega
        have ecN11 : ((h : Int)).toNat=jN11:=by omega
        have pcN11 : (0 : Int)≤(h : Int):=by omega
        have bcN11 : (h : Int) < (d.size : Int):=by omega
        have rcN11 : IntKind.i64.wrap ((h : Int))=(h : Int):=by rw [IntKind.wrap_i64];omega
        obtain ⟨xN11,hxN11⟩ : ∃ x,x=d[q]!:=⟨_,rfl⟩
        obtain ⟨yN11,hyN11⟩ : ∃ x,x=d[h]!:=⟨_,rfl⟩
        have lN11a:=S1.out.cl R (by omega) (q) (by omega)
        have lN11b:=S1.out.cl R (by omega) (h) (by omega)
        rw [← hxN11,← hiN11] at lN11a
        rw [← hyN11,← hjN11] at lN11b
        have hcN11:=S1.out.cmp HC.out (by omega) xN11 yN11
        have hvN11 : cf xN11 yN11 < 0:=by rw [hxN11,hyN11];exact of_decide_eq_true hL
        have hdN11 : decide (cf xN11 yN11 < 0)=true:=decide_eq_true hvN11
        clear hxN11 hyN11 hiN11 hjN11
        go_wp2_with fail
        refine wp_region_quiet_z (by assumption) (by kernel_rfl) ?_
        repeat (quiet_step (first | (go_at_fn g;refine grown_z (hcN11 _ _))))
        refine wpQuiet_nil ?_
        intro _ hw'
        obtain ⟨⟨nq,osq⟩,hw''⟩:=hw'
        subst hw''
        have S2 : Aside (SZ enc w0 blk off d (grow (atd wr nq) osq)):=S1.out.grown nq osq
        clear lN11a lN11b hcN11 S1
        generalize grow (atd wr nq) osq=w2 at S2 ⊢
        clear nq osq
        clear eaN11 ecN11 paN11 baN11 raN11 pcN11 bcN11 rcN11
        go_wp2_with fail
        go_roundg (gk - 1)
        case measure=>omega
        case rel=>exact ⟨i,h,rfl,by first | rfl | go_num,by omega,by omega,by omega,by omega,S2,(show Hid _ from by rw [Hh.out,← bsA_dn hg1 hij hp];exact HD.out)⟩
      | false =>
        have hp : (sp3 (ltOf cf) d p) ((i+j) / 2)=true:=by rw [← hh];unfold sp3;rw [← Hq.out];rw [hL];rfl
        have Hh:=Lib.hid hh
        clear hh
        obtain ⟨iN12,hiN12⟩ : ∃ zz,zz=q:=⟨_,rfl⟩
        obtain ⟨jN12,hjN12⟩ : ∃ zz,zz=h:=⟨_,rfl⟩
        have eaN12 : ((q : Int)).toNat=iN12:=by omega
        have paN12 : (0 : Int)≤(q : Int):=by omega
        have baN12 : (q : Int) < (d.size : Int):=by omega
        have raN12 : IntKind.i64.wrap ((q : Int))=(q : Int):=by rw [IntKind.wrap_i64];omega
        have ecN12 : ((h : Int)).toNat=jN12:=by omega
        have pcN12 : (0 : Int)≤(h : Int):=by omega
        have bcN12 : (h : Int) < (d.size : Int):=by omega
        have rcN12 : IntKind.i64.wrap ((h : Int))=(h : Int):=by rw [IntKind.wrap_i64];omega
        obtain ⟨xN12,hxN12⟩ : ∃ x,x=d[q]!:=⟨_,rfl⟩
        obtain ⟨yN12,hyN12⟩ : ∃ x,x=d[h]!:=⟨_,rfl⟩
        have lN12a:=S1.out.cl R (by omega) (q) (by omega)
        have lN12b:=S1.out.cl R (by omega) (h) (by omega)
        rw [← hxN12,← hiN12] at lN12a
        rw [← hyN12,← hjN12] at lN12b
        have hcN12:=S1.out.cmp HC.out (by omega) xN12 yN12
        have hvN12 : ¬ cf xN12 yN12 < 0:=by rw [hxN12,hyN12];exact of_decide_eq_false hL
        have hdN12 : decide (cf xN12 yN12 < 0)=false:=decide_eq_false hvN12
        clear hxN12 hyN12 hiN12 hjN12
        go_wp2_with fail
        refine wp_region_quiet_z (by assumption) (by kernel_rfl) ?_
        repeat (quiet_step (first | (go_at_fn g;refine grown_z (hcN12 _ _))))
        refine wpQuiet_nil ?_
        intro _ hw'
        obtain ⟨⟨nq,osq⟩,hw''⟩:=hw'
        subst hw''
        have S2 : Aside (SZ enc w0 blk off d (grow (atd wr nq) osq)):=S1.out.grown nq osq
        clear lN12a lN12b hcN12 S1
        generalize grow (atd wr nq) osq=w2 at S2 ⊢
        clear nq osq
        clear eaN12 ecN12 paN12 baN12 raN12 pcN12 bcN12 rcN12
        go_wp2_with fail
        go_roundg (gk - 1)
        case measure=>omega
        case rel=>exact ⟨h+1,j,by first | rfl | go_num,rfl,by omega,by omega,by omega,by omega,S2,(show Hid _ from by rw [Hh.out,← bsA_up hg1 hij hp];exact HD.out)⟩
     ·have hijz : ¬ (i : Int) < (j : Int):=by omega
      have hiK : i=K:=by rw [← HD.out,bsA_end _ _ _ _ hij]
      have hji : j=i:=by omega
      clear HD hg1
      subst hji
      subst hiK
      obtain ⟨st,hst⟩ : ∃ st,st=j:=⟨_,rfl⟩
      subst hst
      obtain ⟨en,hen⟩ : ∃ en,en=mid+m - st:=⟨_,rfl⟩
      have henz : (mid : Int)+(m : Int) - (st : Int)=(en : Int):=by omega
      have Hen:=Lib.hid hen
      have hen2 : en+st=mid+m:=by omega
      have hloa : a≤lo:=by omega
      clear hen
      by_cases q12 : st < mid
      ·skip
       by_cases q14 : a < st
       ·skip
        by_cases q16 : lo < st
        ·skip
         have g0a : (st : Int) < (m : Int):=by omega
         have g0b : (m : Int) < (en : Int):=by omega
         have g1a : (a : Int) < (st : Int):=by omega
         have g1b : (st : Int) < (mid : Int):=by omega
         have g2a : (mid : Int) < (en : Int):=by omega
         have g2b : (en : Int) < (b : Int):=by omega
         go_wp2_with fail
         refine (rotate_any enc _ blk off cap st m en d0 d w0 _ R hs S1.out (by omega) (by omega) (by omega) hsz).mono ?_
         rintro e w3 ⟨rfl,hq⟩
         have T1 : Aside (SZ enc w0 blk off (rotA m (en - st) (m - st) (en - m) d) w3):=hq
         clear hq S1
         go_wp2_with fail
         have z1 : (rotA m (en - st) (m - st) (en - m) d).size=d.size:=by simp only [size_rotA,size_symA]
         have hr1:=ih a st mid (rotA m (en - st) (m - st) (en - m) d) _ (by rw [z1];exact hs) T1.out (by omega) (by omega) (by rw [z1];omega) (by omega) (by rw [z1];exact hsz)
         rw [z1] at hr1
         clear z1
         refine hr1.mono ?_
         clear hr1
         rintro e w5 ⟨rfl,hq⟩
         have T2 : Aside (SZ enc w0 blk off (symA (ltOf cf) f a st mid (rotA m (en - st) (m - st) (en - m) d)) w5):=hq
         clear hq T1
         go_wp2_with fail
         have z2 : (symA (ltOf cf) f a st mid (rotA m (en - st) (m - st) (en - m) d)).size=d.size:=by simp only [size_rotA,size_symA]
         have hr2:=ih mid en b (symA (ltOf cf) f a st mid (rotA m (en - st) (m - st) (en - m) d)) _ (by rw [z2];exact hs) T2.out (by omega) (by omega) (by rw [z2];omega) (by omega) (by rw [z2];exact hsz)
         rw [z2] at hr2
         clear z2
         refine hr2.mono ?_
         clear hr2
         rintro e w6 ⟨rfl,hq⟩
         have T3 : Aside (SZ enc w0 blk off (symA (ltOf cf) f mid en b (symA (ltOf cf) f a st mid (rotA m (en - st) (m - st) (en - m) d))) w6):=hq
         clear hq T2
         go_wp2_with fail
         go_end0
         refine ⟨rfl,?_⟩
         rw [symA_mid _ c1 c2,← Hmid.out,← HK2.out,← Hen.out]
         unfold sy3
         rw [if_pos (show (st < m∧m < en) by omega),if_pos (show (a < st∧st < mid) by omega),if_pos (show (mid < en∧en < b) by omega)]
         exact T3.out
        ·skip
         have g0a : (st : Int) < (m : Int):=by omega
         have g0b : (m : Int) < (en : Int):=by omega
         have g1a : (a : Int) < (st : Int):=by omega
         have g1b : (st : Int) < (mid : Int):=by omega
         have g2a : (mid : Int) < (en : Int):=by omega
         have g2b : ¬ (en : Int) < (b : Int):=by omega
         go_wp2_with fail
         refine (rotate_any enc _ blk off cap st m en d0 d w0 _ R hs S1.out (by omega) (by omega) (by omega) hsz).mono ?_
         rintro e w3 ⟨rfl,hq⟩
         have T1 : Aside (SZ enc w0 blk off (rotA m (en - st) (m - st) (en - m) d) w3):=hq
         clear hq S1
         go_wp2_with fail
         have z1 : (rotA m (en - st) (m - st) (en - m) d).size=d.size:=by simp only [size_rotA,size_symA]
         have hr1:=ih a st mid (rotA m (en - st) (m - st) (en - m) d) _ (by rw [z1];exact hs) T1.out (by omega) (by omega) (by rw [z1];omega) (by omega) (by rw [z1];exact hsz)
         rw [z1] at hr1
         clear z1
         refine hr1.mono ?_
         clear hr1
         rintro e w5 ⟨rfl,hq⟩
         have T2 : Aside (SZ enc w0 blk off (symA (ltOf cf) f a st mid (rotA m (en - st) (m - st) (en - m) d)) w5):=hq
         clear hq T1
         go_wp2_with fail
         go_end0
         refine ⟨rfl,?_⟩
         rw [symA_mid _ c1 c2,← Hmid.out,← HK2.out,← Hen.out]
         unfold sy3
         rw [if_pos (show (st < m∧m < en) by omega),if_pos (show (a < st∧st < mid) by omega),if_neg (show ¬ (mid < en∧en < b) by omega)]
         exact T2.out
       ·skip
        by_cases q16 : lo < st
        ·skip
         have g0a : (st : Int) < (m : Int):=by omega
         have g0b : (m : Int) < (en : Int):=by omega
         have g1a : ¬ (a : Int) < (st : Int):=by omega
         have g2a : (mid : Int) < (en : Int):=by omega
         have g2b : (en : Int) < (b : Int):=by omega
         go_wp2_with fail
         refine (rotate_any enc _ blk off cap st m en d0 d w0 _ R hs S1.out (by omega) (by omega) (by omega) hsz).mono ?_
         rintro e w3 ⟨rfl,hq⟩
         have T1 : Aside (SZ enc w0 blk off (rotA m (en - st) (m - st) (en - m) d) w3):=hq
         clear hq S1
         go_wp2_with fail
         have z2 : (rotA m (en - st) (m - st) (en - m) d).size=d.size:=by simp only [size_rotA,size_symA]
         have hr2:=ih mid en b (rotA m (en - st) (m - st) (en - m) d) _ (by rw [z2];exact hs) T1.out (by omega) (by omega) (by rw [z2];omega) (by omega) (by rw [z2];exact hsz)
         rw [z2] at hr2
         clear z2
         refine hr2.mono ?_
         clear hr2
         rintro e w6 ⟨rfl,hq⟩
         have T3 : Aside (SZ enc w0 blk off (symA (ltOf cf) f mid en b (rotA m (en - st) (m - st) (en - m) d)) w6):=hq
         clear hq T1
         go_wp2_with fail
         go_end0
         refine ⟨rfl,?_⟩
         rw [symA_mid _ c1 c2,← Hmid.out,← HK2.out,← Hen.out]
         unfold sy3
         rw [if_pos (show (st < m∧m < en) by omega),if_neg (show ¬ (a < st∧st < mid) by omega),if_pos (show (mid < en∧en < b) by omega)]
         exact T3.out
        ·skip
         have g0a : (st : Int) < (m : Int):=by omega
         have g0b : (m : Int) < (en : Int):=by omega
         have g1a : ¬ (a : Int) < (st : Int):=by omega
         have g2a : (mid : Int) < (en : Int):=by omega
         have g2b : ¬ (en : Int) < (b : Int):=by omega
         go_wp2_with fail
         refine (rotate_any enc _ blk off cap st m en d0 d w0 _ R hs S1.out (by omega) (by omega) (by omega) hsz).mono ?_
         rintro e w3 ⟨rfl,hq⟩
         have T1 : Aside (SZ enc w0 blk off (rotA m (en - st) (m - st) (en - m) d) w3):=hq
         clear hq S1
         go_wp2_with fail
         go_end0
         refine ⟨rfl,?_⟩
         rw [symA_mid _ c1 c2,← Hmid.out,← HK2.out,← Hen.out]
         unfold sy3
         rw [if_pos (show (st < m∧m < en) by omega),if_neg (show ¬ (a < st∧st < mid) by omega),if_neg (show ¬ (mid < en∧en < b) by omega)]
         exact T1.out
      ·skip
       by_cases q14 : lo < st
       ·skip
        have g0a : (st : Int) < (m : Int):=by omega
        have g0b : ¬ (m : Int) < (en : Int):=by omega
        have g1a : (a : Int) < (st : Int):=by omega
        have g1b : ¬ (st : Int) < (mid : Int):=by omega
        have g2a : (mid : Int) < (en : Int):=by omega
        have g2b : (en : Int) < (b : Int):=by omega
        go_wp2_with fail
        have z2 : d.size=d.size:=rfl
        have hr2:=ih mid en b d _ (by rw [z2];exact hs) S1.out (by omega) (by omega) (by rw [z2];omega) (by omega) (by rw [z2];exact hsz)
        rw [z2] at hr2
        clear z2
        refine hr2.mono ?_
        clear hr2
        rintro e w6 ⟨rfl,hq⟩
        have T3 : Aside (SZ enc w0 blk off (symA (ltOf cf) f mid en b d) w6):=hq
        clear hq S1
        go_wp2_with fail
        go_end0
        refine ⟨rfl,?_⟩
        rw [symA_mid _ c1 c2,← Hmid.out,← HK2.out,← Hen.out]
        unfold sy3
        rw [if_neg (show ¬ (st < m∧m < en) by omega),if_neg (show ¬ (a < st∧st < mid) by omega),if_pos (show (mid < en∧en < b) by omega)]
        exact T3.out
       ·skip
        exfalso;omega
   ·have hcz : ¬ (mid : Int) < (m : Int):=by omega
    rw [if_neg hc,if_neg hc] at hK
    obtain ⟨lo,hlo⟩ : ∃ lo : Nat,lo=a:=⟨_,rfl⟩
    have hlz : True:=trivial
    have HK2:=HK
    have HK:=Lib.hid hK
    clear hK
    go_wp2_with fail
    go_loopg [20,21,23] (m - a) (fun g1 vi vj vh wr=> ∃ i j : Nat,vi=.int .i64 (i : Int)∧vj=.int .i64 (j : Int)∧a≤i∧i≤j∧j≤m∧j - i≤g1∧Aside (SZ enc w0 blk off d wr)∧Hid (bsA (sp3 (ltOf cf) d p) g1 i j=K))
    case atStart=>exact ⟨a,m,by first | rfl | go_num,by first | rfl | go_num,Nat.le_refl _,by omega,Nat.le_refl _,Nat.le_refl _,S0,HK.out.symm⟩
    case round =>
     clear S0
     obtain ⟨i,j,rfl,rfl,hli,hij0,hjh,hg1,S1,HD⟩:=hrel
     by_cases hij : i < j
     ·have hijz : (i : Int) < (j : Int):=by omega
      obtain ⟨h,hh⟩ : ∃ h : Nat,h=(i+j) / 2:=⟨_,rfl⟩
      have hhz : ((i : Int)+(j : Int)) / 2=(h : Int):=by omega
      have hh1 : i≤h:=by omega
      have hh2 : h < j:=by omega
      obtain ⟨q,hq⟩ : ∃ q : Nat,q=p - h:=⟨_,rfl⟩
      have hqz : (p : Int) - (h : Int)=(q : Int):=by omega
      have hqn : q < d.size:=by omega
      have Hq:=Lib.hid hq
      clear hq
      cases hL : ltOf cf d[q]! d[h]! with
      | true =>
        have hp : (sp3 (ltOf cf) d p) ((i+j) / 2)=false:=by rw [← hh];unfold sp3;rw [← Hq.out];rw [hL];rfl
        have Hh:=Lib.hid hh
        clear hh
        obtain ⟨iN13,hiN13⟩ : ∃ zz,zz=q:=⟨_,rfl⟩
        obtain ⟨jN13,hjN13⟩ : ∃ zz,zz=h:=⟨_,rfl⟩
        have eaN13 : ((q : Int)).toNat=iN13:=by omega
        have paN13 : (0 : Int)≤(q : Int):=by omega
        have baN13 : (q : Int) < (d.size : Int):=by omega
        have raN13 : IntKind.i64.wrap ((q : Int))=(q : Int):=by rw [IntKind.wrap_i64];omega
        have ecN13 : ((h : Int)).toNat=jN13:=by omega
        have pcN13 : (0 : Int)≤(h : Int):=by omega
        have bcN13 : (h : Int) < (d.size : Int):=by omega
        have rcN13 : IntKind.i64.wrap ((h : Int))=(h : Int):=by rw [IntKind.wrap_i64];omega
        obtain ⟨xN13,hxN13⟩ : ∃ x,x=d[q]!:=⟨_,rfl⟩
        obtain ⟨yN13,hyN13⟩ : ∃ x,x=d[h]!:=⟨_,rfl⟩
        have lN13a:=S1.out.cl R (by omega) (q) (by omega)
        have lN13b:=S1.out.cl R (by omega) (h) (by omega)
        rw [← hxN13,← hiN13] at lN13a
        rw [← hyN13,← hjN13] at lN13b
        have hcN13:=S1.out.cmp HC.out (by omega) xN13 yN13
        have hvN13 : cf xN13 yN13 < 0:=by rw [hxN13,hyN13];exact of_decide_eq_true hL
        have hdN13 : decide (cf xN13 yN13 < 0)=true:=decide_eq_true hvN13
        clear hxN13 hyN13 hiN13 hjN13
        go_wp2_with fail
        refine wp_region_quiet_z (by assumption) (by kernel_rfl) ?_
        repeat (quiet_step (first | (go_at_fn g;refine grown_z (hcN13 _ _))))
        refine wpQuiet_nil ?_
        intro _ hw'
        obtain ⟨⟨nq,osq⟩,hw''⟩:=hw'
        subst hw''
        have S2 : Aside (SZ enc w0 blk off d (grow (atd wr nq) osq)):=S1.out.grown nq osq
        clear lN13a lN13b hcN13 S1
        generalize grow (atd wr nq) osq=w2 at S2 ⊢
        clear nq osq
        clear eaN13 ecN13 paN13 baN13 raN13 pcN13 bcN13 rcN13
        go_wp2_with fail
        go_roundg (gk - 1)
        case measure=>omega
        case rel=>exact ⟨i,h,rfl,by first | rfl | go_num,by omega,by omega,by omega,by omega,S2,(show Hid _ from by rw [Hh.out,← bsA_dn hg1 hij hp];exact HD.out)⟩
      | false =>
        have hp : (sp3 (ltOf cf) d p) ((i+j) / 2)=true:=by rw [← hh];unfold sp3;rw [← Hq.out];rw [hL];rfl
        have Hh:=Lib.hid hh
        clear hh
        obtain ⟨iN14,hiN14⟩ : ∃ zz,zz=q:=⟨_,rfl⟩
        obtain ⟨jN14,hjN14⟩ : ∃ zz,zz=h:=⟨_,rfl⟩
        have eaN14 : ((q : Int)).toNat=iN14:=by omega
        have paN14 : (0 : Int)≤(q : Int):=by omega
        have baN14 : (q : Int) < (d.size : Int):=by omega
        have raN14 : IntKind.i64.wrap ((q : Int))=(q : Int):=by rw [IntKind.wrap_i64];omega
        have ecN14 : ((h : Int)).toNat=jN14:=by omega
        have pcN14 : (0 : Int)≤(h : Int):=by omega
        have bcN14 : (h : Int) < (d.size : Int):=by omega
        have rcN14 : IntKind.i64.wrap ((h : Int))=(h : Int):=by rw [IntKind.wrap_i64];omega
        obtain ⟨xN14,hxN14⟩ : ∃ x,x=d[q]!:=⟨_,rfl⟩
        obtain ⟨yN14,hyN14⟩ : ∃ x,x=d[h]!:=⟨_,rfl⟩
        have lN14a:=S1.out.cl R (by omega) (q) (by omega)
        have lN14b:=S1.out.cl R (by omega) (h) (by omega)
        rw [← hxN14,← hiN14] at lN14a
        rw [← hyN14,← hjN14] at lN14b
        have hcN14:=S1.out.cmp HC.out (by omega) xN14 yN14
        have hvN14 : ¬ cf xN14 yN14 < 0:=by rw [hxN14,hyN14];exact of_decide_eq_false hL
        have hdN14 : decide (cf xN14 yN14 < 0)=false:=decide_eq_false hvN14
        clear hxN14 hyN14 hiN14 hjN14
        go_wp2_with fail
        refine wp_region_quiet_z (by assumption) (by kernel_rfl) ?_
        repeat (quiet_step (first | (go_at_fn g;refine grown_z (hcN14 _ _))))
        refine wpQuiet_nil ?_
        intro _ hw'
        obtain ⟨⟨nq,osq⟩,hw''⟩:=hw'
        subst hw''
        have S2 : Aside (SZ enc w0 blk off d (grow (atd wr nq) osq)):=S1.out.grown nq osq
        clear lN14a lN14b hcN14 S1
        generalize grow (atd wr nq) osq=w2 at S2 ⊢
        clear nq osq
        clear eaN14 ecN14 paN14 baN14 raN14 pcN14 bcN14 rcN14
        go_wp2_with fail
        go_roundg (gk - 1)
        case measure=>omega
        case rel=>exact ⟨h+1,j,by first | rfl | go_num,rfl,by omega,by omega,by omega,by omega,S2,(show Hid _ from by rw [Hh.out,← bsA_up hg1 hij hp];exact HD.out)⟩
     ·have hijz : ¬ (i : Int) < (j : Int):=by omega
      have hiK : i=K:=by rw [← HD.out,bsA_end _ _ _ _ hij]
      have hji : j=i:=by omega
      clear HD hg1
      subst hji
      subst hiK
      obtain ⟨st,hst⟩ : ∃ st,st=j:=⟨_,rfl⟩
      subst hst
      obtain ⟨en,hen⟩ : ∃ en,en=mid+m - st:=⟨_,rfl⟩
      have henz : (mid : Int)+(m : Int) - (st : Int)=(en : Int):=by omega
      have Hen:=Lib.hid hen
      have hen2 : en+st=mid+m:=by omega
      have hloa : a≤lo:=by omega
      clear hen
      by_cases q12 : st < m
      ·skip
       by_cases q14 : a < st
       ·skip
        by_cases q16 : en < b
        ·skip
         have g0a : (st : Int) < (m : Int):=by omega
         have g0b : (m : Int) < (en : Int):=by omega
         have g1a : (a : Int) < (st : Int):=by omega
         have g1b : (st : Int) < (mid : Int):=by omega
         have g2a : (mid : Int) < (en : Int):=by omega
         have g2b : (en : Int) < (b : Int):=by omega
         go_wp2_with fail
         refine (rotate_any enc _ blk off cap st m en d0 d w0 _ R hs S1.out (by omega) (by omega) (by omega) hsz).mono ?_
         rintro e w3 ⟨rfl,hq⟩
         have T1 : Aside (SZ enc w0 blk off (rotA m (en - st) (m - st) (en - m) d) w3):=hq
         clear hq S1
         go_wp2_with fail
         have z1 : (rotA m (en - st) (m - st) (en - m) d).size=d.size:=by simp only [size_rotA,size_symA]
         have hr1:=ih a st mid (rotA m (en - st) (m - st) (en - m) d) _ (by rw [z1];exact hs) T1.out (by omega) (by omega) (by rw [z1];omega) (by omega) (by rw [z1];exact hsz)
         rw [z1] at hr1
         clear z1
         refine hr1.mono ?_
         clear hr1
         rintro e w5 ⟨rfl,hq⟩
         have T2 : Aside (SZ enc w0 blk off (symA (ltOf cf) f a st mid (rotA m (en - st) (m - st) (en - m) d)) w5):=hq
         clear hq T1
         go_wp2_with fail
         have z2 : (symA (ltOf cf) f a st mid (rotA m (en - st) (m - st) (en - m) d)).size=d.size:=by simp only [size_rotA,size_symA]
         have hr2:=ih mid en b (symA (ltOf cf) f a st mid (rotA m (en - st) (m - st) (en - m) d)) _ (by rw [z2];exact hs) T2.out (by omega) (by omega) (by rw [z2];omega) (by omega) (by rw [z2];exact hsz)
         rw [z2] at hr2
         clear z2
         refine hr2.mono ?_
         clear hr2
         rintro e w6 ⟨rfl,hq⟩
         have T3 : Aside (SZ enc w0 blk off (symA (ltOf cf) f mid en b (symA (ltOf cf) f a st mid (rotA m (en - st) (m - st) (en - m) d))) w6):=hq
         clear hq T2
         go_wp2_with fail
         go_end0
         refine ⟨rfl,?_⟩
         rw [symA_mid _ c1 c2,← Hmid.out,← HK2.out,← Hen.out]
         unfold sy3
         rw [if_pos (show (st < m∧m < en) by omega),if_pos (show (a < st∧st < mid) by omega),if_pos (show (mid < en∧en < b) by omega)]
         exact T3.out
        ·skip
         have g0a : (st : Int) < (m : Int):=by omega
         have g0b : (m : Int) < (en : Int):=by omega
         have g1a : (a : Int) < (st : Int):=by omega
         have g1b : (st : Int) < (mid : Int):=by omega
         have g2a : (mid : Int) < (en : Int):=by omega
         have g2b : ¬ (en : Int) < (b : Int):=by omega
         go_wp2_with fail
         refine (rotate_any enc _ blk off cap st m en d0 d w0 _ R hs S1.out (by omega) (by omega) (by omega) hsz).mono ?_
         rintro e w3 ⟨rfl,hq⟩
         have T1 : Aside (SZ enc w0 blk off (rotA m (en - st) (m - st) (en - m) d) w3):=hq
         clear hq S1
         go_wp2_with fail
         have z1 : (rotA m (en - st) (m - st) (en - m) d).size=d.size:=by simp only [size_rotA,size_symA]
         have hr1:=ih a st mid (rotA m (en - st) (m - st) (en - m) d) _ (by rw [z1];exact hs) T1.out (by omega) (by omega) (by rw [z1];omega) (by omega) (by rw [z1];exact hsz)
         rw [z1] at hr1
         clear z1
         refine hr1.mono ?_
         clear hr1
         rintro e w5 ⟨rfl,hq⟩
         have T2 : Aside (SZ enc w0 blk off (symA (ltOf cf) f a st mid (rotA m (en - st) (m - st) (en - m) d)) w5):=hq
         clear hq T1
         go_wp2_with fail
         go_end0
         refine ⟨rfl,?_⟩
         rw [symA_mid _ c1 c2,← Hmid.out,← HK2.out,← Hen.out]
         unfold sy3
         rw [if_pos (show (st < m∧m < en) by omega),if_pos (show (a < st∧st < mid) by omega),if_neg (show ¬ (mid < en∧en < b) by omega)]
         exact T2.out
       ·skip
        by_cases q16 : en < b
        ·skip
         have g0a : (st : Int) < (m : Int):=by omega
         have g0b : (m : Int) < (en : Int):=by omega
         have g1a : ¬ (a : Int) < (st : Int):=by omega
         have g2a : (mid : Int) < (en : Int):=by omega
         have g2b : (en : Int) < (b : Int):=by omega
         go_wp2_with fail
         refine (rotate_any enc _ blk off cap st m en d0 d w0 _ R hs S1.out (by omega) (by omega) (by omega) hsz).mono ?_
         rintro e w3 ⟨rfl,hq⟩
         have T1 : Aside (SZ enc w0 blk off (rotA m (en - st) (m - st) (en - m) d) w3):=hq
         clear hq S1
         go_wp2_with fail
         have z2 : (rotA m (en - st) (m - st) (en - m) d).size=d.size:=by simp only [size_rotA,size_symA]
         have hr2:=ih mid en b (rotA m (en - st) (m - st) (en - m) d) _ (by rw [z2];exact hs) T1.out (by omega) (by omega) (by rw [z2];omega) (by omega) (by rw [z2];exact hsz)
         rw [z2] at hr2
         clear z2
         refine hr2.mono ?_
         clear hr2
         rintro e w6 ⟨rfl,hq⟩
         have T3 : Aside (SZ enc w0 blk off (symA (ltOf cf) f mid en b (rotA m (en - st) (m - st) (en - m) d)) w6):=hq
         clear hq T1
         go_wp2_with fail
         go_end0
         refine ⟨rfl,?_⟩
         rw [symA_mid _ c1 c2,← Hmid.out,← HK2.out,← Hen.out]
         unfold sy3
         rw [if_pos (show (st < m∧m < en) by omega),if_neg (show ¬ (a < st∧st < mid) by omega),if_pos (show (mid < en∧en < b) by omega)]
         exact T3.out
        ·skip
         have g0a : (st : Int) < (m : Int):=by omega
         have g0b : (m : Int) < (en : Int):=by omega
         have g1a : ¬ (a : Int) < (st : Int):=by omega
         have g2a : (mid : Int) < (en : Int):=by omega
         have g2b : ¬ (en : Int) < (b : Int):=by omega
         go_wp2_with fail
         refine (rotate_any enc _ blk off cap st m en d0 d w0 _ R hs S1.out (by omega) (by omega) (by omega) hsz).mono ?_
         rintro e w3 ⟨rfl,hq⟩
         have T1 : Aside (SZ enc w0 blk off (rotA m (en - st) (m - st) (en - m) d) w3):=hq
         clear hq S1
         go_wp2_with fail
         go_end0
         refine ⟨rfl,?_⟩
         rw [symA_mid _ c1 c2,← Hmid.out,← HK2.out,← Hen.out]
         unfold sy3
         rw [if_pos (show (st < m∧m < en) by omega),if_neg (show ¬ (a < st∧st < mid) by omega),if_neg (show ¬ (mid < en∧en < b) by omega)]
         exact T1.out
      ·skip
       by_cases q14 : st < mid
       ·skip
        have g0a : ¬ (st : Int) < (m : Int):=by omega
        have g1a : (a : Int) < (st : Int):=by omega
        have g1b : (st : Int) < (mid : Int):=by omega
        have g2a : ¬ (mid : Int) < (en : Int):=by omega
        go_wp2_with fail
        have z1 : d.size=d.size:=rfl
        have hr1:=ih a st mid d _ (by rw [z1];exact hs) S1.out (by omega) (by omega) (by rw [z1];omega) (by omega) (by rw [z1];exact hsz)
        rw [z1] at hr1
        clear z1
        refine hr1.mono ?_
        clear hr1
        rintro e w5 ⟨rfl,hq⟩
        have T2 : Aside (SZ enc w0 blk off (symA (ltOf cf) f a st mid d) w5):=hq
        clear hq S1
        go_wp2_with fail
        go_end0
        refine ⟨rfl,?_⟩
        rw [symA_mid _ c1 c2,← Hmid.out,← HK2.out,← Hen.out]
        unfold sy3
        rw [if_neg (show ¬ (st < m∧m < en) by omega),if_pos (show (a < st∧st < mid) by omega),if_neg (show ¬ (mid < en∧en < b) by omega)]
        exact T2.out
       ·skip
        have g0a : ¬ (st : Int) < (m : Int):=by omega
        have g1a : (a : Int) < (st : Int):=by omega
        have g1b : ¬ (st : Int) < (mid : Int):=by omega
        have g2a : ¬ (mid : Int) < (en : Int):=by omega
        go_wp2_with fail
        go_end0
        refine ⟨rfl,?_⟩
        rw [symA_mid _ c1 c2,← Hmid.out,← HK2.out,← Hen.out]
        unfold sy3
        rw [if_neg (show ¬ (st < m∧m < en) by omega),if_neg (show ¬ (a < st∧st < mid) by omega),if_neg (show ¬ (mid < en∧en < b) by omega)]
        exact S1.out
variable {α : Type} [Inhabited α]
theorem size_insN (lt : α→α→Bool) (a : Nat) : ∀ (j : Nat) (d : Array α),(insInner lt a j d).size=d.size
 | 0,_=>rfl
 | j+1,d=>by
   rw [insInner]
   split
   ·rw [size_insN lt a j,size_swp]
   ·rfl
theorem size_insS (lt : α→α→Bool) (a b : Nat) : ∀ (f i : Nat) (d : Array α),(insS lt a b f i d).size=d.size
 | 0,_,_=>rfl
 | f+1,i,d=>by
   rw [insS]
   split
   ·rw [size_insS lt a b f,size_insN]
   ·rfl
theorem size_inso (lt : α→α→Bool) (d : Array α) (a b : Nat) : (insertionSort lt d a b).size=d.size:=by
 unfold insertionSort
 rw [insS_eq lt a b _ _ _ (Nat.le_refl _),size_insS]
theorem stbA_eq (lt : α→α→Bool) (d : Array α) (h : d.size < 20 ∨ d.size=24) : stbA lt d=stbS lt d:=by
 unfold stbA stbS insertionSort
 rcases h with h | h
 ·rw [if_pos h,if_pos h,insS_eq lt 0 d.size d.size 1 d (by omega)]
 ·rw [if_neg (by omega),if_neg (by omega),insS_eq lt 0 20 20 1 d (by omega),insS_eq lt 20 d.size d.size 21 _ (by omega)]
theorem stable_any (enc : α→Value) (cf : α→α→Int) (g : Nat) (cb : Array Value) (blk off cap : Nat) (d0 d : Array α) (w0 w : World)
 (eg : ∀ args w,(callFunc g args).run Tryz.prog w=.ok (.enter g args) w) (hcmp : CmpZ Tryz.prog g cb enc cf blk off d0.size w0) (R : Row1 enc w0 blk off d0) (hs : d0.size=d.size) (S : SZ enc w0 blk off d w) (h24 : d.size < 20 ∨ d.size=24) :
 Calls Tryz.prog 130 #[.slice (some ⟨blk,off,none⟩) d.size cap,.int .i64 (d.size : Int),.func (.func g) #[] cb] w fun e w'=>e=.returned (.tuple #[])∧SZ enc w0 blk off (stbA (ltOf cf) d) w':=by
 have HC : Aside _:=hcmp
 have S0 : Aside (SZ enc w0 blk off d w):=S
 clear S
 clear hcmp
 have Eg:=Lib.hid eg
 clear eg
 rcases h24 with h24 | h24
 ·go_enter Tryz.func130,Tryz.ntmps130
  have hz1 : ¬ (20 : Int)≤(d.size : Int):=by omega
  have hz2 : ¬ (20 : Int) < (d.size : Int):=by omega
  go_wp2_with fail
  go_loopg [7,8] 0 (fun gg s7 s8 wr=>s7=.int .i64 0∧s8=.int .i64 20∧Aside (SZ enc w0 blk off d wr))
  case atStart=>exact ⟨rfl,rfl,S0⟩
  case round =>
   clear S0
   obtain ⟨rfl,rfl,S1⟩:=hrel
   go_wp2_with fail
   refine (insertion_any enc cf g cb blk off cap 0 d.size d0 d w0 _ Eg.out HC.out R hs S1.out (by omega) (by omega) (by omega)).mono ?_
   rintro e w2 ⟨rfl,hq⟩
   have S2 : Aside (SZ enc w0 blk off (insertionSort (ltOf cf) d 0 d.size) w2):=hq
   clear hq S1
   go_wp2_with fail
   go_loopg [6] 0 (fun gg s6 wr=>s6=.int .i64 20∧Aside (SZ enc w0 blk off (insertionSort (ltOf cf) d 0 d.size) wr))
   case atStart=>exact ⟨rfl,S2⟩
   case round =>
    clear S2
    obtain ⟨rfl,S3⟩:=hrel
    go_wp2_with fail
    go_end0
    refine ⟨rfl,?_⟩
    unfold stbA
    rw [if_pos h24]
    exact S3.out
 ·rw [show (d.size : Int)=24 by omega]
  go_enter Tryz.func130,Tryz.ntmps130
  obtain ⟨d1,hd1⟩ : ∃ d1,d1=insertionSort (ltOf cf) d 0 20:=⟨_,rfl⟩
  obtain ⟨d2,hd2⟩ : ∃ d2,d2=insertionSort (ltOf cf) d1 20 24:=⟨_,rfl⟩
  have s1 : d1.size=d.size:=by rw [hd1,size_inso]
  have s2 : d2.size=d.size:=by rw [hd2,size_inso,s1]
  have Hd1:=Lib.hid hd1
  have Hd2:=Lib.hid hd2
  have Hs1:=Lib.hid s1
  have Hs2:=Lib.hid s2
  have Hs:=Lib.hid hs
  have H24:=Lib.hid h24
  clear hd1 hd2 s1 s2 hs h24
  go_wp2_with fail
  go_loopg [7,8] 1 (fun gg s7 s8 wr=>(gg=1∧s7=.int .i64 0∧s8=.int .i64 20∧Aside (SZ enc w0 blk off d wr)) ∨ (gg=0∧s7=.int .i64 20∧s8=.int .i64 40∧Aside (SZ enc w0 blk off d1 wr)))
  case atStart=>exact .inl ⟨rfl,rfl,rfl,S0⟩
  case round =>
   clear S0
   rcases hrel with ⟨rfl,rfl,rfl,S1⟩ | ⟨rfl,rfl,rfl,S1⟩
   ·go_wp2_with fail
    refine (insertion_any enc cf g cb blk off cap 0 20 d0 d w0 _ Eg.out HC.out R Hs.out S1.out (by omega) (by have:=H24.out;omega) (by have:=H24.out;omega)).mono ?_
    rintro e w2 ⟨rfl,hq⟩
    have S2 : Aside (SZ enc w0 blk off d1 w2):=by rw [Hd1.out];exact hq
    clear hq S1
    go_wp2_with fail
    go_roundg 0
    case measure=>omega
    case rel=>exact .inr ⟨rfl,rfl,rfl,S2⟩
   ·go_wp2_with fail
    have hi:=insertion_any enc cf g cb blk off cap 20 24 d0 d1 w0 wr Eg.out HC.out R (Hs.out.trans Hs1.out.symm) S1.out (by omega) (by rw [Hs1.out,H24.out];exact Nat.le_refl _) (by rw [Hs1.out,H24.out];decide)
    rw [Hs1.out] at hi
    refine hi.mono ?_
    clear hi
    rintro e w2 ⟨rfl,hq⟩
    have S2 : Aside (SZ enc w0 blk off d2 w2):=by rw [Hd2.out];exact hq
    clear hq S1
    go_wp2_with fail
    go_loopg [6,7,8,9] 1 (fun gg s6 s7 s8 s9 wr=>(gg=1∧s6=.int .i64 20∧Aside (SZ enc w0 blk off d2 wr)) ∨ (gg=0∧s6=.int .i64 40∧Aside (SZ enc w0 blk off (symA (ltOf cf) 24 0 20 24 d2) wr)))
    case atStart=>exact .inl ⟨rfl,rfl,S2⟩
    case round =>
     clear S2
     rcases hrel with ⟨rfl,rfl,S3⟩ | ⟨rfl,rfl,S3⟩
     ·go_wp2_with fail
      go_loopg [7,8] 0 (fun gg s7 s8 wr=>s7=.int .i64 0∧s8=.int .i64 40∧Aside (SZ enc w0 blk off d2 wr))
      case atStart=>exact ⟨rfl,rfl,S3⟩
      case round =>
       clear S3
       obtain ⟨rfl,rfl,S4⟩:=hrel
       go_wp2_with fail
       have hi:=symMerge_any enc cf g cb blk off cap d0 w0 Eg.out HC.out R 24 0 20 24 d2 wr (Hs.out.trans Hs2.out.symm) S4.out (by omega) (by omega) (by rw [Hs2.out,H24.out];exact Nat.le_refl _) (by omega) (by rw [Hs2.out,H24.out];decide)
       rw [Hs2.out] at hi
       refine hi.mono ?_
       clear hi
       rintro e w5 ⟨rfl,hq⟩
       have S5 : Aside (SZ enc w0 blk off (symA (ltOf cf) 24 0 20 24 d2) w5):=hq
       clear hq S4
       go_wp2_with fail
       go_roundg 0
       case measure=>omega
       case rel=>exact .inr ⟨rfl,rfl,S5⟩
     ·go_wp2_with fail
      go_end0
      refine ⟨rfl,?_⟩
      unfold stbA
      rw [if_neg (by rw [H24.out];decide),H24.out,← Hd1.out,← Hd2.out]
      exact S3.out
theorem sortStable_any (enc : α→Value) (cf : α→α→Int) (g : Nat) (cb : Array Value) (blk off cap : Nat) (d : Array α) (w : World)
 (eg : ∀ args w,(callFunc g args).run Tryz.prog w=.ok (.enter g args) w) (hcmp : CmpZ Tryz.prog g cb enc cf blk off d.size w) (R : Row1 enc w blk off d) (h24 : d.size < 20 ∨ d.size=24) :
 Calls Tryz.prog 111 #[.slice (some ⟨blk,off,none⟩) d.size cap,.func (.func g) #[] cb] w fun e w'=>e=.returned (.tuple #[])∧SZ enc w blk off (stbS (ltOf cf) d) w':=by
 have Hi:=Lib.hid (stable_any enc cf g cb blk off cap d d w w eg hcmp R rfl (SZ.start R.hH) h24)
 clear hcmp R
 go_enter Tryz.func111,Tryz.ntmps111
 have H24:=Lib.hid h24
 clear h24
 go_wp2_with fail
 refine Hi.out.mono ?_
 rintro e w2 ⟨rfl,hq⟩
 rw [stbA_eq _ _ H24.out] at hq
 have S2 : Aside _:=hq
 clear hq
 go_wp2_with fail
 go_end0
 exact ⟨rfl,S2.out⟩
end
end Go.Proofs.YtijadclebjcckaaGreat
