import Derived.Test.YtleofbpepfmfgaaGreatDoorVxEvRun
set_option maxRecDepth 100000
namespace Go.Proofs.YtleofbpepfmfgaaGreatDoor
open Go Go.Vx
open Go.Vx.IOp Go.Vx.IR Go.Vx.Opd
structure Mac where
 u0:Int
 u1:Int
 u2:Int
 u3:Int
 l0:Int
 l1:Int
 l2:Int
 l3:Int
 rg:Int
 bk:Int
 pt:Int
def Mac.cells (M:Mac):List Value:=[i M.u0,i M.u1,i M.u2,i M.u3,i M.l0,i M.l1,i M.l2,i M.l3,i M.rg,i M.bk,i M.pt]
def Mac.val (M:Mac):Value:=.agg ⟨M.cells⟩
def Mac.unit (M:Mac):Nat→Int | 0=>M.u0 | 1=>M.u1 | 2=>M.u2 | _=>M.u3
def Mac.lat (M:Mac):Nat→Int | 0=>M.l0 | 1=>M.l1 | 2=>M.l2 | _=>M.l3
def inR (x lo hi:Int):Bool:=decide (x≥lo)&&decide (x≤hi)
def Mac.row (M:Mac) (j:Nat):Bool:=inR (M.unit j) 1 8&&inR (M.lat j) 1 8
def Mac.ok (M:Mac):Bool:=(M.row 0&&M.row 1&&M.row 2&&M.row 3)&&(inR M.rg 1 4096&&inR M.bk 1 8&&inR M.pt 4 32)
theorem Mac.unit_get (M:Mac) {k:Nat} (h:k<4):M.cells[0+((k:Int)).toNat]? = some (i (M.unit k)):=by
 have:k=0∨k=1∨k=2∨k=3:=by omega
 rcases this with rfl | rfl | rfl | rfl<;>rfl
theorem Mac.lat_get (M:Mac) {k:Nat} (h:k<4):M.cells[4+((k:Int)).toNat]? = some (i (M.lat k)):=by
 have:k=0∨k=1∨k=2∨k=3:=by omega
 rcases this with rfl | rfl | rfl | rfl<;>rfl
theorem z3a (m:Mem) (x lo hi:Int):q0m Tryz.prog 103 [i x,i lo,i hi] m (.bool (inR x lo hi)):=by
 refine q0e q0d Tryz.func103 k2f rfl ?_
 refine WSc.mk (fun _=>And.intro (Mem.le.refl _) rfl) ?_
 exact WRet.same ⟨rfl,rfl⟩
theorem j6j (m:Mem) (M:Mac):q0m Tryz.prog 69 [M.val] m (i (if M.ok=true then 0 else 2)):=by
 refine q0e q0d Tryz.func69 j9q rfl ?_
 conv=>whnf
 refine q0v.mk Nat (fun k=>[(4,.val (i k))]) (fun k m'=>m=m'∧k≤4∧∀ j,j<k→M.row j=true) (fun k=>4 - k) 0 ⟨rfl,trivial⟩ ⟨rfl,Nat.zero_le _,fun j hj=>by omega⟩ ?_
 rintro k m' ⟨rfl,hk,hq⟩
 refine Br.mk (fun hb=>?_) (fun hb=>?_)
 ·have hk4:k<4:=by
   have:(k:Int)<4:=of_decide_eq_true hb
   omega
  have fin:∀ (hrow:M.row k=true),∀ j,j<k+1→M.row j=true:=fun hrow j hj=>by
   by_cases e:j=k
   ·subst e;exact hrow
   ·exact hq j (by omega)
  have hno:M.row k=false→M.ok=false:=fun h=>by
   unfold Mac.ok
   have:k=0∨k=1∨k=2∨k=3:=by omega
   rcases this with rfl | rfl | rfl | rfl<;>rw [h]<;>simp
  have hz:((k:Int)).toNat=k:=by omega
  refine WBnd.mk ⟨by omega,by omega⟩ ?_
  refine WGet.mk (i (M.unit k)) (M.unit_get hk4) ?_
  conv=>whnf
  refine q0a.pure (z3a _ _ _ _) ?_
  refine WSc.mk (v:=!(inR (M.lat k) 1 8)) (fun _=>?_) ?_
  ·refine WBnd.mk ⟨by omega,by omega⟩ ?_
   refine WGet.mk (i (M.lat k)) (M.lat_get hk4) ?_
   conv=>whnf
   refine q0a.pure (z3a _ _ _ _) ?_
   exact And.intro (Mem.le.refl _) rfl
  refine Br.mk (fun hb2=>?_) (fun hb2=>?_)
  ·refine WRet.same ⟨?_,rfl⟩
   have h2:M.row k=false:=by
    unfold Mac.row
    cases h1:inR (M.unit k) 1 8<;>cases h2:inR (M.lat k) 1 8<;>simp_all [scB]
   rw [hno h2];rfl
  ·have h2:M.row k=true:=by
    unfold Mac.row
    cases h1:inR (M.unit k) 1 8<;>cases h2:inR (M.lat k) 1 8<;>simp_all [scB]
   refine WRng.mk (by apply wrap_i64<;>omega) ?_
   conv=>whnf
   exact ⟨k+1,⟨rfl,trivial⟩,⟨rfl,hk4,fin h2⟩,by omega⟩
 ·have hk4:k=4:=by
   have:¬ (k:Int)<4:=of_decide_eq_false hb
   omega
  subst hk4
  have h0:(M.row 0&&M.row 1&&M.row 2&&M.row 3)=true:=by rw [hq 0 (by omega),hq 1 (by omega),hq 2 (by omega),hq 3 (by omega)];rfl
  have hok:M.ok=(inR M.rg 1 4096&&inR M.bk 1 8&&inR M.pt 4 32):=by unfold Mac.ok;rw [h0,Bool.true_and]
  conv=>whnf
  refine q0a.pure (z3a _ _ _ _) ?_
  refine WSc.mk (v:=!(inR M.bk 1 8)) (fun _=>?_) ?_
  ·conv=>whnf
   refine q0a.pure (z3a _ _ _ _) ?_
   exact And.intro (Mem.le.refl _) rfl
  refine WSc.mk (v:=!(inR M.pt 4 32)) (fun _=>?_) ?_
  ·conv=>whnf
   refine q0a.pure (z3a _ _ _ _) ?_
   exact And.intro (Mem.le.refl _) rfl
  refine Br.mk (fun hb2=>?_) (fun hb2=>?_)
  ·refine WRet.same ⟨?_,rfl⟩
   have:M.ok=false:=by
    rw [hok]
    cases h1:inR M.rg 1 4096<;>cases h2:inR M.bk 1 8<;>cases h3:inR M.pt 4 32<;>simp_all [scB]
   rw [this];rfl
  ·refine WRet.same ⟨?_,rfl⟩
   have:M.ok=true:=by
    rw [hok]
    cases h1:inR M.rg 1 4096<;>cases h2:inR M.bk 1 8<;>cases h3:inR M.pt 4 32<;>simp_all [scB]
   rw [this];rfl
theorem k4e (m:Mem) (M:Mac):q0m Tryz.prog 28 [M.val] m (i (if M.ok=true then 0 else 2)):=by
 refine q0e q0d Tryz.func28 k5n rfl ?_
 conv=>whnf
 refine q0v.mk Nat (fun k=>[(3,.val (i k))]) (fun k m'=>m=m'∧k≤4∧∀ j,j<k→M.row j=true) (fun k=>4 - k) 0 ⟨rfl,trivial⟩ ⟨rfl,Nat.zero_le _,fun j hj=>by omega⟩ ?_
 rintro k m' ⟨rfl,hk,hq⟩
 refine Br.mk (fun hb=>?_) (fun hb=>?_)
 ·have hk4:k<4:=by
   have:(k:Int)<4:=of_decide_eq_true hb
   omega
  have fin:∀ (hrow:M.row k=true),∀ j,j<k+1→M.row j=true:=fun hrow j hj=>by
   by_cases e:j=k
   ·subst e;exact hrow
   ·exact hq j (by omega)
  have hno:M.row k=false→M.ok=false:=fun h=>by
   unfold Mac.ok
   have:k=0∨k=1∨k=2∨k=3:=by omega
   rcases this with rfl | rfl | rfl | rfl<;>rw [h]<;>simp
  have hrow:(scB (scB (scB (decide (M.unit k<1)) false (decide (M.unit k>8))) false (decide (M.lat k<1))) false (decide (M.lat k>8)))=!(M.row k):=by
   have e1:(scB (scB (scB (decide (M.unit k<1)) false (decide (M.unit k>8))) false (decide (M.lat k<1))) false (decide (M.lat k>8)))=(((decide (M.unit k<1)||decide (M.unit k>8))||decide (M.lat k<1))||decide (M.lat k>8)):=by
    cases decide (M.unit k<1)<;>cases decide (M.unit k>8)<;>cases decide (M.lat k<1)<;>cases decide (M.lat k>8)<;>rfl
   rw [e1]
   unfold Mac.row inR
   rw [Bool.eq_iff_iff]
   simp only [Bool.or_eq_true,Bool.not_eq_true',Bool.and_eq_false_iff,decide_eq_true_eq,decide_eq_false_iff_not]
   omega
  refine WBnd.mk ⟨by omega,by omega⟩ ?_
  refine WGet.mk (i (M.unit k)) (M.unit_get hk4) ?_
  refine WSc.mk (v:=decide (M.unit k>8)) (fun _=>?_) ?_
  ·refine WBnd.mk ⟨by omega,by omega⟩ ?_
   refine WGet.mk (i (M.unit k)) (M.unit_get hk4) ?_
   exact And.intro (Mem.le.refl _) rfl
  refine WSc.mk (v:=decide (M.lat k<1)) (fun _=>?_) ?_
  ·refine WBnd.mk ⟨by omega,by omega⟩ ?_
   refine WGet.mk (i (M.lat k)) (M.lat_get hk4) ?_
   exact And.intro (Mem.le.refl _) rfl
  refine WSc.mk (v:=decide (M.lat k>8)) (fun _=>?_) ?_
  ·refine WBnd.mk ⟨by omega,by omega⟩ ?_
   refine WGet.mk (i (M.lat k)) (M.lat_get hk4) ?_
   exact And.intro (Mem.le.refl _) rfl
  refine Br.mk (fun hb2=>?_) (fun hb2=>?_)
  ·rw [hrow] at hb2
   refine WRet.same ⟨?_,rfl⟩
   rw [hno (by simpa using hb2)];rfl
  ·rw [hrow] at hb2
   refine WRng.mk (by apply wrap_i64<;>omega) ?_
   conv=>whnf
   exact ⟨k+1,⟨rfl,trivial⟩,⟨rfl,hk4,fin (by simpa using hb2)⟩,by omega⟩
 ·have hk4:k=4:=by
   have:¬ (k:Int)<4:=of_decide_eq_false hb
   omega
  subst hk4
  have h0:(M.row 0&&M.row 1&&M.row 2&&M.row 3)=true:=by rw [hq 0 (by omega),hq 1 (by omega),hq 2 (by omega),hq 3 (by omega)];rfl
  have hok:M.ok=(inR M.rg 1 4096&&inR M.bk 1 8&&inR M.pt 4 32):=by unfold Mac.ok;rw [h0,Bool.true_and]
  refine WSc.mk (fun _=>And.intro (Mem.le.refl _) rfl) ?_
  refine WSc.mk (fun _=>And.intro (Mem.le.refl _) rfl) ?_
  refine WSc.mk (fun _=>And.intro (Mem.le.refl _) rfl) ?_
  refine WSc.mk (fun _=>And.intro (Mem.le.refl _) rfl) ?_
  refine WSc.mk (fun _=>And.intro (Mem.le.refl _) rfl) ?_
  have hcond:scB (scB (scB (scB (scB (decide (M.rg<1)) false (decide (M.rg>4096))) false (decide (M.bk<1))) false (decide (M.bk>8))) false (decide (M.pt<4))) false (decide (M.pt>32))=!M.ok:=by
   have e1:scB (scB (scB (scB (scB (decide (M.rg<1)) false (decide (M.rg>4096))) false (decide (M.bk<1))) false (decide (M.bk>8))) false (decide (M.pt<4))) false (decide (M.pt>32))=(((((decide (M.rg<1)||decide (M.rg>4096))||decide (M.bk<1))||decide (M.bk>8))||decide (M.pt<4))||decide (M.pt>32)):=by
    cases decide (M.rg<1)<;>cases decide (M.rg>4096)<;>cases decide (M.bk<1)<;>cases decide (M.bk>8)<;>cases decide (M.pt<4)<;>cases decide (M.pt>32)<;>rfl
   rw [e1,hok]
   unfold inR
   rw [Bool.eq_iff_iff]
   simp only [Bool.or_eq_true,Bool.not_eq_true',Bool.and_eq_false_iff,decide_eq_true_eq,decide_eq_false_iff_not]
   omega
  refine Br.mk (fun hb2=>?_) (fun hb2=>?_)
  ·rw [hcond] at hb2
   refine WRet.same ⟨?_,rfl⟩
   rw [if_neg (by simpa using hb2)];rfl
  ·rw [hcond] at hb2
   refine WRet.same ⟨?_,rfl⟩
   rw [if_pos (by simpa using hb2)];rfl
def q2j (k:Int):Int×Bool :=
 if 1≤k∧k≤12 then (0,true) else if (13≤k∧k≤15)∨k=23∨k=24 then (1,true) else
 if (16≤k∧k≤19)∨k=25 then (2,true) else if (20≤k∧k≤22)∨(26≤k∧k≤28) then (3,true) else (0,false)
def q7y (r:Int×Bool):Value:=.tuple ⟨[i r.1,.bool r.2]⟩
def useT (k:Int):Int:=match q2f[3 * (k - 1).toNat]? with | some (.int _ z)=>z | _=>0
def clsT (k:Int):Int:=match q2f[3 * (k - 1).toNat+1]? with | some (.int _ z)=>z | _=>0
def nmT (k:Int):ByteArray:=match q2f[3 * (k - 1).toNat+2]? with | some (.string s)=>s | _=>⟨#[]⟩
def v3e (k:Int):List Value:=[i (useT k),i (clsT k),.string (nmT k)]
def j4n:List Value:=[i 0,i 0,es]
theorem addo (b o z:Nat):(⟨b,o,none⟩:Addr).add z=⟨b,o+z,none⟩:=by unfold Addr.add;split<;>simp_all
theorem q4x {k:Int} (h1:1≤k) (h2:k≤25):k=1∨k=2∨k=3∨k=4∨k=5∨k=6∨k=7∨k=8∨k=9∨k=10∨k=11∨k=12∨k=13∨k=14∨k=15∨k=16∨k=17∨k=18∨k=19∨k=20∨k=21∨k=22∨k=23∨k=24∨k=25:=by omega
theorem z2p {m:Mem} {T:Nat} {fr:Nat×Nat} (hm:m 0=some (.cells ⟨q2f⟩ T fr)) (k:Int) :
  q0m Tryz.prog 139 [i k] m (.tuple ⟨[.agg ⟨if 1≤k∧k≤25 then v3e k else j4n⟩,.bool (decide (1≤k∧k≤25))]⟩):=by
 refine q0e q0d Tryz.func139 k2z rfl ?_
 refine WSc.mk (fun _=>And.intro (Mem.le.refl _) rfl) ?_
 refine Br.mk (fun hb=>?_) (fun hb=>?_)
 ·have hk:¬ (1≤k∧k≤25):=by
   simp only [scB,Bool.or_eq_true,decide_eq_true_eq] at hb;omega
  refine WRet.same ⟨?_,rfl⟩
  rw [if_neg hk,decide_eq_false hk];rfl
 ·have hk:1≤k∧k≤25:=by
   simp only [scB,Bool.or_eq_false_iff,decide_eq_false_iff_not] at hb;omega
  rw [if_pos hk,decide_eq_true hk]
  refine WRng.mk (by apply wrap_i64<;>omega) ?_
  refine WBnd.mk ⟨by omega,by omega⟩ ?_
  refine WLds.mk (v3e k) ?_ ?_ ?_
  ·intro j v hj
   rw [add0,addo]
   have key:q2f[(k - 1).toNat * 3+j]? = some v→q0q m ⟨0,(k - 1).toNat * 3+j,none⟩ v:=fun h=>⟨_,_,_,hm,rfl,by simpa using h⟩
   refine key ?_
   have hj3:j<3:=(List.getElem?_eq_some_iff.1 hj).1
   rw [← hj]
   have:j=0∨j=1∨j=2:=by omega
   rcases this with rfl | rfl | rfl<;>rcases q4x hk.1 hk.2 with rfl|rfl|rfl|rfl|rfl|rfl|rfl|rfl|rfl|rfl|rfl|rfl|rfl|rfl|rfl|rfl|rfl|rfl|rfl|rfl|rfl|rfl|rfl|rfl|rfl<;>rfl
  ·rfl
  exact WRet.same ⟨rfl,rfl⟩
theorem v8y {k:Int} (h1:1≤k) (h2:k≤25):q2j k=(clsT k,true):=by
 rcases q4x h1 h2 with rfl|rfl|rfl|rfl|rfl|rfl|rfl|rfl|rfl|rfl|rfl|rfl|rfl|rfl|rfl|rfl|rfl|rfl|rfl|rfl|rfl|rfl|rfl|rfl|rfl<;>rfl
theorem w3n {m:Mem} {T:Nat} {fr:Nat×Nat} (hm:m 0=some (.cells ⟨q2f⟩ T fr)) (k:Int) :
  q0m Tryz.prog 137 [i k] m (.tuple ⟨[i (if 1≤k∧k≤25 then clsT k else 0),i (if 1≤k∧k≤25 then 0 else 4)]⟩):=by
 refine q0e q0d Tryz.func137 v7w rfl ?_
 conv=>whnf
 refine q0a.pure (z2p hm k) ?_
 by_cases hk:1≤k∧k≤25
 ·rw [if_pos hk,decide_eq_true hk,if_pos hk,if_pos hk]
  refine Br.mk (fun h=>by cases h) (fun _=>?_)
  exact WRet.same ⟨rfl,rfl⟩
 ·rw [if_neg hk,decide_eq_false hk,if_neg hk,if_neg hk]
  refine Br.mk (fun _=>?_) (fun h=>by cases h)
  exact WRet.same ⟨rfl,rfl⟩
theorem z9d {m:Mem} {T:Nat} {fr:Nat×Nat} (hm:m 0=some (.cells ⟨q2f⟩ T fr)) (k:Int) :
  q0m Tryz.prog 104 [i k] m (q7y (q2j k)):=by
 refine q0e q0d Tryz.func104 j0v rfl ?_
 have hout:∀ z:Int,z=26∨z=27∨z=28→q2j z=(3,true):=fun z hz=>by
  rcases hz with rfl | rfl | rfl<;>rfl
 refine Br.mk (fun h=>?_) (fun n1=>?_)
 ·have h:k=26:=by simpa using h
  rw [hout k (.inl h)]
  refine Br.mk (fun _=>?_) (fun h2=>by cases h2)
  exact WRet.same ⟨rfl,rfl⟩
 refine Br.mk (fun h=>?_) (fun n2=>?_)
 ·have h:k=27:=by simpa using h
  rw [hout k (.inr (.inl h))]
  refine Br.mk (fun _=>?_) (fun h2=>by cases h2)
  exact WRet.same ⟨rfl,rfl⟩
 refine Br.mk (fun h=>?_) (fun n3=>?_)
 ·have h:k=28:=by simpa using h
  rw [hout k (.inr (.inr h))]
  exact WRet.same ⟨rfl,rfl⟩
 have n1:k≠26:=by simpa using n1
 have n2:k≠27:=by simpa using n2
 have n3:k≠28:=by simpa using n3
 conv=>whnf
 refine q0a.pure (w3n hm k) ?_
 by_cases hk:1≤k∧k≤25
 ·rw [if_pos hk,if_pos hk]
  refine WRet.same ⟨?_,rfl⟩
  rw [v8y hk.1 hk.2];rfl
 ·rw [if_neg hk,if_neg hk]
  refine WRet.same ⟨?_,rfl⟩
  have:q2j k=(0,false):=by
   unfold q2j
   rw [if_neg (by omega),if_neg (by omega),if_neg (by omega),if_neg (by omega)]
  rw [this];rfl
theorem z8i (m:Mem) (k:Int):q0m Tryz.prog 115 [i k] m (q7y (q2j k)):=by
 refine q0e q0d Tryz.func115 j0k rfl ?_
 unfold q2j
 refine WSc.mk (fun _=>And.intro (Mem.le.refl _) rfl) ?_
 refine Br.mk (fun hb=>?_) (fun hb=>?_)
 ·have h:1≤k∧k≤12:=by simp only [scB] at hb;simp at hb;omega
  rw [if_pos h]
  exact WRet.same ⟨rfl,rfl⟩
 have h:¬ (1≤k∧k≤12):=by simp only [scB] at hb;simp at hb;omega
 rw [if_neg h]
 clear hb
 refine WSc.mk (fun _=>And.intro (Mem.le.refl _) rfl) ?_
 refine Br.mk (fun hb=>?_) (fun hb=>?_)
 ·have h2:(13≤k∧k≤15)∨k=23∨k=24:=by simp only [scB] at hb;simp at hb;omega
  rw [if_pos h2]
  refine Br.mk (fun _=>?_) (fun h2=>by cases h2)
  exact WRet.same ⟨rfl,rfl⟩
 refine Br.mk (fun hb2=>?_) (fun hb2=>?_)
 ·have h2:(13≤k∧k≤15)∨k=23∨k=24:=by simp at hb2;omega
  rw [if_pos h2]
  refine Br.mk (fun _=>?_) (fun h2=>by cases h2)
  exact WRet.same ⟨rfl,rfl⟩
 refine Br.mk (fun hb3=>?_) (fun hb3=>?_)
 ·have h2:(13≤k∧k≤15)∨k=23∨k=24:=by simp at hb3;omega
  rw [if_pos h2]
  exact WRet.same ⟨rfl,rfl⟩
 have h2:¬ ((13≤k∧k≤15)∨k=23∨k=24):=by simp only [scB] at hb;simp at hb hb2 hb3;omega
 rw [if_neg h2]
 clear hb hb2 hb3
 refine WSc.mk (fun _=>And.intro (Mem.le.refl _) rfl) ?_
 refine Br.mk (fun hb=>?_) (fun hb=>?_)
 ·have h3:(16≤k∧k≤19)∨k=25:=by simp only [scB] at hb;simp at hb;omega
  rw [if_pos h3]
  refine Br.mk (fun _=>?_) (fun h2=>by cases h2)
  exact WRet.same ⟨rfl,rfl⟩
 refine Br.mk (fun hb2=>?_) (fun hb2=>?_)
 ·have h3:(16≤k∧k≤19)∨k=25:=by simp at hb2;omega
  rw [if_pos h3]
  exact WRet.same ⟨rfl,rfl⟩
 have h3:¬ ((16≤k∧k≤19)∨k=25):=by simp only [scB] at hb;simp at hb hb2;omega
 rw [if_neg h3]
 clear hb hb2
 refine WSc.mk (fun _=>And.intro (Mem.le.refl _) rfl) ?_
 refine Br.mk (fun hb=>?_) (fun hb=>?_)
 ·have h4:(20≤k∧k≤22)∨(26≤k∧k≤28):=by simp only [scB] at hb;simp at hb;omega
  rw [if_pos h4]
  refine Br.mk (fun _=>?_) (fun h2=>by cases h2)
  exact WRet.same ⟨rfl,rfl⟩
 refine WSc.mk (fun _=>And.intro (Mem.le.refl _) rfl) ?_
 refine Br.mk (fun hb2=>?_) (fun hb2=>?_)
 ·have h4:(20≤k∧k≤22)∨(26≤k∧k≤28):=by simp only [scB] at hb2;simp at hb2;omega
  rw [if_pos h4]
  exact WRet.same ⟨rfl,rfl⟩
 have h4:¬ ((20≤k∧k≤22)∨(26≤k∧k≤28)):=by simp only [scB] at hb hb2;simp at hb hb2;omega
 rw [if_neg h4]
 exact WRet.same ⟨rfl,rfl⟩
end Go.Proofs.YtleofbpepfmfgaaGreatDoor
