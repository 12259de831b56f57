/-
  Chapter 3: FireOwns: its conditions.
-/
import Derived.Test.YtfjkenhmaebpmaaFireAuto8
set_option linter.all false
set_option maxRecDepth 100000
set_option maxHeartbeats 4000000
namespace Go.FireN
open Go Go.Sx Go.Fire
theorem tabs_ok8:TabsOk Go.Proofs.Try.prog T8:=by
 refine ⟨by kernel_rfl,fun p hp=>tabs_ok.mty p ?_⟩
 revert hp
 simp [T8,T]
theorem v16 (x:Kiln × Fire × List Int) (hp:k16.pre x):V16 x:=Go.Fire.v16 x hp
theorem v23 (x:Kiln × (List Fire) × List Int) (hp:k23.pre x):V23 x:=Go.Fire.v23 x hp
theorem v21 (x:Kiln × Fire × List Int) (hp:k21.pre x):V21 x:=Go.Fire.v21 x hp
theorem standGo_len' (can:Go.Fire.Can) (places len:Nat):∀ (n i:Nat) (t:Int),(standGo can places len n i t).length=n
 | 0,_,_=>rfl
 | n+1,i,t=>by rw [standGo,List.length_cons,standGo_len' can places len n]
theorem stand_len' (k:Kiln) (l:List Fire) (prog:List Int):(standV k l prog).1.length≤l.length:=by
 rw [standV]
 cases (!(fire_check (k,prog,l)==0)) with
 | true=>exact Nat.zero_le _
 | false=>exact Nat.le_of_eq (standGo_len' _ _ _ _ _ _)
theorem bads_len' (k:Kiln) (f:Fire) (l:List Int):∀ (n i:Nat),(badsFrom k f l n i).length≤n
 | 0,_=>Nat.le_refl _
 | n+1,i=>by
  have:=bads_len' k f l n (i+1)
  rw [badsFrom]
  cases badAt k f l i<;>simp<;>omega
theorem check_len' (k:Kiln) (f:Fire) (l:List Int):(checkV k f l).1.length≤k.1.length:=by
 rw [checkV]
 cases (!(fire_check (k,l,[f])==0)) with
 | true=>exact Nat.zero_le _
 | false=>exact bads_len' k f l _ _
theorem backs_len (came:Came):∀ (n:Nat) (s:State),(backs came n s).length≤n
 | 0,_=>Nat.le_refl _
 | n+1,s=>by
  rw [backs]
  cases (s.1==noneS.1&&s.2==noneS.2) with
  | true=>exact Nat.zero_le _
  | false=>exact Nat.succ_le_succ (backs_len came n _)
theorem search_len (k:Kiln) (f:Fire) (l:List Stand):∀ (n:Nat) (st:Came × List State),(searchV k f l n st).1.length≤50
 | 0,_=>Nat.zero_le _
 | n+1,(c,[])=>Nat.zero_le _
 | n+1,(c,s::q)=>by
  rw [searchV]
  cases (s.2==f.2.2.2.1&&allCold l s.1 f.1) with
  | true=>show (progOf c s).length≤50;rw [progOf,List.length_reverse];exact backs_len c 50 s
  | false=>exact search_len k f l n _
theorem plan_len (k:Kiln) (f:Fire) (l:List Int):(planV k f l).1.length≤50:=by
 rw [planV]
 cases (!kilnB k||!fireB f) with
 | true=>exact Nat.zero_le _
 | false =>
  cases (!placesB k l (-1)||(l.length:Int)==0) with
  | true=>exact Nat.zero_le _
  | false=>exact search_len _ _ _ _ _
theorem sameL_refl':∀ l:List Int,sameL l l=true
 | []=>rfl
 | a::l=>by rw [sameL,sameL_refl' l,beq_self_eq_true];rfl
theorem getD_set2 {α:Type} (l:List α) (a d:α) {i j:Nat} (hi:i<l.length):(l.set i a).getD j d=if j=i then a else l.getD j d:=by
 by_cases e:j=i
 ·subst e;rw [if_pos rfl,List.getD_eq_getElem?_getD,List.getElem?_set_self hi];rfl
 ·rw [if_neg e,List.getD_eq_getElem?_getD,List.getElem?_set_ne (Ne.symm e),←List.getD_eq_getElem?_getD]
theorem v12 (x:Kiln × (List Fire) × (List Int) × List Int) (_:k12.pre x):V12 x:=by
 obtain ⟨k,l,prog,places⟩:=x
 refine ⟨fun _=>⟨trivial,rfl⟩,fun h=>?_⟩
 have h:((((decide ((14:Int)<(k.1.length:Int))||decide ((50:Int)<(prog.length:Int)))||decide ((6:Int)<(l.length:Int)))||decide ((14:Int)<(places.length:Int)))||((l.length:Int)==0))=false:=h
 simp only [Bool.or_eq_false_iff,decide_eq_false_iff_not,beq_eq_false_iff_ne] at h
 obtain ⟨⟨⟨⟨h1,h2⟩,h3⟩,h4⟩,h5⟩:=h
 have hb:big=1000000:=rfl
 obtain ⟨A,hA⟩:∃ A,A=fire_Check (k,l.getD 0 (0,0,0,0,0,0),prog):=⟨_,rfl⟩
 obtain ⟨B,hB⟩:∃ B,B=fire_Stand (k,l,prog):=⟨_,rfl⟩
 obtain ⟨C,hC⟩:∃ C,C=fire_Plan (k,l.getD 0 (0,0,0,0,0,0),places):=⟨_,rfl⟩
 have lA:A.1.length≤14:=by
  have:=check_len' k (l.getD 0 (0,0,0,0,0,0)) prog
  have e:A.1.length=(checkV k (l.getD 0 (0,0,0,0,0,0)) prog).1.length:=by rw [hA];rfl
  omega
 have lB:B.1.length≤6:=by
  have:=stand_len' k l prog
  have e:B.1.length=(standV k l prog).1.length:=by rw [hB];rfl
  omega
 have lC:C.1.length≤50:=by
  have:=plan_len k (l.getD 0 (0,0,0,0,0,0)) places
  have e:C.1.length=(planV k (l.getD 0 (0,0,0,0,0,0)) places).1.length:=by rw [hC];rfl
  omega
 simp only [Int.toNat_zero,List.replicate_zero,List.nil_append,List.length_cons,List.length_nil]
 rw [←hA,←hB,←hC]
 have l0:(0:Int)≤0∧(0:Int)<(l.length:Int):=by omega
 have hSp:fire_Stand_p (k,l,prog):=by show l.length≤big;omega
 refine ⟨roomy_of (by omega) (by omega) (by omega),roomy_of (by omega) (by omega) (by omega),roomy_of (by omega) (by omega) (by omega),roomy_of (by omega) (by omega) (by omega),l0,trivial,hSp,l0,trivial,roomy_of (by omega) (by omega) (by omega),roomy_of (by omega) (by omega) (by omega),roomy_of (by omega) (by omega) (by omega),?_⟩
 refine ⟨fun s=>∃ a:Nat,s.1=(a:Int)∧a≤3∧s.2.length=3∧∀ j,(s.2.getD j []).length≤100,fun s=>((3:Int) - s.1).toNat,⟨0,rfl,by omega,rfl,fun j=>?_⟩,?_⟩
 ·rcases j with _ | _ | _ | j
  ·show A.1.length≤100;omega
  ·show B.1.length≤100;omega
  ·show C.1.length≤100;omega
  ·exact Nat.zero_le _
 rintro ⟨_,T⟩ ⟨a,rfl,ha,hT,hR⟩
 dsimp only at hT hR ⊢
 refine ⟨fun hd=>⟨?_,?_⟩,fun hd=>?_⟩
 ·have hd:=of_decide_eq_true hd
  rw [hT];omega
 ·have hd:=of_decide_eq_true hd
  have ha':a<3:=by omega
  have hRa:=hR a
  simp only [Int.toNat_natCast]
  refine ⟨fun s=>∃ i:Nat,s.1=(i:Int)∧i≤(T.getD a []).length∧s.2.length=3∧∀ j,(s.2.getD j []).length=(T.getD j []).length,fun s=>(((T.getD a []).length:Int) - s.1).toNat,⟨0,rfl,by omega,hT,fun j=>rfl⟩,?_⟩
  rintro ⟨_,S⟩ ⟨i,rfl,hi,hS,hL⟩
  dsimp only at hS hL ⊢
  refine ⟨fun hd2=>?_,fun hd2=>?_⟩
  ·have hd2:=of_decide_eq_true hd2
   have ms:(((T.getD a []).length:Int) - ((i:Int)+1)).toNat<(((T.getD a []).length:Int) - (i:Int)).toNat:=by omega
   refine ⟨by rw [hL a];omega,by simp only [Z.in64];omega,(by trivial),(by trivial),(by trivial),(by trivial),(by trivial),(by trivial),(by trivial),⟨i+1,rfl,by omega,by simp [hS],fun j=>?_⟩,ms⟩
   rw [getD_set2 _ _ _ (by omega)]
   split
   ·rename_i e;rw [List.length_set,e];exact hL a
   ·exact hL j
  ·exact ⟨by simp only [Z.in64];omega,(by trivial),(by trivial),(by trivial),(by trivial),(by trivial),(by trivial),(by trivial),⟨a+1,rfl,by omega,hS,fun j=>by rw [hL j];exact hR j⟩,by show ((3:Int) - ((a:Int)+1)).toNat<((3:Int) - (a:Int)).toNat;omega⟩
 refine ⟨l0,trivial,l0,trivial,hSp,l0,trivial,?_⟩
 refine ⟨fun s=>∃ i:Nat,s=(i:Int)∧i≤k.1.length,fun s=>((k.1.length:Int) - s).toNat,⟨0,rfl,by omega⟩,?_⟩
 rintro _ ⟨i,rfl,hi⟩
 refine ⟨fun hd2=>?_,fun hd2=>?_⟩
 ·have hd2:=of_decide_eq_true hd2
  have ms:((k.1.length:Int) - ((i:Int)+1)).toNat<((k.1.length:Int) - (i:Int)).toNat:=by omega
  refine ⟨by omega,by omega,fun hv=>?_,fun hv=>⟨by simp only [Z.in64];omega,(by trivial),(by trivial),(by trivial),(by trivial),(by trivial),(by trivial),(by trivial),(by trivial),(by trivial),(by trivial),(by trivial),⟨i+1,rfl,by omega⟩,ms⟩⟩
  simp only [BEq.rfl,Bool.and_self,Bool.not_true] at hv
  cases hv
 refine ⟨fun s=>∃ i:Nat,s=(i:Int)∧i≤l.length,fun s=>((l.length:Int) - s).toNat,⟨0,rfl,by omega⟩,?_⟩
 rintro _ ⟨i2,rfl,hi2⟩
 refine ⟨fun hd3=>?_,fun hd3=>?_⟩
 ·have hd3:=of_decide_eq_true hd3
  have ms:((l.length:Int) - ((i2:Int)+1)).toNat<((l.length:Int) - (i2:Int)).toNat:=by omega
  refine ⟨by omega,by omega,fun hv=>?_,fun hv=>⟨by simp only [Z.in64];omega,(by trivial),(by trivial),(by trivial),(by trivial),(by trivial),(by trivial),(by trivial),(by trivial),(by trivial),(by trivial),(by trivial),⟨i2+1,rfl,by omega⟩,ms⟩⟩
  simp only [BEq.rfl,Bool.and_self,Bool.not_true] at hv
  cases hv
 have same:∀ l:List Int,ref03u_Ints (l,l)=true:=fun l=>sameL_refl' l
 simp only [same,BEq.rfl,Bool.and_self,Bool.true_and]
 exact ⟨by show prog.length≤big;omega,fun _=>(by show places.length≤big;omega),fun _=>(by show A.1.length≤big;omega),fun _=>(by show B.1.length≤big;omega),fun _=>(by show C.1.length≤big;omega),fun _=>trivial,rfl⟩
end Go.FireN
