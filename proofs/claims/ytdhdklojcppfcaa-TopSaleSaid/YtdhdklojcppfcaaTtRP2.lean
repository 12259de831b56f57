/-
  The reference of the boxes: what is valid.
-/
import Derived.Test.YtdhdklojcppfcaaTtRP1
set_option linter.all false
set_option maxRecDepth 100000
set_option maxHeartbeats 4000000
set_option linter.unusedVariables false
open Bool renaming or_eq_false_iff->ydW
open Int renaming toNat_natCast->ydw
open List renaming mem_append->yas,mem_cons_of_mem->yal,mem_cons_self->yam,mem_singleton->yat,take_of_length_le->ydM
namespace Go.Tt
open Go Go.Sx
theorem zkj:∀ (l:List Int),(∀ a∈l,0<=a/\a<=48)->0<=l.sum/\l.sum<=48*(l.length:Int)/\(0<l.sum↔∃ n∈l,0<n)
 | [],_=>by simp
 | a::l,h=>by
  obtain ⟨h1,h2,h3⟩:=zkj l fun b hb=>h b (yal _ hb)
  have ha:=h a yam
  simp only [List.sum_cons,List.length_cons]
  refine ⟨by omega,by omega,?_⟩
  constructor
  ·intro hp
   by_cases h0:0<a
   ·exact ⟨a,yam,h0⟩
   ·obtain ⟨n,hn,g⟩:=h3.1 (by omega)
    exact ⟨n,yal _ hn,g⟩
  ·rintro ⟨n,hn,g⟩
   rcases List.mem_cons.1 hn with rfl | hn
   ·omega
   ·have:=h3.2 ⟨n,hn,g⟩;omega
theorem ziV {need:List Int} {l:List Pile} (h:BoxIs need l->False):false=boxB need l:=by
 cases e:boxB need l with
 | false=>rfl
 | true=>exact (h (box_iff.1 e)).elim
theorem v23 (x:(List Int) × List Pile) (_:k23.pre x):V23 x:=by
 refine ⟨trivial,fun hg=>?_,fun hg=>?_⟩
 ·refine ziV fun h=>?_
  have h1:=h.n1
  have h2:=h.n8
  have h3:=h.l8
  rw [Bool.or_eq_true] at hg
  rcases hg with hg | hg
  ·have hg:inB (x.1.length:Int) 1 8=false:=not_iff.1.1 hg
   rw [inB_iff.2 ⟨by omega,by omega⟩] at hg;cases hg
  ·have:=of_decide_eq_true hg;omega
 rw [ydW] at hg
 have hn:=inB_iff.1 (show inB (x.1.length:Int) 1 8=true from not_iff.2.1 hg.1)
 have hl:=of_decide_eq_false hg.2
 clear hg
 refine ⟨fun s=>(0<=s.2/\s.2<=(x.1.length:Int))/\s.1=(x.1.take s.2.toNat).sum/\∀ a∈x.1.take s.2.toNat,0<=a/\a<=48,fun s=>((x.1.length:Int) - s.2).toNat,⟨⟨by simp,by simp⟩,rfl,(fun a h=>by cases h)⟩,?_⟩
 rintro ⟨t,i⟩ ⟨⟨i0,i1⟩,e,hall⟩
 simp only at i0 i1 e hall ⊢
 have hb:=zkj _ hall
 rw [<-e] at hb
 have hlt:((x.1.take i.toNat).length:Int)<=8:=by rw [List.length_take];omega
 refine ⟨fun hd=>?_,fun hd=>?_⟩
 ·have hd:i<(x.1.length:Int):=of_decide_eq_true hd
  have hm:=zbx x.1 0 i i0 hd
  have et:=zig x.1 i i0 hd
  refine ⟨⟨i0,hd⟩,trivial,fun hh=>ziV fun h=>?_,fun hh=>?_⟩
  ·have hh:inB (x.1.getD i.toNat 0) 0 48=false:=not_iff.1.1 hh
   rw [inB_iff.2 (h.nd _ hm)] at hh;cases hh
  ·have hh:=inB_iff.1 (show inB (x.1.getD i.toNat 0) 0 48=true from not_iff.2.1 hh)
   refine ⟨⟨i0,hd⟩,by simp only [Z.in64];omega,by simp only [Z.in64];omega,⟨⟨by omega,by omega⟩,?_,?_⟩,by omega⟩
   ·rw [et,List.sum_append,e];simp
   ·intro a ha
    rw [et] at ha
    rcases yas.1 ha with ha | ha
    ·exact hall a ha
    ·rw [yat.1 ha];exact hh
 have hd:¬ i<(x.1.length:Int):=of_decide_eq_false hd
 rw [ydM (by omega)] at e hall
 have hb:=zkj _ hall
 rw [<-e] at hb
 have hpow:zb (x.1.length:Int) - 1=allV x.1.length:=by
  show (2:Int)^(Int.toNat (x.1.length:Int)) - 1=_
  simp only [allV,ydw]
 have hp8:=pow_le8 (n:=(x.1.length:Int)) (by omega) (by omega)
 rw [ydw] at hp8
 simp only [hpow]
 refine ⟨fun s=>(0<=s/\s<=(x.2.length:Int))/\∀ p∈x.2.take s.toNat,(0<=p.1/\p.1<=allV x.1.length)/\amount p.2,fun s=>((x.2.length:Int) - s).toNat,⟨⟨by simp,by simp⟩,(fun a h=>by cases h)⟩,?_⟩
 rintro j ⟨⟨j0,j1⟩,hpil⟩
 refine ⟨fun hd2=>?_,fun hd2=>?_⟩
 ·have hd2:j<(x.2.length:Int):=of_decide_eq_true hd2
  have hm:=zbx x.2 (0,0) j j0 hd2
  refine ⟨⟨j0,hd2⟩,⟨by omega,hn.2⟩,by simp only [Z.in64,allV];omega,trivial,fun _=>⟨j0,hd2⟩,fun _=>trivial,fun hh=>ziV fun h=>?_,fun hh=>?_⟩
  ·have hq:=h.pile _ hm
   have h1:zbv ((x.2.getD j.toNat (0,0)).1,0,allV x.1.length)=true:=inB_iff.2 hq.1
   have h2:zbv ((x.2.getD j.toNat (0,0)).2,0,1048576)=true:=inB_iff.2 hq.2
   rw [h1,h2] at hh;cases hh
  ·rw [ydW] at hh
   have h1:=inB_iff.1 (show inB (x.2.getD j.toNat (0,0)).1 0 (allV x.1.length)=true from not_iff.2.1 hh.1)
   have h2:=inB_iff.1 (show inB (x.2.getD j.toNat (0,0)).2 0 1048576=true from not_iff.2.1 hh.2)
   refine ⟨by simp only [Z.in64];omega,⟨⟨by omega,by omega⟩,fun p hp=>?_⟩,by show ((x.2.length:Int) - (j+1)).toNat<((x.2.length:Int) - j).toNat;omega⟩
   have ej:(j+1).toNat=j.toNat+1:=by omega
   have hjl:j.toNat<x.2.length:=by omega
   rw [ej,List.take_succ_eq_append_getElem hjl] at hp
   rcases yas.1 hp with hp | hp
   ·exact hpil p hp
   ·have e1:x.2.getD j.toNat (0,0)=x.2[j.toNat]:=by simp [List.getD,hjl]
    rw [yat.1 hp,<-e1];exact ⟨h1,h2⟩
 ·have hd2:¬ j<(x.2.length:Int):=of_decide_eq_false hd2
  rw [ydM (by omega)] at hpil
  show decide (0<t)=boxB x.1 x.2
  refine ze ?_
  rw [decide_eq_true_eq,box_iff]
  constructor
  ·intro h
   exact ⟨by omega,by omega,by omega,hall,hpil,hb.2.2.1 h⟩
  ·intro h
   exact hb.2.2.2 h.some
end Go.Tt
