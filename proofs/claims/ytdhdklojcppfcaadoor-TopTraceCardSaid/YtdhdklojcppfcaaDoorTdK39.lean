/-
  The place of the least bit of 32, by the table that the package variable holds: the contract by hand.
-/
import Derived.Test.YtdhdklojcppfcaaDoorTdBits
import Derived.Test.YtdhdklojcppfcaaDoorTdMix
import Derived.Tactics
import Derived.Tactics2
import Derived.TacticsInMore
import Derived.Laws.Pointers
set_option linter.all false
set_option maxRecDepth 100000
namespace Go.Td
open Go Go.Sx
theorem fnc39:Go.Proofs.Tryd.prog.funcs[39]?=some Go.Proofs.Tryd.f39:=by kernel_rfl
theorem tab_at (i:Nat) (h:i<32):tab0[((2^i*125613361 % 4294967296 / 134217728:Nat))]?=some (Value.int .u8 (i:Nat)):=by
 have all:∀ i,i<32->(2^i*125613361 % 4294967296 / 134217728)<32∧[0,1,28,2,29,14,24,3,30,22,20,15,25,17,4,8,31,27,13,23,21,19,16,7,26,12,18,6,11,5,10,9][2^i*125613361 % 4294967296 / 134217728]?=some i:=by decide
 obtain ⟨h1,h2⟩:=all i h
 have e:tab0=[0,1,28,2,29,14,24,3,30,22,20,15,25,17,4,8,31,27,13,23,21,19,16,7,26,12,18,6,11,5,10,9].map fun n:Nat=>Value.int .u8 (n:Int):=rfl
 rw [e,List.getElem?_map,h2];rfl
theorem wrap32 (x:Int):IntKind.u32.wrap x=x % 4294967296:=rfl
theorem low_lt:∀ n x:Nat,lowN n x<n+1
 | 0,_=>by simp [lowN]
 | n+1,x=>by
  have:=low_lt n (x / 2)
  rw [lowN]
  cases x.testBit 0 with
  | true=>simp only [cond_true];omega
  | false=>simp only [cond_false];omega
theorem low_bits {x:Int} (h0:0<x) (h1:x<=top32):(BitVec.ofInt 32 x &&& BitVec.ofInt 32 (IntKind.u32.wrap (-x))).toNat=2^lowN 32 x.toNat:=by
 have h1:x<=4294967295:=h1
 have hx:x.toNat<2^32:=by rw [pow32];omega
 have e:IntKind.u32.wrap (-x)=((4294967296 - x.toNat:Nat):Int):=by rw [wrap32];omega
 rw [BitVec.toNat_and,e,zbh (by omega) h1,zbh (by omega) (by omega),Int.toNat_natCast,<-pow32]
 exact and_neg 32 x.toNat (by omega) hx
theorem stepV {o:Oper} {rest:List Oper} {ops:Array Oper} {Q:Exit->Act->World->Prop} {a:Act} {w:World} {P:Program} {v:Value} (hg:o.guard=none) (hd:∀ c,o.op≠.defer c)
  (hrun:(execOp a.eval o).run P w=.ok (.value v) w) (h:wpListIn (FF P none) 0 P ops Q rest (a.put o.dst v) w):wpListIn (FF P none) 0 P ops Q (o::rest) a w:=by
 refine wpListIn_plain hg fun K hK=>?_
 refine ⟨fun _ hf=>about_ex hrun hf,?_⟩
 rw [Oper.semAt_eq _ _ _ hd,hrun]
 exact hK _ _ h
theorem u5:Go.Proofs.Tryd.prog.underlying 5=some (.int .u8):=by kernel_rfl
theorem u3:Go.Proofs.Tryd.prog.underlying 3=some (.int .i64):=by kernel_rfl
theorem u96:Go.Proofs.Tryd.prog.underlying 96=some (.array 32 5):=by kernel_rfl
theorem tyF5:TyF Go.Proofs.Tryd.prog (fun T=>cond (Nat.beq T 5) (some (.i .u8)) none) (fun _=>0) 5 (.i .u8):=tyF_of (by kernel_rfl) rfl
theorem walk39 (w:World) (hly:Lay w) (x:Int) (h0:0<=x) (h1:x<=top32) :
  CallsIn (FF Go.Proofs.Tryd.prog none) 0 Go.Proofs.Tryd.prog 39 #[.int .u32 x] w fun e w'=>e=.returned (.int .i64 (zag x))∧w'=w:=by
 refine callsIn_of_wp fnc39 rfl (by show (Go.Proofs.Tryd.prog.funcs[39]?).isSome=true;rw [fnc39];rfl) ?_
 change Code.wpIn _ _ _ _ _ ⟨#[.int .u32 x,undef,undef,undef,undef,undef,undef,undef,undef,undef,undef,undef,undef,undef],[]⟩ _
 apply wpIn_seq
 apply wpIn_region_list
 refine stepV rfl (fun _ h=>by cases h) (v:=.int .i64 0) rfl ?_
 change Code.wpIn _ _ _ _ _ ⟨#[.int .u32 x,undef,.int .i64 0,undef,undef,undef,undef,undef,undef,undef,undef,undef,undef,undef],[]⟩ _
 apply wpIn_seq
 apply wpIn_seq
 apply wpIn_region_list
 refine stepV rfl (fun _ h=>by cases h) (v:=.int .u32 x) rfl ?_
 refine stepV rfl (fun _ h=>by cases h) (v:=.bool (x==0)) ?_ ?_
 ·simp [execOp,Act.eval,Act.put,eqGuard,binOp]
  rfl
 change Code.wpIn _ _ _ _ _ ⟨#[.int .u32 x,undef,.int .i64 0,.int .u32 x,.bool (x==0),undef,undef,undef,undef,undef,undef,undef,undef,undef],[]⟩ _
 by_cases hx0:x=0
 ·subst hx0
  refine wpIn_cond (t:=true) rfl ?_
  simp only [if_true]
  apply wpIn_seq
  apply wpIn_region_list
  refine stepV rfl (fun _ h=>by cases h) (v:=.int .i64 32) rfl ?_
  refine wpIn_ret ?_
  refine ⟨rfl,.int .i64 32,?_,rfl,rfl⟩
  simp [results,Go.Proofs.Tryd.f39,Act.put]
 have hb:(x==0)=false:=by simpa using hx0
 rw [hb]
 refine wpIn_cond (t:=false) rfl ?_
 simp only [Bool.false_eq_true,if_false]
 refine wpIn_skip ?_
 have hpos:0<x:=by omega
 have hlow:=low_bits hpos h1
 have hl32:=(lowN_spec 32 x.toNat (by omega) (by rw [pow32];simp only [top32] at h1;omega)).1
 have hval:zag x=((lowN 32 x.toNat:Nat):Int):=by simp only [zag,hb,cond_false]
 rw [hval]
 generalize lowN 32 x.toNat=m at *
 obtain ⟨p,hp⟩:∃ p:Nat,p=2^m:=⟨_,rfl⟩
 obtain ⟨q,hq⟩:∃ q:Nat,q=p*125613361 % 4294967296:=⟨_,rfl⟩
 obtain ⟨r,hr⟩:∃ r:Nat,r=q / 134217728:=⟨_,rfl⟩
 have htab:tab0[r]?=some (Value.int .u8 (m:Nat)):=by rw [hr,hq,hp];exact tab_at m hl32
 have hr32:r<32:=by omega
 have hneg:(Op.unary .neg (.int .u32 x)).run Go.Proofs.Tryd.prog w=.ok (.int .u32 (IntKind.u32.wrap (-x))) w:=by simp [Op.unary,Op.intArith]
 have hand:(Op.intBits .and .u32 x (IntKind.u32.wrap (-x))).run Go.Proofs.Tryd.prog w=.ok (.int .u32 (p:Int)) w:=by
  show Result.ok (Value.int .u32 (IntKind.u32.wrap (((BitVec.ofInt 32 x &&& BitVec.ofInt 32 (IntKind.u32.wrap (-x))).toNat:Nat):Int))) w=_
  have hpl:p<=4294967295:=by
   have:=Nat.pow_lt_pow_right (show 1<2 by omega) hl32
   rw [pow32] at this;omega
  rw [hlow,<-hp,wrap_nat32 hpl]
 have hmul:(Op.intArith .mul .u32 (p:Int) 125613361).run Go.Proofs.Tryd.prog w=.ok (.int .u32 (q:Int)) w:=by
  show Result.ok (Value.int .u32 (IntKind.u32.wrap ((p:Int)*125613361))) w=_
  rw [wrap32,show (p:Int)*125613361 % 4294967296=(q:Int) by omega]
 have hshr:(Op.shift .shr .u32 (q:Int) .u64 27).run Go.Proofs.Tryd.prog w=.ok (.int .u32 (r:Int)) w:=by
  rw [shift_shr_any .u32 .u64 (q:Int) 27 (by decide)]
  show Result.ok (Value.int .u32 ((q:Int) / 2^27)) w=_
  rw [show (q:Int) / 2^27=(r:Int) by omega]
 have hload:(Instr.loadAt 5 (.pointer (some ⟨0,r,none⟩))).run Go.Proofs.Tryd.prog w=.ok (.int .u8 (m:Nat)) w:=by
  have hc:=hly.2.cell htab
  rw [Nat.zero_add] at hc
  simp [Instr.loadAt,Instr.sureAddr,loadVar,Sem.run_bind,tyF5.isAgg w,Ty.agg,Result.andThen,hc]
 have hconv:(convert 5 3 (.int .u8 (m:Nat))).run Go.Proofs.Tryd.prog w=.ok (.int .i64 (m:Nat)) w:=by
  have hw:IntKind.i64.wrap (m:Int)=(m:Int):=wrap_nat (by omega)
  simp [convert,run_underlying u5,run_underlying u3,Conv.intToInt,hw]
 clear hlow
 change Code.wpIn _ _ _ _ _ ⟨#[.int .u32 x,undef,.int .i64 0,.int .u32 x,.bool false,undef,undef,undef,undef,undef,undef,undef,undef,undef],[]⟩ _
 apply wpIn_seq
 apply wpIn_region_list
 refine stepV rfl (fun _ h=>by cases h) (v:=.int .u32 x) rfl ?_
 refine stepV rfl (fun _ h=>by cases h) (v:=.int .u32 x) rfl ?_
 refine stepV rfl (fun _ h=>by cases h) (v:=.int .u32 (IntKind.u32.wrap (-x))) ?_ ?_
 ·simp [execOp,Act.eval,Act.put,hneg]
 refine stepV rfl (fun _ h=>by cases h) (v:=.int .u32 (p:Int)) ?_ ?_
 ·simp [execOp,Act.eval,Act.put,eqGuard,binOp,hand]
 refine stepV rfl (fun _ h=>by cases h) (v:=.int .u32 (q:Int)) ?_ ?_
 ·simp [execOp,Act.eval,Act.put,eqGuard,binOp,hmul]
 refine stepV rfl (fun _ h=>by cases h) (v:=.int .u32 (r:Int)) ?_ ?_
 ·simp [execOp,Act.eval,Act.put,eqGuard,binOp,hshr]
 refine stepV rfl (fun _ h=>by cases h) (v:=.pointer (some ⟨0,r,none⟩)) ?_ ?_
 ·simp [execOp,Act.eval,Act.put,Instr.indexAt,Instr.sureAddr,asIntOf,run_underlying u96,hr32]
  exact (Addr.add_lit 0 0 r).trans (by rw [Nat.zero_add])
 refine stepV rfl (fun _ h=>by cases h) (v:=.int .u8 (m:Nat)) ?_ ?_
 ·simp [execOp,Act.eval,Act.put,hload]
 refine stepV rfl (fun _ h=>by cases h) (v:=.int .i64 (m:Nat)) ?_ ?_
 ·simp [execOp,Act.eval,Act.put,hconv]
 refine stepV rfl (fun _ h=>by cases h) (v:=.int .i64 (m:Nat)) ?_ ?_
 ·simp [execOp,Act.eval,Act.put]
 refine wpListIn_nil ?_
 simp only [Exit.then]
 refine wpIn_ret ?_
 refine ⟨rfl,.int .i64 (m:Nat),?_,rfl,rfl⟩
 simp [results,Go.Proofs.Tryd.f39,Act.put]
theorem tz_in (x:Int):IntKind.i64.min<=zag x∧zag x<=IntKind.i64.max:=by
 have hm:lowN 32 x.toNat<33:=low_lt _ _
 rw [min64,max64]
 unfold zag
 cases (x==0) with
 | true=>simp only [cond_true];omega
 | false=>simp only [cond_false];omega
theorem h39:Sx.Good Go.Proofs.Tryd.prog 39 k39:=by
 refine ⟨zcQ fnc39 rfl rfl,?_⟩
 intro w M vs x hlt hA hpre hly
 obtain ⟨v,rfl,cs,⟨rfl,hr⟩,rfl⟩:=hA
 exact CallsIn.mono (walk39 w hly x hpre.1 hpre.2) (by
  rintro e w' ⟨rfl,rfl⟩
  refine ⟨_,rfl,.refl _ _,⟨_,⟨rfl,?_⟩,rfl⟩,fun h=>by cases h⟩
  exact tz_in x)
end Go.Td
