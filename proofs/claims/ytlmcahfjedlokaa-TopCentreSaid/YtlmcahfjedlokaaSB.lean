/-
  The symbolic layer, tenth part: bits, tests of equality, conversions, addresses, reads.
-/
import Derived.Test.YtlmcahfjedlokaaSA
import Derived.Laws.Shifts
import Derived.Laws.Tables
import Derived.Laws.NewFold
import Derived.Great.FillDense
import Derived.Great.BuildSlice
import Derived.Laws.Slices
set_option linter.all false
namespace Go.Sx
theorem ofInt_toNat {x:Int} (h0:0≤x) (h1:x≤9223372036854775807):(BitVec.ofInt 64 x).toNat=x.toNat:=by
 rw [BitVec.toNat_ofInt]
 omega
theorem wrap_nat {n:Nat} (h:n≤9223372036854775807):IntKind.i64.wrap (n:Int)=(n:Int):=by
 rw [IntKind.wrap_i64];omega
theorem lt63 {x:Int} (h1:x≤9223372036854775807):x.toNat<2^63:=by
 have:(2:Nat)^63=9223372036854775808:=by decide
 omega
section
variable {K:Ctx} {s:ASt} {a:Act} {w:World} {β:Nat→Loc} {cx:Cx} {g:List (Nat × Bool)} {o:Oper} {e:Eff} {d:Nat}
theorem did_bits (h:RelB K s a w β) {op:BinOp} {T U:TypeId} {x y:Operand} (hop:o.op=.binOp op T x y U) {k':IntKind} {p q:Int} (hx:a.eval x=.int .i64 p) (hy:a.eval y=.int k' q) (hq:k'.min≤q∧q≤k'.max) (hp:IntKind.i64.min≤p∧p≤IntKind.i64.max)
  (hk:(op=.shl∨op=.shr)∨k'=.i64) (he:bits op p q=some e) (hob:∀ r,e.obl=some r→r):Did K s a w o e:=by
 rw [min64,max64] at hp
 unfold bits at he
 split at he
 ·obtain rfl:k'=.i64:=by simpa using hk
  rw [min64,max64] at hq
  have he:=okO_some he;subst he
  obtain ⟨h1,h2⟩:=hob _ rfl
  have hle:p.toNat &&& q.toNat≤p.toNat:=Nat.and_le_left
  refine did_pure (v:=.int .i64 ((p.toNat &&& q.toNat:Nat):Int)) h rfl ?_ (mk_int (by rw [min64];simp only [Z.zand];omega) (by rw [max64];simp only [Z.zand];omega))
  have hrun:(Op.intBits .and .i64 p q).run K.P w=.ok (.int .i64 ((p.toNat &&& q.toNat:Nat):Int)) w:=by
   show Result.ok (Value.int .i64 (IntKind.i64.wrap (((BitVec.ofInt 64 p &&& BitVec.ofInt 64 q).toNat:Nat):Int))) w=_
   rw [BitVec.toNat_and,ofInt_toNat h1 hp.2,ofInt_toNat h2 hq.2,wrap_nat (by omega)]
  simp [execOp,hop,hx,hy,eqGuard,binOp,hrun]
 ·obtain rfl:k'=.i64:=by simpa using hk
  rw [min64,max64] at hq
  have he:=okO_some he;subst he
  obtain ⟨h1,h2⟩:=hob _ rfl
  have hle:p.toNat ||| q.toNat<2^63:=Nat.or_lt_two_pow (lt63 hp.2) (lt63 hq.2)
  have e63:(2:Nat)^63=9223372036854775808:=by decide
  rw [e63] at hle
  refine did_pure (v:=.int .i64 ((p.toNat ||| q.toNat:Nat):Int)) h rfl ?_ (mk_int (by rw [min64];simp only [Z.zor];omega) (by rw [max64];simp only [Z.zor];omega))
  have hrun:(Op.intBits .or .i64 p q).run K.P w=.ok (.int .i64 ((p.toNat ||| q.toNat:Nat):Int)) w:=by
   show Result.ok (Value.int .i64 (IntKind.i64.wrap (((BitVec.ofInt 64 p ||| BitVec.ofInt 64 q).toNat:Nat):Int))) w=_
   rw [BitVec.toNat_or,ofInt_toNat h1 hp.2,ofInt_toNat h2 hq.2,wrap_nat (by omega)]
  simp [execOp,hop,hx,hy,eqGuard,binOp,hrun]
 ·obtain rfl:k'=.i64:=by simpa using hk
  rw [min64,max64] at hq
  have he:=okO_some he;subst he
  obtain ⟨h1,h2⟩:=hob _ rfl
  have hle:p.toNat ^^^ q.toNat<2^63:=Nat.xor_lt_two_pow (lt63 hp.2) (lt63 hq.2)
  have e63:(2:Nat)^63=9223372036854775808:=by decide
  rw [e63] at hle
  refine did_pure (v:=.int .i64 ((p.toNat ^^^ q.toNat:Nat):Int)) h rfl ?_ (mk_int (by rw [min64];simp only [Z.zxor];omega) (by rw [max64];simp only [Z.zxor];omega))
  have hrun:(Op.intBits .xor .i64 p q).run K.P w=.ok (.int .i64 ((p.toNat ^^^ q.toNat:Nat):Int)) w:=by
   show Result.ok (Value.int .i64 (IntKind.i64.wrap (((BitVec.ofInt 64 p ^^^ BitVec.ofInt 64 q).toNat:Nat):Int))) w=_
   rw [BitVec.toNat_xor,ofInt_toNat h1 hp.2,ofInt_toNat h2 hq.2,wrap_nat (by omega)]
  simp [execOp,hop,hx,hy,eqGuard,binOp,hrun]
 ·obtain rfl:k'=.i64:=by simpa using hk
  rw [min64,max64] at hq
  have he:=okO_some he;subst he
  obtain ⟨h1,h2⟩:=hob _ rfl
  have hle:p.toNat ^^^ (p.toNat &&& q.toNat)<2^63:=Nat.xor_lt_two_pow (lt63 hp.2) (Nat.lt_of_le_of_lt Nat.and_le_left (lt63 hp.2))
  have e63:(2:Nat)^63=9223372036854775808:=by decide
  rw [e63] at hle
  have hbv:BitVec.ofInt 64 p &&& ~~~BitVec.ofInt 64 q=BitVec.ofInt 64 p ^^^ (BitVec.ofInt 64 p &&& BitVec.ofInt 64 q):=by
   ext i hi
   simp only [BitVec.getElem_and,BitVec.getElem_not,BitVec.getElem_xor]
   cases (BitVec.ofInt 64 p)[i]<;>cases (BitVec.ofInt 64 q)[i]<;>rfl
  refine did_pure (v:=.int .i64 ((p.toNat ^^^ (p.toNat &&& q.toNat):Nat):Int)) h rfl ?_ (mk_int (by rw [min64];simp only [Z.zandn];omega) (by rw [max64];simp only [Z.zandn];omega))
  have hrun:(Op.intBits .andNot .i64 p q).run K.P w=.ok (.int .i64 ((p.toNat ^^^ (p.toNat &&& q.toNat):Nat):Int)) w:=by
   show Result.ok (Value.int .i64 (IntKind.i64.wrap (((BitVec.ofInt 64 p &&& ~~~BitVec.ofInt 64 q).toNat:Nat):Int))) w=_
   rw [hbv,BitVec.toNat_xor,BitVec.toNat_and,ofInt_toNat h1 hp.2,ofInt_toNat h2 hq.2,wrap_nat (by omega)]
  simp [execOp,hop,hx,hy,eqGuard,binOp,hrun]
 ·have he:=okO_some he;subst he
  obtain ⟨⟨h1,h2⟩,hin⟩:=hob _ rfl
  have hm:min q.toNat 64=q.toNat:=by omega
  refine did_pure (v:=.int .i64 (p*2^q.toNat)) h rfl ?_ (mk_int (by rw [min64];exact hin.1) (by rw [max64];exact hin.2))
  simp [execOp,hop,hx,hy,eqGuard,binOp]
  exact wrap_in hin
 ·have he:=okO_some he;subst he
  obtain ⟨h1,h2⟩:=hob _ rfl
  have hm:min q.toNat 64=q.toNat:=by omega
  have hpos:(0:Int)<2^q.toNat:=Int.pow_pos (by decide)
  have hr:-9223372036854775808≤p.fdiv (2^q.toNat)∧p.fdiv (2^q.toNat)≤9223372036854775807:=by
   rw [Int.fdiv_eq_ediv_of_nonneg _ (Int.le_of_lt hpos)]
   constructor
   ·rw [Int.le_ediv_iff_mul_le hpos]
    have h1:(1:Int)≤2^q.toNat:=hpos
    have:=Int.mul_le_mul_of_nonneg_left h1 (show (0:Int)≤9223372036854775808 by decide)
    omega
   ·by_cases h0:0≤p
    ·exact Int.le_trans (Int.ediv_le_self _ h0) hp.2
    ·have:=Int.ediv_neg_of_neg_of_pos (show p<0 by omega) hpos
     omega
  refine did_pure (v:=.int .i64 (p.fdiv (2^q.toNat))) h rfl ?_ (mk_int (by rw [min64];exact hr.1) (by rw [max64];exact hr.2))
  simp [execOp,hop,hx,hy,eqGuard,binOp]
  exact (Int.fdiv_eq_ediv_of_nonneg _ (Int.le_of_lt hpos)).symm
 ·cases he
theorem did_shrU8 (h:RelB K s a w β) {T U:TypeId} {x y:Operand} (hop:o.op=.binOp .shr T x y U) {k':IntKind} {p q:Int} (hx:a.eval x=.int .u8 p) (hy:a.eval y=.int k' q) (hp:IntKind.u8.min≤p∧p≤IntKind.u8.max)
  (he:shrU8 p q=some e) (hob:∀ r,e.obl=some r→r):Did K s a w o e:=by
 have he:=okO_some he;subst he
 obtain ⟨h1,h2⟩:=hob _ rfl
 have hsr:=shift_shr_any .u8 k' p q h1
 have hb:IntKind.u8.bits=8:=rfl
 have hm:min q.toNat 8=q.toNat:=by omega
 rw [hb,hm] at hsr
 have hpos:(0:Int)<2^q.toNat:=Int.pow_pos (by decide)
 rw [kMin_eq,kMax_eq] at hp
 have hp1:(0:Int)≤p:=hp.1
 have hp2:p≤255:=hp.2
 have hr:0≤p.fdiv (2^q.toNat)∧p.fdiv (2^q.toNat)≤255:=by
  rw [Int.fdiv_eq_ediv_of_nonneg _ (Int.le_of_lt hpos)]
  exact ⟨Int.ediv_nonneg hp1 (Int.le_of_lt hpos),Int.le_trans (Int.ediv_le_self _ hp1) hp2⟩
 refine did_pure (v:=.int .u8 (p.fdiv (2^q.toNat))) h rfl ?_ (mk_int (by rw [kMin_eq];exact hr.1) (by rw [kMax_eq];exact hr.2))
 simp [execOp,hop,hx,hy,eqGuard,binOp,hsr]
 exact (Int.fdiv_eq_ediv_of_nonneg _ (Int.le_of_lt hpos)).symm
theorem did_shrU16 (h:RelB K s a w β) {T U:TypeId} {x y:Operand} (hop:o.op=.binOp .shr T x y U) {k':IntKind} {p q:Int} (hx:a.eval x=.int .u16 p) (hy:a.eval y=.int k' q) (hp:IntKind.u16.min≤p∧p≤IntKind.u16.max)
  (he:shrU16 p q=some e) (hob:∀ r,e.obl=some r→r):Did K s a w o e:=by
 have he:=okO_some he;subst he
 obtain ⟨h1,h2⟩:=hob _ rfl
 have hsr:=shift_shr_any .u16 k' p q h1
 have hb:IntKind.u16.bits=16:=rfl
 have hm:min q.toNat 16=q.toNat:=by omega
 rw [hb,hm] at hsr
 have hpos:(0:Int)<2^q.toNat:=Int.pow_pos (by decide)
 rw [kMin_eq,kMax_eq] at hp
 have hp1:(0:Int)≤p:=hp.1
 have hp2:p≤65535:=hp.2
 have hr:0≤p.fdiv (2^q.toNat)∧p.fdiv (2^q.toNat)≤65535:=by
  rw [Int.fdiv_eq_ediv_of_nonneg _ (Int.le_of_lt hpos)]
  exact ⟨Int.ediv_nonneg hp1 (Int.le_of_lt hpos),Int.le_trans (Int.ediv_le_self _ hp1) hp2⟩
 refine did_pure (v:=.int .u16 (p.fdiv (2^q.toNat))) h rfl ?_ (mk_int (by rw [kMin_eq];exact hr.1) (by rw [kMax_eq];exact hr.2))
 simp [execOp,hop,hx,hy,eqGuard,binOp,hsr]
 exact (Int.fdiv_eq_ediv_of_nonneg _ (Int.le_of_lt hpos)).symm
theorem did_shrU (h:RelB K s a w β) {T U:TypeId} {x y:Operand} (hop:o.op=.binOp .shr T x y U) {k':IntKind} {p q:Int} (hx:a.eval x=.int .u32 p) (hy:a.eval y=.int k' q) (hp:IntKind.u32.min≤p∧p≤IntKind.u32.max)
  (he:shrU p q=some e) (hob:∀ r,e.obl=some r→r):Did K s a w o e:=by
 have he:=okO_some he;subst he
 obtain ⟨h1,h2⟩:=hob _ rfl
 have hsr:=shift_shr_any .u32 k' p q h1
 have hb:IntKind.u32.bits=32:=rfl
 have hm:min q.toNat 32=q.toNat:=by omega
 rw [hb,hm] at hsr
 have hpos:(0:Int)<2^q.toNat:=Int.pow_pos (by decide)
 rw [kMin_eq,kMax_eq] at hp
 have hp1:(0:Int)≤p:=hp.1
 have hp2:p≤4294967295:=hp.2
 have hr:0≤p.fdiv (2^q.toNat)∧p.fdiv (2^q.toNat)≤4294967295:=by
  rw [Int.fdiv_eq_ediv_of_nonneg _ (Int.le_of_lt hpos)]
  exact ⟨Int.ediv_nonneg hp1 (Int.le_of_lt hpos),Int.le_trans (Int.ediv_le_self _ hp1) hp2⟩
 refine did_pure (v:=.int .u32 (p.fdiv (2^q.toNat))) h rfl ?_ (mk_int (by rw [kMin_eq];exact hr.1) (by rw [kMax_eq];exact hr.2))
 simp [execOp,hop,hx,hy,eqGuard,binOp,hsr]
 exact (Int.fdiv_eq_ediv_of_nonneg _ (Int.le_of_lt hpos)).symm
theorem did_shrU64 (h:RelB K s a w β) {T U:TypeId} {x y:Operand} (hop:o.op=.binOp .shr T x y U) {k':IntKind} {p q:Int} (hx:a.eval x=.int .u64 p) (hy:a.eval y=.int k' q) (hp:IntKind.u64.min≤p∧p≤IntKind.u64.max)
  (he:shrU64 p q=some e) (hob:∀ r,e.obl=some r→r):Did K s a w o e:=by
 have he:=okO_some he;subst he
 obtain ⟨h1,h2⟩:=hob _ rfl
 have hsr:=shift_shr_any .u64 k' p q h1
 have hb:IntKind.u64.bits=64:=rfl
 have hm:min q.toNat 64=q.toNat:=by omega
 rw [hb,hm] at hsr
 have hpos:(0:Int)<2^q.toNat:=Int.pow_pos (by decide)
 rw [kMin_eq,kMax_eq] at hp
 have hp1:(0:Int)≤p:=hp.1
 have hp2:p≤18446744073709551615:=hp.2
 have hr:0≤p.fdiv (2^q.toNat)∧p.fdiv (2^q.toNat)≤18446744073709551615:=by
  rw [Int.fdiv_eq_ediv_of_nonneg _ (Int.le_of_lt hpos)]
  exact ⟨Int.ediv_nonneg hp1 (Int.le_of_lt hpos),Int.le_trans (Int.ediv_le_self _ hp1) hp2⟩
 refine did_pure (v:=.int .u64 (p.fdiv (2^q.toNat))) h rfl ?_ (mk_int (by rw [kMin_eq];exact hr.1) (by rw [kMax_eq];exact hr.2))
 simp [execOp,hop,hx,hy,eqGuard,binOp,hsr]
 exact (Int.fdiv_eq_ediv_of_nonneg _ (Int.le_of_lt hpos)).symm
theorem ofInt_toNatU {x:Int} (h0:0≤x) (h1:x≤18446744073709551615):(BitVec.ofInt 64 x).toNat=x.toNat:=by
 rw [BitVec.toNat_ofInt]
 omega
theorem did_andU64 (h:RelB K s a w β) {T U:TypeId} {x y:Operand} (hop:o.op=.binOp .and T x y U) {p q:Int} (hx:a.eval x=.int .u64 p) (hy:a.eval y=.int .u64 q) (hp:IntKind.u64.min≤p∧p≤IntKind.u64.max) (hq:IntKind.u64.min≤q∧q≤IntKind.u64.max)
  (he:andU64 p q=some e) (hob:∀ r,e.obl=some r→r):Did K s a w o e:=by
 have he:=okO_some he;subst he
 obtain ⟨h1,h2⟩:=hob _ rfl
 rw [kMin_eq,kMax_eq] at hp hq
 have hp2:p≤18446744073709551615:=hp.2
 have hq2:q≤18446744073709551615:=hq.2
 have hle:p.toNat &&& q.toNat≤p.toNat:=Nat.and_le_left
 refine did_pure (v:=.int .u64 ((p.toNat &&& q.toNat:Nat):Int)) h rfl ?_ (mk_int (by rw [kMin_eq];show (0:Int)≤((p.toNat &&& q.toNat:Nat):Int);omega) (by rw [kMax_eq];show ((p.toNat &&& q.toNat:Nat):Int)≤18446744073709551615;omega))
 have hrun:(Op.intBits .and .u64 p q).run K.P w=.ok (.int .u64 ((p.toNat &&& q.toNat:Nat):Int)) w:=by
  show Result.ok (Value.int .u64 (IntKind.u64.wrap (((BitVec.ofInt 64 p &&& BitVec.ofInt 64 q).toNat:Nat):Int))) w=_
  rw [BitVec.toNat_and,ofInt_toNatU h1 hp2,ofInt_toNatU h2 hq2]
  have:IntKind.u64.wrap ((p.toNat &&& q.toNat:Nat):Int)=((p.toNat &&& q.toNat:Nat):Int):=by
   show (((p.toNat &&& q.toNat:Nat):Int) % (2^64:Int))=_
   omega
  rw [this]
 simp [execOp,hop,hx,hy,eqGuard,binOp,hrun]
theorem ofInt_toNat8 {x:Int} (h0:0≤x) (h1:x≤255):(BitVec.ofInt 8 x).toNat=x.toNat:=by
 rw [BitVec.toNat_ofInt]
 omega
theorem did_andU8 (h:RelB K s a w β) {T U:TypeId} {x y:Operand} (hop:o.op=.binOp .and T x y U) {p q:Int} (hx:a.eval x=.int .u8 p) (hy:a.eval y=.int .u8 q) (hp:IntKind.u8.min≤p∧p≤IntKind.u8.max) (hq:IntKind.u8.min≤q∧q≤IntKind.u8.max)
  (he:andU8 p q=some e) (hob:∀ r,e.obl=some r→r):Did K s a w o e:=by
 have he:=okO_some he;subst he
 obtain ⟨h1,h2⟩:=hob _ rfl
 rw [kMin_eq,kMax_eq] at hp hq
 have hp2:p≤255:=hp.2
 have hq2:q≤255:=hq.2
 have hle:p.toNat &&& q.toNat≤p.toNat:=Nat.and_le_left
 refine did_pure (v:=.int .u8 ((p.toNat &&& q.toNat:Nat):Int)) h rfl ?_ (mk_int (by rw [kMin_eq];show (0:Int)≤((p.toNat &&& q.toNat:Nat):Int);omega) (by rw [kMax_eq];show ((p.toNat &&& q.toNat:Nat):Int)≤255;omega))
 have hrun:(Op.intBits .and .u8 p q).run K.P w=.ok (.int .u8 ((p.toNat &&& q.toNat:Nat):Int)) w:=by
  show Result.ok (Value.int .u8 (IntKind.u8.wrap (((BitVec.ofInt 8 p &&& BitVec.ofInt 8 q).toNat:Nat):Int))) w=_
  rw [BitVec.toNat_and,ofInt_toNat8 h1 hp2,ofInt_toNat8 h2 hq2]
  have:IntKind.u8.wrap ((p.toNat &&& q.toNat:Nat):Int)=((p.toNat &&& q.toNat:Nat):Int):=by
   show (((p.toNat &&& q.toNat:Nat):Int) % (2^8:Int))=_
   omega
  rw [this]
 simp [execOp,hop,hx,hy,eqGuard,binOp,hrun]
theorem ofInt_toNat32 {x:Int} (h0:0≤x) (h1:x≤4294967295):(BitVec.ofInt 32 x).toNat=x.toNat:=by
 rw [BitVec.toNat_ofInt]
 omega
theorem wrap_nat32 {n:Nat} (h:n≤4294967295):IntKind.u32.wrap (n:Int)=(n:Int):=by
 show ((n:Int) % (2^32:Int))=_
 omega
theorem did_bitsU (h:RelB K s a w β) {op:BinOp} {T U:TypeId} {x y:Operand} (hop:o.op=.binOp op T x y U) {k':IntKind} {p q:Int} (hx:a.eval x=.int .u32 p) (hy:a.eval y=.int k' q) (hp:IntKind.u32.min≤p∧p≤IntKind.u32.max) (hq:k'.min≤q∧q≤k'.max)
  (hk:op=.shl∨k'=.u32) (he:bitsU op p q=some e) (hob:∀ r,e.obl=some r→r):Did K s a w o e:=by
 rw [kMin_eq,kMax_eq] at hp
 have hp1:(0:Int)≤p:=hp.1
 have hp2:p≤4294967295:=hp.2
 have e32:(2:Nat)^32=4294967296:=by decide
 have lt32:∀ {x:Int},x≤4294967295→x.toNat<2^32:=fun h=>by rw [e32];omega
 have mk:∀ {n:Nat} {M:Nat→Prop},n≤4294967295→AVRep K.P s β w M (.s (.d (.i .u32) (n:Int))) (.int .u32 (n:Int)):=fun hn =>
  mk_int (by rw [kMin_eq];show (0:Int)≤_;omega) (by rw [kMax_eq];show _≤(4294967295:Int);omega)
 unfold bitsU at he
 split at he
 ·obtain rfl:k'=.u32:=by simpa using hk
  rw [kMin_eq,kMax_eq] at hq
  have hq2:q≤4294967295:=hq.2
  have he:=okO_some he;subst he
  obtain ⟨h1,h2⟩:=hob _ rfl
  have hle:p.toNat &&& q.toNat≤p.toNat:=Nat.and_le_left
  refine did_pure (v:=.int .u32 ((p.toNat &&& q.toNat:Nat):Int)) h rfl ?_ (mk (by omega))
  have hrun:(Op.intBits .and .u32 p q).run K.P w=.ok (.int .u32 ((p.toNat &&& q.toNat:Nat):Int)) w:=by
   show Result.ok (Value.int .u32 (IntKind.u32.wrap (((BitVec.ofInt 32 p &&& BitVec.ofInt 32 q).toNat:Nat):Int))) w=_
   rw [BitVec.toNat_and,ofInt_toNat32 h1 hp2,ofInt_toNat32 h2 hq2,wrap_nat32 (by omega)]
  simp [execOp,hop,hx,hy,eqGuard,binOp,hrun]
 ·obtain rfl:k'=.u32:=by simpa using hk
  rw [kMin_eq,kMax_eq] at hq
  have hq2:q≤4294967295:=hq.2
  have he:=okO_some he;subst he
  obtain ⟨h1,h2⟩:=hob _ rfl
  have hle:p.toNat ||| q.toNat<2^32:=Nat.or_lt_two_pow (lt32 hp2) (lt32 hq2)
  rw [e32] at hle
  refine did_pure (v:=.int .u32 ((p.toNat ||| q.toNat:Nat):Int)) h rfl ?_ (mk (by omega))
  have hrun:(Op.intBits .or .u32 p q).run K.P w=.ok (.int .u32 ((p.toNat ||| q.toNat:Nat):Int)) w:=by
   show Result.ok (Value.int .u32 (IntKind.u32.wrap (((BitVec.ofInt 32 p ||| BitVec.ofInt 32 q).toNat:Nat):Int))) w=_
   rw [BitVec.toNat_or,ofInt_toNat32 h1 hp2,ofInt_toNat32 h2 hq2,wrap_nat32 (by omega)]
  simp [execOp,hop,hx,hy,eqGuard,binOp,hrun]
 ·obtain rfl:k'=.u32:=by simpa using hk
  rw [kMin_eq,kMax_eq] at hq
  have hq2:q≤4294967295:=hq.2
  have he:=okO_some he;subst he
  obtain ⟨h1,h2⟩:=hob _ rfl
  have hle:p.toNat ^^^ (p.toNat &&& q.toNat)<2^32:=Nat.xor_lt_two_pow (lt32 hp2) (Nat.lt_of_le_of_lt Nat.and_le_left (lt32 hp2))
  rw [e32] at hle
  have hbv:BitVec.ofInt 32 p &&& ~~~BitVec.ofInt 32 q=BitVec.ofInt 32 p ^^^ (BitVec.ofInt 32 p &&& BitVec.ofInt 32 q):=by
   ext i hi
   simp only [BitVec.getElem_and,BitVec.getElem_not,BitVec.getElem_xor]
   cases (BitVec.ofInt 32 p)[i]<;>cases (BitVec.ofInt 32 q)[i]<;>rfl
  refine did_pure (v:=.int .u32 ((p.toNat ^^^ (p.toNat &&& q.toNat):Nat):Int)) h rfl ?_ (mk (by omega))
  have hrun:(Op.intBits .andNot .u32 p q).run K.P w=.ok (.int .u32 ((p.toNat ^^^ (p.toNat &&& q.toNat):Nat):Int)) w:=by
   show Result.ok (Value.int .u32 (IntKind.u32.wrap (((BitVec.ofInt 32 p &&& ~~~BitVec.ofInt 32 q).toNat:Nat):Int))) w=_
   rw [hbv,BitVec.toNat_xor,BitVec.toNat_and,ofInt_toNat32 h1 hp2,ofInt_toNat32 h2 hq2,wrap_nat32 (by omega)]
  simp [execOp,hop,hx,hy,eqGuard,binOp,hrun]
 ·have he:=okO_some he;subst he
  obtain ⟨⟨h1,h2⟩,h3,h4⟩:=hob _ rfl
  have h3:(0:Int)≤p*2^q.toNat:=h3
  have h4:p*2^q.toNat≤(4294967295:Int):=h4
  have hsr:=shift_shl_any .u32 k' p q h1
  have hb:IntKind.u32.bits=32:=rfl
  have hm:min q.toNat 32=q.toNat:=by omega
  rw [hb,hm] at hsr
  have hw:IntKind.u32.wrap (p*2^q.toNat)=p*2^q.toNat:=by
   show ((p*2^q.toNat) % (2^32:Int))=_
   omega
  refine did_pure (v:=.int .u32 (p*2^q.toNat)) h rfl ?_ (mk_int (by rw [kMin_eq];exact h3) (by rw [kMax_eq];exact h4))
  simp [execOp,hop,hx,hy,eqGuard,binOp,hsr,hw]
 ·cases he
theorem TyF.part {P:Program} {ty:Nat→Option Ty} {el:Nat→Nat} {T:Nat} {t:Ty} (hT:TyF P ty el T t) {w:World} {M:Nat→Prop} {cs:List Value} {off:Nat} {x:t.D} (hn:off+t.n≤cs.length) (hr:Rep P t w M (Sx.sub cs off t.n) x) (w':World) :
  (part T cs.toArray off).run P w'=.ok (pack t (Sx.sub cs off t.n)) w':=by
 have hl:=hr.length
 cases ha:t.agg with
 | true =>
  simp only [Go.part,Sem.run_bind,hT.isAgg,ha,Result.andThen_ok,if_true,hT.size,Sem.run_pure,pack,cond_true]
  have e:cs.toArray.extract off (off+t.n)=((cs.drop off).take t.n).toArray:=by simp
  rw [e];rfl
 | false =>
  obtain ⟨v,hv,_⟩:=hr.single ha
  have h0:(Sx.sub cs off t.n)[0]?=cs[off]?:=by
   have h1:t.n=1:=by rw [←hl,hv];rfl
   rw [sub_getElem? (by omega)];simp
  rw [hv] at h0
  simp only [List.getElem?_cons_zero] at h0
  simp [Go.part,Sem.run_bind,hT.isAgg,ha,←h0,pack,hv]
variable {P:Program} {ty:Nat→Option Ty} {el:Nat→Nat}
theorem eq_rep (hty:∀ T t,ty T=some t→TyF P ty el T t):∀ (n:Nat) {t:Ty} {T:Nat} {d:Nat} {w:World} {M:Nat→Prop} {x y:t.D} {r:Bool} {cs ds:List Value},t.deep≤n→ty T=some t→n≤d→eqD t x y=some r→Rep P t w M cs x→Rep P t w M ds y →
  (∀ w',(Op.equalIn (d+1) T (pack t cs) (pack t ds)).run P w'=.ok r w')
 | 0,t,_,_,_,_,_,_,_,_,_,h,_,_,_,_,_=>by
  exfalso
  have:∀ t:Ty,1≤t.deep:=by
   intro t
   induction t<;>simp only [Ty.deep]<;>omega
  have:=this t;omega
 | n+1,t,T,d,w,M,x,y,r,cs,ds,hdeep,hT,hd,he,hx,hy=>by
  intro w'
  have hF:=hty T t hT
  obtain ⟨i,dd,h1,h2,_,_,_,_,h3,h4,_⟩:=hF.info
  cases t with
  | i k =>
   obtain ⟨rfl,_⟩:=hx
   obtain ⟨rfl,_⟩:=hy
   cases he
   have hu:P.underlying T=some (.int k):=by
    cases dd<;>simp only [descIs,Bool.false_eq_true] at h3
    rw [h2,ikBeq_eq h3]
   exact run_equalIn_int w' d T k k _ _ hu
  | bo =>
   have hx:cs=_:=hx
   have hy:ds=_:=hy
   subst hx;subst hy
   cases he
   have hu:P.underlying T=some .bool:=by
    cases dd<;>simp only [descIs,Bool.false_eq_true] at h3
    exact h2
   exact run_equalIn_bool' w' d T _ _ hu
  | st sp =>
   obtain ⟨fs,rfl⟩:∃ fs,dd=.struct fs:=by cases dd<;>simp [descIs] at h3<;>exact ⟨_,rfl⟩
   simp only [descIs] at h3
   have hfo:P.fieldsOf T=fs:=by simp [Program.fieldsOf,h2]
   have hpk:∀ l:List Value,pack (.st sp) l=.agg l.toArray:=fun _=>rfl
   rw [hpk,hpk,run_equalIn_struct w' d T _ _ (by rw [hfo];exact h2) h4,hfo]
   simp only [Ty.deep] at hdeep
   have last:∀ (sp':Ty),comps sp'=[sp']→∀ (fs:List Field) (off:Nat) (x y:sp'.D) (r:Bool),sp'.deep≤n→fieldsAre ty fs (comps sp') off=true→eqD sp' x y=some r →
     off+sp'.n≤cs.length→off+sp'.n≤ds.length→Rep P sp' w M (Sx.sub cs off sp'.n) x→Rep P sp' w M (Sx.sub ds off sp'.n) y→∀ w',(Op.eqFields d cs.toArray ds.toArray fs).run P w'=.ok r w':=by
    intro sp' hsp fs off x y r hdp hfs he hc hd' hx hy w'
    rw [hsp] at hfs
    cases fs with
    | nil=>simp [fieldsAre] at hfs
    | cons f fs =>
     simp only [fieldsAre,Bool.and_eq_true,Bool.not_eq_true',bne_iff_ne,ne_eq] at hfs
     obtain ⟨g1,g2,g3,g4,g5⟩:=hfs
     have g1:=tyIs_eq g1
     have g2:=Nat.eq_of_beq_eq_true g2
     cases fs with
     | cons _ _=>simp [fieldsAre] at g5
     | nil =>
      have hFa:=hty f.type sp' g1
      have pa:=hFa.part (cs:=cs) (off:=off) (x:=x) hc hx w'
      have pb:=hFa.part (cs:=ds) (off:=off) (x:=y) hd' hy w'
      have hb1:∀ t:Ty,1≤t.deep:=by intro t;induction t<;>simp only [Ty.deep]<;>omega
      obtain ⟨d',rfl⟩:∃ d',d=d'+1:=⟨d - 1,by omega⟩
      have heq:=eq_rep hty n (t:=sp') (T:=f.type) (d:=d') hdp g1 (by omega) he hx hy w'
      simp only [Op.eqFields,g4,ne_eq,not_false_eq_true,if_true,Sem.run_bind,g2,pa,pb,Result.andThen_ok,heq]
      cases r<;>simp
   have key:∀ (sp':Ty) (fs:List Field) (off:Nat) (x y:sp'.D) (r:Bool),sp'.deep≤n→fieldsAre ty fs (comps sp') off=true→eqD sp' x y=some r →
     off+sp'.n≤cs.length→off+sp'.n≤ds.length→Rep P sp' w M (Sx.sub cs off sp'.n) x→Rep P sp' w M (Sx.sub ds off sp'.n) y→∀ w',(Op.eqFields d cs.toArray ds.toArray fs).run P w'=.ok r w':=by
    intro sp'
    induction sp' with
    | p a b _ ihb =>
     intro fs off x y r hdp hfs he hc hd' hx hy w'
     cases fs with
     | nil=>simp [comps,fieldsAre] at hfs
     | cons f fs =>
      simp only [comps,fieldsAre,Bool.and_eq_true,Bool.not_eq_true',bne_iff_ne,ne_eq] at hfs
      obtain ⟨g1,g2,g3,g4,g5⟩:=hfs
      have g1:=tyIs_eq g1
      have g2:=Nat.eq_of_beq_eq_true g2
      simp only [eqD] at he
      split at he
      ·rename_i p q hp hq
       cases he
       obtain ⟨c1,c2,e1,hx1,hx2⟩:=hx
       obtain ⟨d1,d2,e2,hy1,hy2⟩:=hy
       simp only [Ty.n] at hc hd' e1 e2
       have la:=hx1.length;have lb:=hx2.length;have la':=hy1.length;have lb':=hy2.length
       have s1:Sx.sub cs off a.n=c1:=by
        have:=sub_sub (cs:=cs) (off:=off) (n:=a.n+b.n) (o:=0) (m:=a.n) (by omega)
        rw [e1,←la,sub_left] at this;rw [←la];simpa using this.symm
       have s2:Sx.sub cs (off+a.n) b.n=c2:=by
        have:=sub_sub (cs:=cs) (off:=off) (n:=a.n+b.n) (o:=a.n) (m:=b.n) (by omega)
        rw [e1] at this;rw [←this,←la,←lb,sub_right]
       have s3:Sx.sub ds off a.n=d1:=by
        have:=sub_sub (cs:=ds) (off:=off) (n:=a.n+b.n) (o:=0) (m:=a.n) (by omega)
        rw [e2,←la',sub_left] at this;rw [←la'];simpa using this.symm
       have s4:Sx.sub ds (off+a.n) b.n=d2:=by
        have:=sub_sub (cs:=ds) (off:=off) (n:=a.n+b.n) (o:=a.n) (m:=b.n) (by omega)
        rw [e2] at this;rw [←this,←la',←lb',sub_right]
       simp only [Ty.deep] at hdp
       have hFa:=hty f.type a g1
       have pa:=hFa.part (cs:=cs) (off:=off) (x:=x.1) (by omega) (by rw [s1];exact hx1) w'
       have pb:=hFa.part (cs:=ds) (off:=off) (x:=y.1) (by omega) (by rw [s3];exact hy1) w'
       have hb1:∀ t:Ty,1≤t.deep:=by intro t;induction t<;>simp only [Ty.deep]<;>omega
       obtain ⟨d',rfl⟩:∃ d',d=d'+1:=⟨d - 1,by omega⟩
       have heq:=eq_rep hty n (t:=a) (T:=f.type) (d:=d') (by have:=hb1 b;omega) g1 (by omega) hp (cs:=Sx.sub cs off a.n) (ds:=Sx.sub ds off a.n) (by rw [s1];exact hx1) (by rw [s3];exact hy1) w'
       have ihb':=ihb fs (off+a.n) x.2 y.2 q (by have:=hb1 a;omega) g5 hq (by omega) (by omega) (by rw [s2];exact hx2) (by rw [s4];exact hy2) w'
       simp only [Op.eqFields,g4,ne_eq,not_false_eq_true,if_true,Sem.run_bind,g2,pa,pb,Result.andThen_ok,heq]
       cases p with
       | true=>simpa using ihb'
       | false=>simp
      ·cases he
    | u =>
     intro fs off x y r _ hfs he _ _ _ _ w'
     cases fs with
     | nil=>cases he;rfl
     | cons f fs=>simp [comps,fieldsAre] at hfs
    | i k=>exact last (.i k) rfl
    | bo=>exact last .bo rfl
    | st b _=>exact last (.st b) rfl
    | sl b _=>exact last (.sl b) rfl
    | arr m b _=>exact last (.arr m b) rfl
    | ref b _=>exact last (.ref b) rfl
    | rn b _=>exact last (.rn b) rfl
    | sz b _=>exact last (.sz b) rfl
    | mp b c _ _=>exact last (.mp b c) rfl
    | f1 b c _ _=>exact last (.f1 b c) rfl
    | f2 b c e _ _ _=>exact last (.f2 b c e) rfl
    | f3 b c d e _ _ _ _=>exact last (.f3 b c d e) rfl
    | sq m b _=>exact last (.sq m b) rfl
    | im nm b c e _ _ _=>exact last (.im nm b c e) rfl
   exact key sp fs.toList 0 x y r (by omega) h3 he (by have:=hx.length;simp only [Ty.n] at this;omega) (by have:=hy.length;simp only [Ty.n] at this;omega)
    (by have:=hx.length;simp only [Ty.n] at this;rw [←this,sub_all];exact hx) (by have:=hy.length;simp only [Ty.n] at this;rw [←this,sub_all];exact hy) w'
  | u=>cases dd<;>simp [descIs] at h3
  | p a b=>cases dd<;>simp [descIs] at h3
  | sl a=>cases he
  | arr m a=>cases he
  | ref a=>cases he
  | rn a=>cases he
  | sz a=>cases he
  | mp a b=>cases he
  | f1 a b=>cases he
  | f2 a b c=>cases he
  | f3 a b c d=>cases he
  | sq m a=>cases he
  | im nm a b c=>cases he
end
end Go.Sx
/-
 The symbolic layer,eleventh part: numbers,addresses and reads,as 'eff0' gives them.
-/
namespace Go.Sx
theorem spine_facts {ty:Nat→Option Ty}:∀ {sp:Ty} {k:Nat} {q:List Stp} {fs:List Field} {off:Nat},spinePath sp k=some q→fieldsAre ty fs (comps sp) off=true →
  ∃ f o tf,fs[k]?=some f∧offP sp q=some (o,tf)∧f.offset=off+o∧ty f.type=some tf∧tf.n≠0∧inP sp q:=by
 intro sp
 have last:∀ t:Ty,comps t=[t]→(∀ k,spinePath t k=match k with | 0=>some [] | _=>none)→∀ {k:Nat} {q:List Stp} {fs:List Field} {off:Nat},spinePath t k=some q→fieldsAre ty fs (comps t) off=true →
   ∃ f o tf,fs[k]?=some f∧offP t q=some (o,tf)∧f.offset=off+o∧ty f.type=some tf∧tf.n≠0∧inP t q:=by
  intro t hc hsp k q fs off hq hf
  rw [hsp] at hq
  cases k with
  | succ k=>cases hq
  | zero =>
   cases hq
   rw [hc] at hf
   cases fs with
   | nil=>cases hf
   | cons f fs =>
    simp only [fieldsAre,Bool.and_eq_true,Bool.not_eq_true'] at hf
    obtain ⟨g1,g2,g3,_⟩:=hf
    have e:offP t []=some (0,t):=by cases t<;>rfl
    refine ⟨f,0,t,rfl,e,Nat.eq_of_beq_eq_true g2,tyIs_eq g1,(fun h0=>by rw [h0] at g3;cases g3),by cases t<;>trivial⟩
 induction sp with
 | p a b _ ihb =>
  intro k q fs off hq hf
  cases fs with
  | nil=>cases hf
  | cons f fs =>
   simp only [comps,fieldsAre,Bool.and_eq_true,Bool.not_eq_true'] at hf
   obtain ⟨g1,g2,g3,_,g5⟩:=hf
   cases k with
   | zero =>
    cases hq
    have e:offP a []=some (0,a):=by cases a<;>rfl
    refine ⟨f,0,a,rfl,e,Nat.eq_of_beq_eq_true g2,tyIs_eq g1,(fun h0=>by rw [h0] at g3;cases g3),?_⟩
    show inP a []
    cases a<;>trivial
   | succ k =>
    simp only [spinePath,Option.map_eq_some_iff] at hq
    obtain ⟨q',hq',rfl⟩:=hq
    obtain ⟨f',o,tf,h1,h2,h3,h4,h5,h6⟩:=ihb hq' g5
    exact ⟨f',a.n+o,tf,by simpa using h1,by simp [offP,h2],by omega,h4,h5,h6⟩
 | u =>
  intro k q fs off hq _
  cases k<;>cases hq
 | i k=>exact last (.i k) rfl (fun k=>by cases k<;>rfl)
 | bo=>exact last .bo rfl (fun k=>by cases k<;>rfl)
 | st b _=>exact last (.st b) rfl (fun k=>by cases k<;>rfl)
 | sl b _=>exact last (.sl b) rfl (fun k=>by cases k<;>rfl)
 | arr m b _=>exact last (.arr m b) rfl (fun k=>by cases k<;>rfl)
 | ref b _=>exact last (.ref b) rfl (fun k=>by cases k<;>rfl)
 | rn b _=>exact last (.rn b) rfl (fun k=>by cases k<;>rfl)
 | sz b _=>exact last (.sz b) rfl (fun k=>by cases k<;>rfl)
 | mp b c _ _=>exact last (.mp b c) rfl (fun k=>by cases k<;>rfl)
 | f1 b c _ _=>exact last (.f1 b c) rfl (fun k=>by cases k<;>rfl)
 | f2 b c e _ _ _=>exact last (.f2 b c e) rfl (fun k=>by cases k<;>rfl)
 | f3 b c d e _ _ _ _=>exact last (.f3 b c d e) rfl (fun k=>by cases k<;>rfl)
 | sq m b _=>exact last (.sq m b) rfl (fun k=>by cases k<;>rfl)
 | im nm b c e _ _ _=>exact last (.im nm b c e) rfl (fun k=>by cases k<;>rfl)
theorem field_facts {P:Program} {ty:Nat→Option Ty} {el:Nat→Nat} {T k:Nat} {t:Ty} {q:List Stp} (h:TyF P ty el T t) (hq:fieldPath t k=some q) :
  ∃ (fs:Array Field) (f:Field) (tf:Ty),P.underlying T=some (.struct fs)∧fs[k]?=some f∧offP t q=some (f.offset,tf)∧ty f.type=some tf∧tf.n≠0∧inP t q:=by
 cases t<;>simp only [fieldPath,reduceCtorEq] at hq
 rename_i sp
 simp only [Option.map_eq_some_iff] at hq
 obtain ⟨q',hq',rfl⟩:=hq
 obtain ⟨i,d,_,h2,_,_,_,_,h3,_⟩:=h.info
 obtain ⟨fs,rfl⟩:∃ fs,d=.struct fs:=by cases d<;>simp [descIs] at h3<;>exact ⟨_,rfl⟩
 obtain ⟨f,o,tf,a1,a2,a3,a4,a5,a6⟩:=spine_facts hq' h3
 refine ⟨fs,f,tf,h2,by simpa using a1,?_,a4,a5,a6⟩
 show offP sp q'=_
 rw [a2,a3];simp
section
variable {K:Ctx} {s:ASt} {a:Act} {w:World} {β:Nat→Loc} {cx:Cx} {g:List (Nat × Bool)} {o:Oper} {e:Eff} {d:Nat}
theorem did_binOp (hcx:CxOk K.P cx) (h:RelB K s a w β) (hg:Hold a g) {op:BinOp} {T U:TypeId} {x y:Operand} (hop:o.op=.binOp op T x y U) (hd:o.dst=some d) (he:eff0 cx s g o=some e) (hob:∀ r,e.obl=some r→r):Did K s a w o e:=by
 have hx:=ev_rep (cx:=cx) h hg T x
 have hy:=ev_rep (cx:=cx) h hg T y
 simp only [eff0,hop,hd] at he
 split at he
 ·rename_i k p k' q h1 h2
  rw [h1] at hx;rw [h2] at hy
  obtain ⟨ex,ex1,ex2⟩:=int_val hx
  obtain ⟨ey,ey1,ey2⟩:=int_val hy
  split at he
  ·split at he
   ·exact did_bits h hop ex ey ⟨ey1,ey2⟩ ⟨ex1,ex2⟩ (.inl (.inl rfl)) he hob
   ·exact did_bitsU h hop ex ey ⟨ex1,ex2⟩ ⟨ey1,ey2⟩ (.inl rfl) he hob
   ·cases he
  ·split at he
   ·exact did_bits h hop ex ey ⟨ey1,ey2⟩ ⟨ex1,ex2⟩ (.inl (.inr rfl)) he hob
   ·exact did_shrU h hop ex ey ⟨ex1,ex2⟩ he hob
   ·exact did_shrU64 h hop ex ey ⟨ex1,ex2⟩ he hob
   ·exact did_shrU8 h hop ex ey ⟨ex1,ex2⟩ he hob
   ·exact did_shrU16 h hop ex ey ⟨ex1,ex2⟩ he hob
   ·cases he
  ·split at he
   ·exact did_bits h hop ex ey ⟨ey1,ey2⟩ ⟨ex1,ex2⟩ (.inr rfl) he hob
   ·exact did_andU64 h hop ex ey ⟨ex1,ex2⟩ ⟨ey1,ey2⟩ he hob
   ·exact did_andU8 h hop ex ey ⟨ex1,ex2⟩ ⟨ey1,ey2⟩ he hob
   ·exact did_bitsU h hop ex ey ⟨ex1,ex2⟩ ⟨ey1,ey2⟩ (.inr rfl) he hob
   ·cases he
  ·split at he
   ·exact did_bits h hop ex ey ⟨ey1,ey2⟩ ⟨ex1,ex2⟩ (.inr rfl) he hob
   ·exact did_bitsU h hop ex ey ⟨ex1,ex2⟩ ⟨ey1,ey2⟩ (.inr rfl) he hob
   ·cases he
  ·split at he
   ·exact did_bits h hop ex ey ⟨ey1,ey2⟩ ⟨ex1,ex2⟩ (.inr rfl) he hob
   ·exact did_bitsU h hop ex ey ⟨ex1,ex2⟩ ⟨ey1,ey2⟩ (.inr rfl) he hob
   ·cases he
  ·split at he
   ·exact did_bits h hop ex ey ⟨ey1,ey2⟩ ⟨ex1,ex2⟩ (.inr rfl) he hob
   ·exact did_bitsU h hop ex ey ⟨ex1,ex2⟩ ⟨ey1,ey2⟩ (.inr rfl) he hob
   ·cases he
  ·obtain ⟨hk,he⟩:=cond_none he
   have hk:=ikBeq_eq hk
   subst hk
   exact did_arithW h hop ex ey ⟨ey1,ey2⟩ ⟨ex1,ex2⟩ he hob
 ·rename_i t p t' q hno h1 h2
  rw [h1] at hx;rw [h2] at hy
  split at he
  ·rename_i t₀ q' hT hq
   obtain ⟨hc,he⟩:=cond_none he
   simp only [Bool.and_eq_true] at hc
   have ht:=Ty.beq_eq hc.1
   subst ht
   obtain ⟨cs,hcs,evx⟩:VRep K.P t₀ w _ (a.eval x) p:=hx
   obtain ⟨ds,hds,evy⟩:VRep K.P t₀ w _ (a.eval y) q':=castD_vrep hq hy
   have hF:=hcx.ty T t₀ hT
   obtain ⟨ii,dd,_,hu,_,_,_,_,h3,_,hgt⟩:=hF.info
   have hgt:=hgt (Nat.le_of_ble_eq_true hc.2)
   have run:∀ r,eqD t₀ p q'=some r→(Op.equal T (pack t₀ cs) (pack t₀ ds)).run K.P w=.ok r w:=fun r hr =>
    eq_rep hcx.ty 9999 (d:=9999) (Nat.le_of_ble_eq_true hc.2) hT (Nat.le_refl _) hr hcs hds w
   have hsh:(∃ b c,pack t₀ cs=.bool b∧pack t₀ ds=.bool c)∨(∃ l m,pack t₀ cs=.agg l∧pack t₀ ds=.agg m)∨(∃ k b c,pack t₀ cs=.int k b∧pack t₀ ds=.int k c∧eqD t₀ p q'=some (b==c))∨eqD t₀ p q'=none:=by
    cases t₀ with
    | i k=>exact .inr (.inr (.inl ⟨k,p,q',by rw [hcs.1];rfl,by rw [hds.1];rfl,rfl⟩))
    | bo=>exact .inl ⟨p,q',by rw [show cs=_ from hcs];rfl,by rw [show ds=_ from hds];rfl⟩
    | u=>exact .inr (.inl ⟨_,_,rfl,rfl⟩)
    | p a b=>exact .inr (.inl ⟨_,_,rfl,rfl⟩)
    | st a=>exact .inr (.inl ⟨_,_,rfl,rfl⟩)
    | sl a=>exact .inr (.inr (.inr rfl))
    | arr n a=>exact .inr (.inr (.inr rfl))
    | ref a=>exact .inr (.inr (.inr rfl))
    | rn a=>exact .inr (.inr (.inr rfl))
    | sz a=>exact .inr (.inr (.inr rfl))
    | mp a b=>exact .inr (.inr (.inr rfl))
    | f1 a b=>exact .inr (.inr (.inr rfl))
    | f2 a b c=>exact .inr (.inr (.inr rfl))
    | f3 a b c d=>exact .inr (.inr (.inr rfl))
    | sq n a=>exact .inr (.inr (.inr rfl))
    | im nm a b c=>exact .inr (.inr (.inr rfl))
   cases op<;>cases hr:eqD t₀ p q'<;>simp only [hr,reduceCtorEq] at he
   ·rename_i r
    have he:=ok_some he;subst he
    have hrun:=run r hr
    refine did_pure (v:=.bool r) h rfl ?_ mk_bool
    rcases hsh with ⟨b,c,e1,e2⟩ | ⟨l,m,e1,e2⟩ | ⟨k,b,c,e1,e2,e3⟩ | hn
    ·rw [e1] at evx;rw [e2] at evy;rw [e1,e2] at hrun
     simp [execOp,hop,evx,evy,eqGuard,binOp,hrun]
    ·rw [e1] at evx;rw [e2] at evy;rw [e1,e2] at hrun
     simp [execOp,hop,evx,evy,eqGuard,binOp,hrun,hgt]
    ·rw [e1] at evx;rw [e2] at evy;rw [e3] at hr;cases hr
     simp [execOp,hop,evx,evy,eqGuard,binOp,Op.intCmp]
    ·rw [hn] at hr;cases hr
   ·rename_i r
    have he:=ok_some he;subst he
    have hrun:=run r hr
    refine did_pure (v:=.bool (!r)) h rfl ?_ mk_bool
    rcases hsh with ⟨b,c,e1,e2⟩ | ⟨l,m,e1,e2⟩ | ⟨k,b,c,e1,e2,e3⟩ | hn
    ·rw [e1] at evx;rw [e2] at evy;rw [e1,e2] at hrun
     simp [execOp,hop,evx,evy,eqGuard,binOp,hrun]
    ·rw [e1] at evx;rw [e2] at evy;rw [e1,e2] at hrun
     simp [execOp,hop,evx,evy,eqGuard,binOp,hrun,hgt]
    ·rw [e1] at evx;rw [e2] at evy;rw [e3] at hr;cases hr
     simp [execOp,hop,evx,evy,eqGuard,binOp,Op.intCmp,bne]
    ·rw [hn] at hr;cases hr
  ·cases he
 ·cases he
theorem did_unOp (h:RelB K s a w β) (hg:Hold a g) {op:UnOp} {T:TypeId} {x:Operand} (hop:o.op=.unOp op T x) (hd:o.dst=some d) (he:eff0 cx s g o=some e) (hob:∀ r,e.obl=some r→r):Did K s a w o e:=by
 have hx:=ev_rep (cx:=cx) h hg 0 x
 simp only [eff0,hop,hd] at he
 split at he
 ·rename_i p h1
  rw [h1] at hx
  have ex:=bool_val hx
  have he:=ok_some he;subst he
  refine did_pure (v:=.bool (!p)) h rfl ?_ mk_bool
  simp [execOp,hop,ex,Op.unary]
 ·rename_i p h1
  rw [h1] at hx
  obtain ⟨ex,_,_⟩:=int_val hx
  have he:=okO_some he;subst he
  have hin:=hob _ rfl
  refine did_pure (v:=.int .i64 (-p)) h rfl ?_ (mk_int (by rw [min64];exact hin.1) (by rw [max64];exact hin.2))
  have hw:IntKind.i64.wrap (-p)=-p:=wrap_in hin
  simp [execOp,hop,ex,Op.unary,Op.intArith,hw]
 ·cases he
theorem wrap_same {k:IntKind} {n:Int} (h1:k.min≤n) (h2:n≤k.max):k.wrap n=n:=by
 cases k<;>simp only [IntKind.wrap,IntKind.min,IntKind.max,IntKind.signed,IntKind.bits] at*<;> simp at*<;> (try split)<;>omega
theorem did_convert (hcx:CxOk K.P cx) (h:RelB K s a w β) (hg:Hold a g) {S T:TypeId} {x:Operand} (hop:o.op=.convert S T x) (hd:o.dst=some d) (he:eff0 cx s g o=some e):Did K s a w o e:=by
 have hx:=ev_rep (cx:=cx) h hg S x
 simp only [eff0,hop,hd] at he
 split at he
 ·rename_i k p tS k' h1 h2 h3
  rw [h1] at hx
  obtain ⟨ex,e1,e2⟩:=int_val hx
  obtain ⟨iS,dS,_,uS,_⟩:=(hcx.ty S _ h2).info
  obtain ⟨iT,dT,_,uT,_,_,_,_,hdT,_⟩:=(hcx.ty T _ h3).info
  have hdT':dT=.int k':=by cases dT<;>simp [descIs] at hdT;rw [ikBeq_eq hdT]
  subst hdT'
  have hrun:(execOp a.eval o).run K.P w=.ok (.value (.int k' (k'.wrap p))) w:=by
   simp [execOp,hop,ex,convert,run_underlying uS,run_underlying uT,Conv.intToInt]
  have fin:∀ n:Int,n=k'.wrap p→e=⟨none,.s (.d (.i k') n),[],[]⟩→Did K s a w o e:=by
   rintro n rfl rfl
   exact did_pure h rfl hrun (mk_int (wrap_range _ _).1 (wrap_range _ _).2)
  split at he
  ·exact fin _ (wrap_same e1 e2).symm (ok_some he)
  ·refine fin _ (wrap_same ?_ ?_).symm (ok_some he)
   ·exact Int.le_trans (by decide) e1
   ·exact Int.le_trans e2 (by decide)
  ·refine fin _ (wrap_same ?_ ?_).symm (ok_some he)
   ·exact Int.le_trans (by decide) e1
   ·exact Int.le_trans e2 (by decide)
  ·exact fin _ rfl (ok_some he)
 ·cases he
end
end Go.Sx
/-
 The symbolic layer,twelfth part: addresses and reads.
-/
namespace Go.Sx
theorem cond_some {c:Bool} {x e:Eff} (h:cond c (some x) none=some e):c=true∧e=x:=by cases c<;>simp_all
theorem nlt0 {α:Type} {n:Int} {l:List α} (h0:0≤n) (h1:n<(l.length:Int)) (h:l=[]):False:=by subst h;simp at h1;omega
theorem nlt {n:Int} {k:Nat} (h0:0≤n) (h1:n<(k:Int)):n.toNat<k:=by omega
theorem obOff_append {ob:Ob} {p q:List Stp} {o₁ o₂:Nat} {t t':Ty} (h:obOff ob p=some (o₁,t)) (hq:offP t q=some (o₂,t')) (hi:inOb ob p) (hj:inP t q) :
  obPos ob p=some o₁∧obPos ob (p++q)=some (o₁+o₂)∧inOb ob (p++q):=by
 cases ob with
 | bx f t₀ x =>
  have h:offP t₀ p=some (o₁,t):=h
  refine ⟨by simp [obPos,h],?_,inP_append h hi hj⟩
  simp [obPos,offP_append h,hq]
 | row f e t₀ l =>
  cases p with
  | nil=>cases h
  | cons s p =>
   cases s with
   | x i =>
    simp only [obOff,Option.map_eq_some_iff] at h
    obtain ⟨⟨o₀,t₁⟩,h,e⟩:=h
    cases e
    refine ⟨by simp [obPos,h],?_,hi.1,inP_append h hi.2 hj⟩
    simp [obPos,offP_append h,hq,Nat.add_assoc]
   | l=>cases h
   | r=>cases h
   | o=>cases h
 | bv v=>cases h
 | mm _ _ _=>cases h
 | me _ _ _ _=>cases h
 | rq _ _ _ _=>cases h
 | rr _ _ _ _ _ _=>cases h
 | gh _ _=>cases h
 | it _ _ _ _=>cases h
 | bp t₀ x _ =>
  have h:offP t₀ p=some (o₁,t):=h
  refine ⟨by simp [obPos,h],?_,inP_append h hi hj⟩
  simp [obPos,offP_append h,hq]
theorem Cells.sub {w:World} {b off o n:Nat} {vs:List Value} (h:Cells w b off vs) (hle:o+n≤vs.length):Cells w b (off+o) (Sx.sub vs o n):=by
 obtain ⟨c,e,z,h1,h2⟩:=h
 refine ⟨c,e,z,h1,fun j v hj=>?_⟩
 have hjn:j<n:=by
  have:=(List.getElem?_eq_some_iff.1 hj).1
  rw [sub_length hle] at this;exact this
 rw [sub_getElem? hjn] at hj
 rw [Nat.add_assoc]
 exact h2 _ _ hj
section
variable {K:Ctx} {s:ASt} {a:Act} {w:World} {β:Nat→Loc} {cx:Cx} {g:List (Nat × Bool)} {o:Oper} {e:Eff} {d:Nat}
theorem ref_val {P:Program} {t:Ty} {w:World} {M:Nat→Prop} {u:Value} {x:t.D} (h:VRep P (.ref t) w M u x):∃ b off vs,u=.pointer (some ⟨b,off,none⟩)∧St w M b∧Rep P t w M vs x∧Cells w b off vs:=by
 obtain ⟨cs,⟨b,off,vs,rfl,h1,h2,h3⟩,rfl⟩:=h
 exact ⟨b,off,vs,rfl,h1,h2,h3⟩
theorem ref_mk {P:Program} {t:Ty} {w:World} {M:Nat→Prop} {b off:Nat} {vs:List Value} {x:t.D} (h1:St w M b) (h2:Rep P t w M vs x) (h3:Cells w b off vs):VRep P (.ref t) w M (.pointer (some ⟨b,off,none⟩)) x :=
 ⟨_,⟨b,off,vs,rfl,h1,h2,h3⟩,rfl⟩
theorem run_fieldAt {P:Program} {T k:Nat} {fs:Array Field} {f:Field} {b off:Nat} {n:Nat} (hu:P.underlying T=some (.struct fs)) (hf:fs[k]?=some f) (hs:∀ w,(sizeOf f.type).run P w=.ok n w) (hn:n≠0) (w:World) :
  (Instr.fieldAt T (.pointer (some ⟨b,off,none⟩)) k).run P w=.ok (.pointer (some ⟨b,off+f.offset,none⟩)) w:=by
 simp [Instr.fieldAt,run_underlying hu,hf,Instr.sureAddr,fieldPlace,hs,hn,Addr.add_lit]
theorem did_fieldAddr (hcx:CxOk K.P cx) (h:RelB K s a w β) (hg:Hold a g) {T:TypeId} {x:Operand} {k:Nat} (hop:o.op=.fieldAddr T x k) (hd:o.dst=some d) (he:eff0 cx s g o=some e):Did K s a w o e:=by
 have hx:=ev_rep (cx:=cx) h hg 0 x
 simp only [eff0,hop,hd] at he
 unfold addrField at he
 split at he
 ·rename_i t₀ hT
  split at he
  ·rename_i q hq
   obtain ⟨fs,f,tf,hu,hf,ho,hft,hn,hip⟩:=field_facts (hcx.ty T t₀ hT) hq
   have hsz:=(hcx.ty _ _ hft).size
   split at he
   ·rename_i t y h1
    rw [h1] at hx
    obtain ⟨b,off,vs,ex,hst,hr,hc⟩:=ref_val hx
    split at he
    ·rename_i y' hy
     split at he
     ·rename_i v hv
      have he:=ok_some he;subst he
      obtain ⟨off',ho',hle,hr'⟩:=getP_rep (castD_rep hy hr) hv hip
      rw [ho] at ho'
      simp only [Option.some.injEq,Prod.mk.injEq] at ho'
      obtain ⟨e1,rfl⟩:=ho'
      subst e1
      refine did_pure (v:=.pointer (some ⟨b,off+f.offset,none⟩)) h rfl ?_ (ref_mk hst hr' (hc.sub hle))
      simp [execOp,hop,ex,run_fieldAt hu hf hsz hn]
     ·cases he
    ·cases he
   ·rename_i ob p h1
    rw [h1] at hx
    simp only [AVRep,SVRep] at hx
    split at he
    ·rename_i obj hobj
     rw [hobj] at hx
     obtain ⟨hin,b,off,hb,hp,ex⟩:=hx
     split at he
     ·rename_i o₁ t hot
      obtain ⟨hc,he'⟩:=cond_some he
      subst he'
      have ht:=Ty.beq_eq hc
      subst ht
      obtain ⟨a1,a2,a3⟩:=obOff_append hot ho hin hip
      rw [hp] at a1
      have a1:=Option.some.inj a1
      subst a1
      refine did_pure (v:=.pointer (some ⟨b,off+f.offset,none⟩)) h rfl ?_ ?_
      ·simp [execOp,hop,ex,run_fieldAt hu hf hsz hn]
      ·simp only [AVRep,SVRep,hobj]
       exact ⟨a3,b,_,hb,a2,rfl⟩
     ·cases he
    ·cases he
   ·cases he
  ·cases he
 ·cases he
theorem did_field (hcx:CxOk K.P cx) (h:RelB K s a w β) (hg:Hold a g) {T:TypeId} {x:Operand} {k:Nat} (hop:o.op=.field T x k) (hd:o.dst=some d) (he:eff0 cx s g o=some e):Did K s a w o e:=by
 have hx:=ev_rep (cx:=cx) h hg 0 x
 simp only [eff0,hop,hd] at he
 split at he
 ·rename_i t y t' h1 hT
  rw [h1] at hx
  split at he
  ·rename_i y' q hy hq
   obtain ⟨fs,f,tf,hu,hf,ho,hft,hn,hip⟩:=field_facts (hcx.ty T t' hT) hq
   obtain ⟨cs,hcs,ex⟩:VRep K.P t' w _ (a.eval x) y':=castD_vrep hy hx
   simp only [Option.bind_eq_some_iff] at he
   obtain ⟨v,hv,he⟩:=he
   have he:=ok_some he;subst he
   obtain ⟨off',ho',hle,hr'⟩:=getP_rep hcs hv hip
   rw [ho] at ho'
   simp only [Option.some.injEq,Prod.mk.injEq] at ho'
   obtain ⟨e1,rfl⟩:=ho'
   subst e1
   have hp:=(hcx.ty _ _ hft).part hle hr' w
   have hag:t'.agg=true:=by cases t'<;>simp [fieldPath] at hq<;>rfl
   have ex':a.eval x=.agg cs.toArray:=by rw [ex];simp [pack,hag]
   refine did_pure (v:=pack v.t (sub cs f.offset v.t.n)) h rfl ?_ ⟨_,hr',rfl⟩
   simp [execOp,hop,ex',Instr.field,run_underlying hu,hf,asAgg,hp]
  ·cases he
 ·cases he
theorem arr_facts {P:Program} {ty:Nat→Option Ty} {el:Nat→Nat} {T n:Nat} {t:Ty} (h:TyF P ty el T (.arr n t)):∃ E,P.underlying T=some (.array n E)∧ty E=some t∧t.n≠0:=by
 obtain ⟨i,dd,_,hu,_,_,_,_,h3,_⟩:=h.info
 obtain ⟨m,E,rfl⟩:∃ m E,dd=.array m E:=by cases dd<;>simp [descIs] at h3<;>exact ⟨_,_,rfl⟩
 simp only [descIs,Bool.and_eq_true,Bool.not_eq_true'] at h3
 obtain ⟨h1,h2,h3⟩:=h3
 have:=Nat.eq_of_beq_eq_true h1
 subst this
 exact ⟨E,hu,tyIs_eq h2,fun h0=>by rw [h0] at h3;cases h3⟩
theorem sl_facts {P:Program} {ty:Nat→Option Ty} {el:Nat→Nat} {T:Nat} {t:Ty} (h:TyF P ty el T (.sl t)):P.underlying T=some (.slice (el T))∧ty (el T)=some t∧t.n≠0:=by
 obtain ⟨i,dd,_,hu,_,_,_,_,h3,_⟩:=h.info
 obtain ⟨E,rfl⟩:∃ E,dd=.slice E:=by cases dd<;>simp [descIs] at h3<;>exact ⟨_,rfl⟩
 simp only [descIs,Bool.and_eq_true,Bool.not_eq_true'] at h3
 obtain ⟨h1,h2,h3⟩:=h3
 have:=Nat.eq_of_beq_eq_true h2
 subst this
 exact ⟨hu,tyIs_eq h1,fun h0=>by rw [h0] at h3;cases h3⟩
theorem sl_val {P:Program} {t:Ty} {w:World} {M:Nat→Prop} {u:Value} {x:List t.D} (h:VRep P (.sl t) w M u x):∃ a cap,u=.slice a x.length cap∧x.length≤min cap 140737488355328 ∧
  (x=[]∨∃ b off vss,a=some ⟨b,off,none⟩∧St w M b∧All2 (Rep P t w M) vss x∧Cells w b off vss.flatten):=by
 obtain ⟨cs,⟨a,cap,rfl,h1,h2⟩,rfl⟩:=h
 exact ⟨a,cap,rfl,h1,h2⟩
theorem did_indexAddr (hcx:CxOk K.P cx) (h:RelB K s a w β) (hg:Hold a g) {T:TypeId} {x i:Operand} (hop:o.op=.indexAddr T x i) (hd:o.dst=some d) (he:eff0 cx s g o=some e) (hob:∀ r,e.obl=some r→r):Did K s a w o e:=by
 have hx:=ev_rep (cx:=cx) h hg T x
 have hi:=ev_rep (cx:=cx) h hg 0 i
 simp only [eff0,hop,hd] at he
 split at he
 ·rename_i n hn
  rw [hn] at hi
  obtain ⟨ei,_,_⟩:=int_val hi
  unfold addrIndex at he
  split at he
  ·rename_i t hT
   obtain ⟨hu,hE,_⟩:=sl_facts (hcx.ty T _ hT)
   have hsz:=(hcx.ty _ _ hE).size
   split at he
   ·rename_i ob h1
    rw [h1] at hx
    simp only [AVRep,SVRep] at hx
    split at he
    ·rename_i f e₁ t₁ l hobj
     rw [hobj] at hx
     obtain ⟨hc,he'⟩:=cond_some he
     subst he'
     have:=Ty.beq_eq hc
     subst this
     obtain ⟨hi0,hi1⟩:=hob _ rfl
     have hi1:n<(l.length:Int):=hi1
     obtain ⟨_,ex⟩:=hx
     obtain ⟨_,hblk,vss,hvs,hown⟩:=h.ob _ _ hobj
     rcases hown.2 with ⟨e1,e2⟩ | ⟨gg,cap,cur,e1,_⟩
     ·exact (nlt0 hi0 hi1 (List.eq_nil_of_length_eq_zero e2)).elim
     rw [e1] at ex hblk
     refine did_pure (v:=.pointer (some ⟨gg,n.toNat*t₁.n,none⟩)) h rfl ?_ ?_
     ·simp [execOp,hop,ex,ei,Instr.indexAt,asIntOf,run_underlying hu,hi0,hi1,hsz,Addr.add_lit]
     ·simp only [AVRep,SVRep,hobj]
      exact ⟨⟨nlt hi0 hi1,by cases t₁<;>trivial⟩,gg,_,hblk,by simp [obPos,show offP t₁ []=some (0,t₁) from by cases t₁<;>rfl],rfl⟩
    ·rename_i f e₁ t₁ l hobj
     rw [hobj] at hx
     obtain ⟨hc,he'⟩:=cond_some he
     subst he'
     have:=Ty.beq_eq hc
     subst this
     obtain ⟨hi0,hi1⟩:=hob _ rfl
     have hi1:n<(l.length:Int):=hi1
     obtain ⟨_,ex⟩:=hx
     obtain ⟨_,hblk,k,vss,hvs,hown⟩:=h.ob _ _ hobj
     rcases hown.2 with ⟨e1,e2⟩ | ⟨gg,cap,cur,e1,_⟩
     ·exact (nlt0 hi0 hi1 (List.eq_nil_of_length_eq_zero e2)).elim
     rw [e1] at ex
     refine did_pure (v:=.pointer (some ⟨gg,k*t₁.n+n.toNat*t₁.n,none⟩)) h rfl ?_ ?_
     ·simp [execOp,hop,ex,ei,Instr.indexAt,asIntOf,run_underlying hu,hi0,hi1,hsz,Addr.add_lit]
     ·simp only [AVRep,hobj]
      exact ⟨rfl,gg,_,_,cap,e1,nlt hi0 hi1,rfl⟩
    ·rename_i f g₁ e₁ e₂ t₁ l hobj
     rw [hobj] at hx
     obtain ⟨hc,he'⟩:=cond_some he
     subst he'
     have:=Ty.beq_eq hc
     subst this
     obtain ⟨hi0,hi1⟩:=hob _ rfl
     have hi1:n<(l.length:Int):=hi1
     obtain ⟨_,ex⟩:=hx
     obtain ⟨_,hblk,hown,_⟩:=h.ob _ _ hobj
     rcases hown.2 with ⟨e1,e2⟩ | ⟨gg,cap,cur,e1,_⟩
     ·exact (nlt0 hi0 hi1 (List.eq_nil_of_length_eq_zero e2)).elim
     rw [e1] at ex hblk
     refine did_pure (v:=.pointer (some ⟨gg,n.toNat,none⟩)) h rfl ?_ ?_
     ·have hsz:∀ w,(sizeOf (cx.el T)).run K.P w=.ok 1 w:=hsz
      simp [execOp,hop,ex,ei,Instr.indexAt,asIntOf,run_underlying hu,hi0,hi1,hsz,Addr.add_lit]
     ·simp only [AVRep,SVRep,hobj]
      exact ⟨nlt hi0 hi1,gg,_,hblk,rfl,rfl⟩
    ·cases he
   ·rename_i ob g₁ k h1
    rw [h1] at hx
    split at he
    ·rename_i f g₂ e₁ e₂ t₁ l hobj
     simp only [AVRep,hobj] at hx
     obtain ⟨hc,he'⟩:=cond_some he
     subst he'
     rw [Bool.and_eq_true] at hc
     have:=Ty.beq_eq hc.1
     subst this
     have:=Nat.eq_of_beq_eq_true hc.2
     subst this
     obtain ⟨hi0,hi1⟩:=hob _ rfl
     obtain ⟨g₃,h3,_,hx⟩:=hx
     have h3:some g₂=some g₃:=h3
     cases h3
     have hx:=hx rfl
     obtain ⟨_,_,_,_,_,hin⟩:=h.ob _ _ hobj
     obtain ⟨x,hx1,hx2⟩:=hin.getR hx
     have hgd:Z.getD l k []=x:=by simp [Z.getD,List.getD_eq_getElem?_getD,hx1]
     have hi1:n<(x.length:Int):=by rw [hgd] at hi1;exact hi1
     obtain ⟨_,vss,hvs,hown⟩:=hx2
     rcases hown.2 with ⟨e1,e2⟩ | ⟨gg,cap,cur,e1,_⟩
     ·exact (nlt0 hi0 hi1 (List.eq_nil_of_length_eq_zero e2)).elim
     refine did_pure (v:=.pointer (some ⟨gg,n.toNat*t₁.n,none⟩)) h rfl ?_ ?_
     ·simp [execOp,hop,e1,ei,Instr.indexAt,asIntOf,run_underlying hu,hi0,hi1,hsz,Addr.add_lit]
     ·simp only [AVRep,hobj]
      exact ⟨g₂,rfl,Nat.le_refl _,fun _=>⟨gg,_,_,e1▸hx,nlt hi0 hi1,rfl⟩⟩
    ·cases he
   ·rename_i t' l' h1
    rw [h1] at hx
    split at he
    ·rename_i l hl
     have he:=okO_some he;subst he
     obtain ⟨hi0,hi1⟩:=hob _ rfl
     have hi0:(0:Int)≤n:=hi0
     have hi1:n<((l:List t.D).length:Int):=hi1
     obtain ⟨ad,cap,ex,_,hm⟩:=sl_val (castD_vrep hl hx)
     rcases hm with hm | ⟨b,off,vss,rfl,hst,hvs,hc⟩
     ·exact (nlt0 hi0 hi1 hm).elim
     obtain ⟨c,hcc,hrc⟩:=hvs.get (getD_some (l:=(l:List t.D)) (i:=n.toNat) (d:=t.z) (nlt hi0 hi1))
     obtain ⟨e1,e2⟩:=flatten_sub (k:=t.n) (all2u_length hvs) hcc
     refine did_pure (v:=.pointer (some ⟨b,off+n.toNat*t.n,none⟩)) h rfl ?_ (ref_mk hst (by rw [←e1] at hrc;exact hrc) (hc.sub e2))
     simp [execOp,hop,ex,ei,Instr.indexAt,asIntOf,run_underlying hu,hi0,hi1,hsz,Addr.add_lit]
    ·cases he
   ·cases he
  ·rename_i m t hT
   obtain ⟨E,hu,hE,hn0⟩:=arr_facts (hcx.ty T _ hT)
   have hsz:=(hcx.ty _ _ hE).size
   split at he
   ·rename_i ob q h1
    rw [h1] at hx
    simp only [AVRep,SVRep] at hx
    split at he
    ·rename_i obj hobj
     rw [hobj] at hx
     obtain ⟨hin,b,off,hb,hp,ex⟩:=hx
     split at he
     ·rename_i o₁ t₁ hot
      obtain ⟨hc,he'⟩:=cond_some he
      subst he'
      have:=Ty.beq_eq hc
      subst this
      obtain ⟨hi0,hi1⟩:=hob _ rfl
      have hi0:(0:Int)≤n:=hi0
      have hi1:n<(m:Int):=hi1
      have hoff:offP (.arr m t) [.x (Z.nat n)]=some (Z.nat n*t.n,t):=by
       simp [offP,show offP t []=some (0,t) from by cases t<;>rfl]
      obtain ⟨a1,a2,a3⟩:=obOff_append hot hoff hin ⟨nlt hi0 hi1,by cases t<;>trivial⟩
      rw [hp] at a1
      have a1:=Option.some.inj a1
      subst a1
      refine did_pure (v:=.pointer (some ⟨b,off+n.toNat*t.n,none⟩)) h rfl ?_ ?_
      ·simp [execOp,hop,ex,ei,Instr.indexAt,asIntOf,run_underlying hu,Instr.sureAddr,hi0,hi1,hsz,Addr.add_lit]
      ·simp only [AVRep,SVRep,hobj]
       exact ⟨a3,b,_,hb,a2,rfl⟩
     ·cases he
    ·cases he
   ·rename_i t' l' h1
    rw [h1] at hx
    split at he
    ·rename_i l hl
     have he:=okO_some he;subst he
     obtain ⟨hi0,hi1⟩:=hob _ rfl
     have hi0:(0:Int)≤n:=hi0
     have hi1:n<(m:Int):=hi1
     obtain ⟨b,off,vs,ex,hst,hr,hc⟩:=ref_val hx
     obtain ⟨vss,rfl,hvs,hlen⟩:=castD_rep hl hr
     obtain ⟨c,hcc,hrc⟩:=hvs.get (getD_some (l:=(l:List t.D)) (i:=n.toNat) (d:=t.z) (nlt hi0 (by rw [hlen];exact hi1)))
     obtain ⟨e1,e2⟩:=flatten_sub (k:=t.n) (all2u_length hvs) hcc
     refine did_pure (v:=.pointer (some ⟨b,off+n.toNat*t.n,none⟩)) h rfl ?_ (ref_mk hst (by rw [←e1] at hrc;exact hrc) (hc.sub e2))
     simp [execOp,hop,ex,ei,Instr.indexAt,asIntOf,run_underlying hu,Instr.sureAddr,hi0,hi1,hsz,Addr.add_lit]
    ·cases he
   ·cases he
  ·cases he
 ·cases he
theorem did_index (hcx:CxOk K.P cx) (h:RelB K s a w β) (hg:Hold a g) {T:TypeId} {x i:Operand} (hop:o.op=.index T x i) (hd:o.dst=some d) (he:eff0 cx s g o=some e) (hob:∀ r,e.obl=some r→r):Did K s a w o e:=by
 have hx:=ev_rep (cx:=cx) h hg 0 x
 have hi:=ev_rep (cx:=cx) h hg 0 i
 simp only [eff0,hop,hd] at he
 split at he
 ·rename_i b hb
  split at he
  ·rename_i k n hn
   rw [hn] at hi
   obtain ⟨ei,_,_⟩:=int_val hi
   rw [Bool.cond_eq_ite] at he
   split at he
   ·rename_i hT
    have he:=okO_some he;subst he
    obtain ⟨hi0,hi1⟩:=hob _ rfl
    have hi0:(0:Int)≤n:=hi0
    have hi1:n<(b.size:Int):=hi1
    have ex:a.eval x=.string b:=by
     cases x with
     | const v =>
      cases v<;>first | (cases hb;done) | skip
      cases hb;rfl
     | _=>cases hb
    have hlt:n.toNat<b.size:=nlt hi0 hi1
    have hb':b[n.toNat]?=some b[n.toNat]:=getElem?_pos b n.toNat hlt
    refine did_pure (v:=.int .u8 (b[n.toNat].toNat:Int)) h rfl ?_ ?_
    ·simp [execOp,hop,ex,ei,Instr.index,asIntOf,run_underlying (hcx.strs T hT),hi0,hb']
    ·have e:Z.getD (bytesL b) (Z.nat n) 0=(b[n.toNat].toNat:Int):=by
      have hlt':n.toNat<b.data.toList.length:=by simpa using hlt
      simp only [bytesL,Z.getD,Z.nat,List.getD_eq_getElem?_getD,List.getElem?_map]
      rw [List.getElem?_eq_getElem hlt']
      rfl
     rw [e]
     refine mk_int (show (0:Int)≤_ by omega) (show (_:Int)≤255 from ?_)
     have:=b[n.toNat].toNat_lt
     omega
   ·cases he
  ·cases he
 split at he
 ·rename_i t y n m t' h1 hn hT
  rw [h1] at hx;rw [hn] at hi
  obtain ⟨ei,_,_⟩:=int_val hi
  split at he
  ·rename_i l hl
   have he:=okO_some he;subst he
   obtain ⟨hi0,hi1⟩:=hob _ rfl
   have hi0:(0:Int)≤n:=hi0
   have hi1:n<(m:Int):=hi1
   obtain ⟨E,hu,hE,hn0⟩:=arr_facts (hcx.ty T _ hT)
   have hsz:=(hcx.ty _ _ hE).size
   obtain ⟨cs,⟨vss,rfl,hvs,hlen⟩,ex⟩:=castD_vrep hl hx
   obtain ⟨c,hcc,hrc⟩:=hvs.get (getD_some (l:=(l:List t'.D)) (i:=n.toNat) (d:=t'.z) (nlt hi0 (by rw [hlen];exact hi1)))
   obtain ⟨e1,e2⟩:=flatten_sub (k:=t'.n) (all2u_length hvs) hcc
   rw [←e1] at hrc
   have hp:=(hcx.ty _ _ hE).part e2 hrc w
   have ex':a.eval x=.agg vss.flatten.toArray:=ex
   refine did_pure (v:=pack t' (sub vss.flatten (n.toNat*t'.n) t'.n)) h rfl ?_ ⟨_,hrc,rfl⟩
   simp [execOp,hop,ex',ei,Instr.index,asIntOf,run_underlying hu,hi0,hi1,hsz]
   rw [hp];rfl
  ·cases he
 ·cases he
theorem did_extract (h:RelB K s a w β) (hg:Hold a g) {x:Operand} {k:Nat} (hop:o.op=.extract x k) (hd:o.dst=some d) (he:eff0 cx s g o=some e):Did K s a w o e:=by
 have hx:=ev_rep (cx:=cx) h hg 0 x
 simp only [eff0,hop,hd] at he
 split at he
 ·rename_i l h1
  rw [h1] at hx
  obtain ⟨vs,ex,hvs⟩:=hx
  simp only [Option.bind_eq_some_iff] at he
  obtain ⟨v,hv,he⟩:=he
  have he:=ok_some he;subst he
  have hn:∀ {l:List SV} {k:Nat},nth l k=l[k]?:=by
   intro l
   induction l with
   | nil=>intro k;cases k<;>rfl
   | cons a l ih=>intro k;cases k with
    | zero=>rfl
    | succ k=>simp [nth,ih]
  rw [hn] at hv
  obtain ⟨u,hu,hr⟩:=(All2.flip hvs).get hv
  refine did_pure (v:=u) h rfl ?_ hr
  simp [execOp,hop,ex,Instr.extract,hu]
 ·cases he
theorem caps_rep (h:RelB K s a w β) (hg:Hold a g):{l:List Operand}→{c:List SV}→All2 (fun x y=>(match ev cx s g 0 x with | .s v=>some v | _=>none)=some y) l c→All2 (SVRep K.P s β w (Mset K.Mg s β)) c (l.map a.eval)
 | [],[],_=>trivial
 | [],_::_,hall=>hall.elim
 | _::_,[],hall=>hall.elim
 | z::l,v::c,hall=>by
  obtain ⟨h1,h2⟩:=hall
  refine ⟨?_,caps_rep h hg h2⟩
  have hz:=ev_rep (cx:=cx) h hg 0 z
  generalize ev cx s g 0 z=q at h1 hz
  cases q with
  | s v'=>cases h1;exact hz
  | _=>cases h1
theorem did_bind (hcx:CxOk K.P cx) (h:RelB K s a w β) {f:Nat} {z:Operand} {X:AV} (hx:AVRep K.P s β w (Mset K.Mg s β) X (a.eval z)) (hop:o.op=.makeFunc (.func f) #[z] #[]) (he:bindEff cx s f X=some e):Did K s a w o e:=by
 unfold bindEff at he
 have hrun:(execOp a.eval o).run K.P w=.ok (.value (.func (.func f) [a.eval z].toArray ([]:List Value).toArray)) w:=by
  simp [execOp,hop,Instr.makeFunc]
 split at he
 ·rename_i v ids fz t b r pre val nz0 hs hk
  split at he
  ·rename_i y hy
   obtain ⟨hc,he⟩:=cond_some he
   subst he
   obtain ⟨h1,h2,h3,h4⟩:=solid_rep hcx h hs (us:=[a.eval z]) ⟨hx,trivial⟩
   have hv:=castD_vrep hy h4.1
   refine ⟨_,w,β,hrun,h1,f1u_rep hcx hk hc ?_⟩
   intro w' N v' y' hv' ht hp
   exact ⟨(y,y'),hp,⟨_,_,rfl,hv.tr ht,v',rfl,hv'⟩,fun _ _ _ hz=>hz⟩
  ·cases he
 ·rename_i v ids fz t b c r pre val nz0 hs hk
  split at he
  ·rename_i y hy
   obtain ⟨hc,he⟩:=cond_some he
   subst he
   obtain ⟨h1,h2,h3,h4⟩:=solid_rep hcx h hs (us:=[a.eval z]) ⟨hx,trivial⟩
   have hv:=castD_vrep hy h4.1
   refine ⟨_,w,β,hrun,h1,f2u_rep hcx hk hc ?_⟩
   intro w' N v₁ v₂ y₁ y₂ hv₁ hv₂ ht hp
   exact ⟨(y,y₁,y₂),hp,⟨_,_,rfl,hv.tr ht,_,_,rfl,hv₁,v₂,rfl,hv₂⟩,fun _ _ _ hz=>hz⟩
  ·cases he
 ·cases he
theorem did_bindAny (hcx:CxOk K.P cx) (h:RelB K s a w β) {f:Nat} {z:Operand} {X:AV} (hx:AVRep K.P s β w (Mset K.Mg s β) X (a.eval z)) (hop:o.op=.makeFunc (.func f) #[z] #[]) (he:bindAny cx s f X=some e):Did K s a w o e:=by
 unfold bindAny at he
 have hrun:(execOp a.eval o).run K.P w=.ok (.value (.func (.func f) #[a.eval z] #[])) w:=by
  simp [execOp,hop,Instr.makeFunc]
 split at he
 ·have he:=ok_some he;subst he
  exact did_pure h rfl hrun ⟨_,rfl,hx⟩
 ·exact did_bind hcx h hx hop he
theorem caps_frc {s':ASt} {M':Nat→Prop} {q:Nat} {v:Dv} (hc:Compat s β s' β) (ht:Tr (Mset K.Mg s β) w M' w) (hq:∀ u,SVRep K.P s β w (Mset K.Mg s β) (.ptr q []) u→VRep K.P v.t w M' u v.x) :
  ∀ {c:List SV} {us:List Value},All2 (SVRep K.P s β w (Mset K.Mg s β)) c us→All2 (SVRep K.P s' β w M') (c.map (capSV q v)) us
 | [],[],_=>trivial
 | [],_::_,h=>h.elim
 | _::_,[],h=>h.elim
 | x::c,u::us,h=>by
  refine ⟨?_,caps_frc hc ht hq h.2⟩
  have h1:=h.1
  cases x with
  | ptr p l =>
   cases l with
   | nil =>
    simp only [capSV]
    cases hb:Nat.beq p q with
    | true=>rw [Nat.eq_of_beq_eq_true hb] at h1;exact hq u h1
    | false=>exact h1.next hc ht
   | cons _ _=>exact h1.next hc ht
  | _=>exact h1.next hc ht
theorem did_frc (hcx:CxOk K.P cx) (h:RelB K s a w β) {f q:Nat} {c:List SV} {us:List Value} (hvs:All2 (SVRep K.P s β w (Mset K.Mg s β)) c us)
  (hrun:(execOp a.eval o).run K.P w=.ok (.value (.func (.func f) #[] us.toArray)) w) (he:frcEff cx s f q c=some e):Did K s a w o e:=by
 unfold frcEff at he
 split at he
 ·rename_i v ids fz hs
  obtain ⟨_,he⟩:=cond_some he
  subst he
  have hfz:fz=freeze s ([AV.s (.ptr q [])].flatMap (AV.open? s)):=by
   unfold solid at hs
   split at hs
   ·cases hs;rfl
   ·cases hs
  obtain ⟨h1,h2,h3,_⟩:=h.freeze ([AV.s (.ptr q [])].flatMap (AV.open? s))
  rw [←hfz] at h1 h2 h3
  exact ⟨_,w,β,hrun,h1,us,rfl,caps_frc h3 h2 (fun u hu=>(solid_rep hcx h hs (us:=[u]) ⟨hu,trivial⟩).2.2.2.1) hvs⟩
 ·cases he
theorem did_makeFunc (hcx:CxOk K.P cx) (h:RelB K s a w β) (hg:Hold a g) {f:Nat} {x y:Array Operand} (hop:o.op=.makeFunc (.func f) x y) (hd:o.dst=some d) (he:eff0 cx s g o=some e):Did K s a w o e:=by
 simp only [eff0,hop,hd] at he
 split at he
 ·rename_i hx0
  split at he
  ·rename_i c hc
   have hvs:=caps_rep h hg (optAll_all2 hc)
   have hrun:(execOp a.eval o).run K.P w=.ok (.value (.func (.func f) #[] (y.toList.map a.eval).toArray)) w:=by
    have e1:x=#[]:=by
     apply Array.ext'
     exact hx0
    have e2:y.map a.eval=(y.toList.map a.eval).toArray:=by apply Array.ext';simp
    rw [e2.symm];simp [execOp,hop,e1,Instr.makeFunc]
   split at he
   ·exact did_frc hcx h hvs hrun he
   ·have he:=ok_some he;subst he
    exact did_pure (v:=.func (.func f) #[] (y.toList.map a.eval).toArray) h rfl hrun ⟨_,rfl,hvs⟩
  ·cases he
 ·rename_i z hx0
  split at he
  ·rename_i hy0
   have e1:x=#[z]:=by apply Array.ext';exact hx0
   have e2:y=#[]:=by apply Array.ext';exact hy0
   subst e1;subst e2
   exact did_bindAny hcx h (ev_rep (cx:=cx) h hg 0 z) hop he
  ·cases he
 ·cases he
end
end Go.Sx
/-
 The symbolic layer,part 13: new variables,composites.
-/
namespace Go.Sx
theorem oneCell_of {c:Value} (h:(∀ l,c≠.agg l)∧∀ l,c≠.tuple l):c.oneCell'=true:=by
 cases c<;>first | rfl | exact absurd rfl (h.1 _) | exact absurd rfl (h.2 _)
theorem Rep.oneCells {P:Program} {t:Ty} {w:World} {M:Nat→Prop} {cs:List Value} {x:t.D} (h:Rep P t w M cs x):∀ c∈cs,c.oneCell'=true:=fun c hc=>oneCell_of (h.noAgg c hc)
theorem ext_alloc (w:World) (ob:Obj):Ext noM w (w.alloc ob) :=
 ⟨by show w.heap.size≤(w.heap.push ob).size;rw [Array.size_push];omega,fun b hb _=>heap_alloc_old w ob b hb,rfl,rfl⟩
theorem ext_drew (w:World):Ext noM w w.drew:=⟨Nat.le_refl _,fun _ _ _=>rfl,rfl,rfl⟩
theorem foldl_splice (off:Nat) (vs cs:Array Value) (h:off+vs.size≤cs.size) :
  (vs.zipIdx.foldl (fun cs (x:Value × Nat)=>cs.setIfInBounds (off+x.2) x.1) cs).toList=splice cs.toList off vs.toList:=by
 obtain ⟨h1,h2⟩:=Great.foldl_set off vs.toList 0 cs
 have e:vs.zipIdx.foldl (fun cs (x:Value × Nat)=>cs.setIfInBounds (off+x.2) x.1) cs=(vs.toList.zipIdx 0).foldl (fun cs (x:Value × Nat)=>cs.setIfInBounds (off+x.2) x.1) cs:=by
  rw [←Array.foldl_toList,Array.toList_zipIdx]
 rw [e]
 apply List.ext_getElem?
 intro k
 rw [Array.getElem?_toList,h2 k]
 simp only [Nat.add_zero,Array.length_toList,splice]
 rw [List.getElem?_append,List.getElem?_append]
 simp only [List.length_take,Array.length_toList,List.getElem?_take,Array.getElem?_toList,List.getElem?_drop]
 have hmin:min off cs.size=off:=by omega
 rw [hmin]
 by_cases hk:k<off
 ·rw [if_neg (by omega),if_pos hk,if_pos hk]
 ·rw [if_neg hk]
  by_cases hk2:k<off+vs.size
  ·rw [if_pos (by omega),if_pos (by omega)]
  ·rw [if_neg (by omega),if_neg (by omega)]
   congr 1
   omega
theorem fill_rep {P:Program} {place:Nat→Option (Nat × Nat)} {t:Ty} {w:World} {M:Nat→Prop}
  (hplace:∀ k q,partPath t k=some q→inP t q∧∃ off tf,offP t q=some (off,tf)∧place k=some (off,tf.n)) :
  ∀ {parts:List (Nat × Dv)} {us:List (Nat × Value)} {cs:Array Value} {x y:t.D},
   All2 (fun (u:Nat × Value) (p:Nat × Dv)=>u.1=p.1∧VRep P p.2.t w M u.2 p.2.x) us parts→Rep P t w M cs.toList x→putParts t x parts=some y →
   ∃ cs',Instr.fill place cs us=some cs'∧Rep P t w M cs'.toList y
 | [],[],cs,x,y,_,hr,hp=>by
  simp only [putParts,Option.some.injEq] at hp
  subst hp
  exact ⟨cs,rfl,hr⟩
 | (k,v)::parts,(j,u)::us,cs,x,y,hall,hr,hp=>by
  obtain ⟨⟨hj,hu⟩,hall⟩:=hall
  have hj:j=k:=hj
  subst hj
  simp only [putParts] at hp
  split at hp
  ·rename_i q hq
   split at hp
   ·rename_i x' hx'
    obtain ⟨hin,off,tf,ho,hpl⟩:=hplace j q hq
    obtain ⟨hu1,hu2⟩:=hu.cells
    obtain ⟨off',ho',hle,hr'⟩:=setP_rep hr hx' hin hu1
    rw [ho] at ho'
    simp only [Option.some.injEq,Prod.mk.injEq] at ho'
    obtain ⟨rfl,rfl⟩:=ho'
    have hlen:=hu1.length
    simp only [Array.length_toList] at hlen hle
    have hsp:=foldl_splice off u.cells cs (by rw [hlen];exact hle)
    obtain ⟨cs',h1,h2⟩:=fill_rep hplace (cs:=u.cells.zipIdx.foldl (fun cs (x:Value × Nat)=>cs.setIfInBounds (off+x.2) x.1) cs) hall (by rw [hsp];exact hr') hp
    refine ⟨cs',?_,h2⟩
    unfold Instr.fill
    simp only [hpl]
    rw [if_neg (by simp only [hlen];simp;exact hle)]
    exact h1
   ·cases hp
  ·cases hp
 | [],_::_,_,_,_,h,_,_=>h.elim
 | _::_,[],_,_,_,h,_,_=>h.elim
theorem puts_other {α:Type} {f:Nat→α} {o:Nat}:∀ {r:List (Nat × α)},(∀ x∈r,x.1≠o)→puts f r o=f o
 | [],_=>rfl
 | (k,v)::r,h=>by
  rw [puts_map_cons,put_other _ _ (fun e=>h (k,v) List.mem_cons_self e.symm)]
  exact puts_other fun x hx=>h x (List.mem_cons_of_mem _ hx)
section
variable {K:Ctx} {s:ASt} {a:Act} {w w':World} {β:Nat→Loc} {cx:Cx} {g:List (Nat × Bool)} {o:Oper} {e:Eff} {d:Nat}
theorem frO_none {ids:List Nat} {x:Nat} (h:s.obs x=none):frO s ids x=none:=by
 unfold frO;rw [h]
theorem solid_none {l:List AV} {vs:List Dv} {ids:List Nat} {fz:List (Nat × Option Ob)} (hs:solid cx s l=some (vs,ids,fz)) {x:Nat} (hx:s.obs x=none):(after s fz).obs x=none:=by
 unfold solid at hs
 split at hs
 ·cases hs
  show puts s.obs ((freeze s _).map fun x=>(x.1,some x.2)) x=none
  rw [freeze_obs,frO_none hx]
 ·cases hs
theorem memN_iff {x:Nat}:∀ {l:List Nat},memN x l=true↔x∈l
 | []=>by simp [memN]
 | y::l=>by
  simp only [memN,Bool.or_eq_true,List.mem_cons,memN_iff (l:=l)]
  refine or_congr ⟨Nat.eq_of_beq_eq_true,fun e=>?_⟩ Iff.rfl
  subst e;exact Nat.beq_refl x
theorem after_other {fz:List (Nat × Option Ob)} {x:Nat} (h:memN x (fz.map (·.1))=false):(after s fz).obs x=s.obs x:=by
 refine puts_other fun y hy e=>?_
 obtain ⟨z,hz,rfl⟩:=List.mem_map.1 hy
 have:memN x (fz.map (·.1))=true:=memN_iff.2 (e▸List.mem_map_of_mem hz)
 rw [h] at this;cases this
theorem did_new (h:RelB K s a w β) {fz:List (Nat × Option Ob)} (h1:RelB K (after s fz) a w β) (hn:(after s fz).obs d=none) {ob:Ob} {L:Loc} {v:Value} (hx:Ext noM w w') (hL:∀ b,L.has b→w.heap.size≤b)
  (he:e.wr=(d,some ob)::fz) (hr:(execOp a.eval o).run K.P w=.ok (.value v) w')
  (hob:Tr (Mset K.Mg (after s fz) β) w (Mset K.Mg { (after s fz) with obs:=put (after s fz).obs d (some (some ob)) } (Sx.put β d L)) w'→Compat (after s fz) β { (after s fz) with obs:=put (after s fz).obs d (some (some ob)) } (Sx.put β d L)→ObRep K.P { (after s fz) with obs:=put (after s fz).obs d (some (some ob)) } (Sx.put β d L) w' (Mset K.Mg { (after s fz) with obs:=put (after s fz).obs d (some (some ob)) } (Sx.put β d L)) L ob)
  (hv:(∃ b,e.av=.s (.ptr d [])∧inOb ob []∧obPos ob []=some 0∧L.blk=some b∧v=.pointer (some ⟨b,0,none⟩))∨(e.av=.s (.os d)∧isRow ob=true∧L.hdr=v)∨(e.av=.s (.mp d)∧isMm ob=true∧∃ b,L.blk=some b∧v=.map (some b))) (hsb:L.sub=[]:=by rfl):Did K s a w o e:=by
 have hng:isGh ob=false:=by
  rcases hv with ⟨b,_,h2,h3,_⟩ | ⟨_,h2,_⟩ | ⟨_,h2,_⟩<;>cases ob<;>first | rfl | exact h2.elim | cases h2
 obtain ⟨g1,g2,g3⟩:=h1.new hn hx hL hng (ob:=ob) (by
  intro ht
  refine hob ht ?_
  refine ⟨fun x hx=>?_,fun x ob' hx=>.inr ⟨ob',?_,?_,.refl _⟩⟩
  ·show put _ d _ x=_
   rw [put_other _ _ (fun e=>by rw [e,hn] at hx;cases hx)];exact hx
  ·show put _ d _ x=_
   rw [put_other _ _ (fun e=>by rw [e,hn] at hx;cases hx)];exact hx
  ·rw [put_other _ _ (fun e=>by rw [e,hn] at hx;cases hx)]) (hsb:=fun _=>hsb)
 have ea:after s e.wr={ (after s fz) with obs:=put (after s fz).obs d (some (some ob)) }:=by rw [he];rfl
 refine ⟨v,w',Sx.put β d L,hr,by rw [ea];exact g1,?_⟩
 rw [ea]
 rcases hv with ⟨b,h1,h2,h3,h4,h5⟩ | ⟨h1,h2,h3⟩ | ⟨h1,h2,h3⟩
 ·rw [h1]
  simp only [AVRep,SVRep,put_same]
  exact ⟨h2,b,0,h4,h3,h5⟩
 ·rw [h1]
  simp only [AVRep,SVRep,put_same]
  exact ⟨h2,h3.symm⟩
 ·rw [h1]
  simp only [AVRep,SVRep,put_same]
  exact ⟨h2,h3⟩
theorem one_val (hrel:RelB K s a w β) {x:AV} {v:Value} (h:AVRep K.P s β w (Mset K.Mg s β) x v) (ho:x.one s=true):v.cells=#[v]∧v.oneCell'=true:=by
 cases x with
 | un=>cases ho
 | yl _=>rw [show v=_ from h];exact ⟨rfl,rfl⟩
 | mv _ _ _=>cases ho
 | bm _ _=>cases ho
 | ag _ _ _=>cases ho
 | ex _=>cases ho
 | sn _ _ _ _=>cases ho
 | rqe _ _ _=>cases ho
 | ri _ _ _=>cases ho
 | rie _ _ _ _ _=>cases ho
 | tup l=>cases ho
 | clo f c=>obtain ⟨vs,rfl,_⟩:=h;exact ⟨rfl,rfl⟩
 | s x =>
  cases x with
  | d t y =>
   simp only [AV.one,Bool.not_eq_true'] at ho
   obtain ⟨cs,h1,rfl⟩:=h
   obtain ⟨v,rfl,h2,h3⟩:=h1.single ho
   simp only [pack,ho,cond_false,List.headD_cons]
   exact ⟨h2,oneCell_of h3⟩
  | nl e t=>rw [show v=_ from h];exact ⟨rfl,rfl⟩
  | mp ob =>
   simp only [AV.one,live] at ho
   simp only [AVRep,SVRep] at h
   split at ho
   ·rename_i o' hh
    rw [hh] at h
    obtain ⟨_,b,_,rfl⟩:=h
    exact ⟨rfl,rfl⟩
   ·cases ho
  | ptr ob p =>
   simp only [AV.one,live] at ho
   simp only [AVRep,SVRep] at h
   split at ho
   ·rename_i o' hh
    rw [hh] at h
    obtain ⟨_,b,off,_,_,rfl⟩:=h
    exact ⟨rfl,rfl⟩
   ·cases ho
  | os ob =>
   simp only [AV.one,live] at ho
   simp only [AVRep,SVRep] at h
   split at ho
   ·rename_i o' hh
    rw [hh] at h
    obtain ⟨hr,rfl⟩:=h
    cases o' with
    | bx _ _ _=>cases hr
    | bv _=>cases hr
    | mm _ _ _=>cases hr
    | me _ _ _ _=>cases hr
    | gh _ _=>cases hr
    | it _ _ _ _=>cases hr
    | bp _ _ _=>cases hr
    | row f e t l =>
     obtain ⟨_,_,vss,_,hown⟩:=hrel.ob _ _ hh
     rcases hown.2 with ⟨e1,_⟩ | ⟨gg,cap,cur,e1,_⟩<;>rw [e1]<;>exact ⟨rfl,rfl⟩
    | rr f g₀ e e2 t l =>
     obtain ⟨_,_,hown,_⟩:=hrel.ob _ _ hh
     rcases hown.2 with ⟨e1,_⟩ | ⟨gg,cap,cur,e1,_⟩<;>rw [e1]<;>exact ⟨rfl,rfl⟩
    | rq f e t l =>
     obtain ⟨_,_,k,vss,_,hown⟩:=hrel.ob _ _ hh
     rcases hown.2 with ⟨e1,_⟩ | ⟨gg,cap,cur,e1,_⟩<;>rw [e1]<;>exact ⟨rfl,rfl⟩
   ·cases ho
theorem did_alloc (hcx:CxOk K.P cx) (h:RelB K s a w β) {T:TypeId} (hop:o.op=.alloc T) (hd:o.dst=some d) (he:eff0 cx s g o=some e):Did K s a w o e:=by
 simp only [eff0,hop,hd] at he
 split at he
 ·cases he
 ·rename_i hobs
  split at he
  ·rename_i e' he'
   cases he
   unfold allocNl at he'
   split at he'
   ·rename_i t hT
    obtain ⟨_,he'⟩:=cond_some he'
    subst he'
    have hzero:=(hcx.ty T _ hT).zero rfl
    refine did_new (L:=⟨some w.heap.size,undef,[]⟩) (w':=w.alloc (.cells #[.slice none 0 0] T)) (v:=.pointer (some ⟨w.heap.size,0,none⟩)) h (fz:=[]) h hobs (ext_alloc _ _) (fun b hb=>by cases one_blk hb;exact Nat.le_refl _) rfl ?_ ?_ (.inl ⟨_,rfl,by trivial,?_,rfl,rfl⟩)
    ·simp [execOp,hop,Instr.alloc,hzero,newVar,newRow]
     rfl
    ·intro ht hc
     exact ⟨_,[.slice none 0 0],T,[(0,.slice none 0 0)],rfl,heap_alloc_new _ _,⟨none,0,rfl,Nat.zero_le _,.inl rfl⟩,⟨⟨_,rfl,rfl,rfl,rfl⟩,Nat.zero_lt_one,trivial,rfl⟩,trivial⟩
    ·simp [obPos,offP]
   ·cases he'
  cases hb:(memN d cx.bvs&&cx.one T) with
  | true =>
   rw [hb] at he
   simp only [cond_true,Option.some.injEq] at he
   subst he
   have hone:cx.one T=true:=by simp only [Bool.and_eq_true] at hb;exact hb.2
   obtain ⟨z,hz1,hz2,hz3,hz4⟩:=(hcx.one T hone).zero
   refine did_new (L:=⟨some w.heap.size,undef,[]⟩) (w':=w.alloc (.cells #[z] T)) (v:=.pointer (some ⟨w.heap.size,0,none⟩)) h (fz:=[]) h hobs (ext_alloc _ _) (fun b hb=>by cases one_blk hb;exact Nat.le_refl _) rfl ?_ ?_ (.inl ⟨_,rfl,trivial,rfl,rfl,rfl⟩)
   ·simp [execOp,hop,Instr.alloc,hz4,newVar,newRow,hz1]
   ·intro ht hc
    refine ⟨_,z,T,rfl,heap_alloc_new _ _,?_⟩
    split
    ·rename_i t hT
     have:=(hcx.ty T _ hT).zero rfl w
     rw [hz4] at this
     cases this
     rfl
    ·trivial
  | false =>
   rw [hb] at he
   simp only [cond_false] at he
   split at he
   ·rename_i v hv
    simp only [Option.some.injEq] at he
    subst he
    unfold zeroOf at hv
    split at hv
    ·rename_i t hT
     cases hz:t.zOk with
     | false=>rw [hz] at hv;cases hv
     | true =>
      rw [hz] at hv
      simp only [cond_true,Option.some.injEq] at hv
      subst hv
      have hv1:VRep K.P t w (Mset K.Mg s β) (pack t (zc t)) t.z:=⟨_,zc_rep t w _ hz,rfl⟩
      refine did_new (L:=⟨some w.heap.size,undef,[]⟩) (w':=w.alloc (.cells (pack t (zc t)).cells T)) (v:=.pointer (some ⟨w.heap.size,0,none⟩)) h (fz:=[]) h hobs (ext_alloc _ _) (fun b hb=>by cases one_blk hb;exact Nat.le_refl _) rfl ?_ ?_ (.inl ⟨_,rfl,by cases t<;>trivial,?_,rfl,rfl⟩)
      ·simp [execOp,hop,Instr.alloc,(hcx.ty T t hT).zero hz,newVar,newRow]
      ·intro ht hc
       exact ⟨_,_,T,rfl,by rw [Array.toArray_toList];exact heap_alloc_new _ _,hv1.cells.1.tr ht⟩
      ·simp [obPos,show offP t []=some (0,t) from by cases t<;>rfl]
    ·cases hv
   ·cases he
theorem inP_nil (t:Ty):inP t []:=by cases t<;>trivial
theorem offP_nil (t:Ty):offP t []=some (0,t):=by cases t<;>rfl
theorem did_box (hcx:CxOk K.P cx) (h:RelB K s a w β) (hg:Hold a g) {T:TypeId} {x:Operand} (hop:o.op=.box T x) (hd:o.dst=some d) (he:eff0 cx s g o=some e):Did K s a w o e:=by
 have hx:=ev_rep (cx:=cx) h hg T x
 simp only [eff0,hop,hd] at he
 split at he
 ·cases he
 ·rename_i hobs
  split at he
  ·rename_i e' he'
   cases he
   unfold boxAg at he'
   split at he'
   ·rename_i X t y hs hX
    rw [hX] at hx
    split at he'
    ·rename_i t' hT
     obtain ⟨hc,he'⟩:=cond_some he'
     subst he'
     obtain ⟨vs,us,ev',hr,hus⟩:=hx
     refine did_new (L:=⟨some w.heap.size,undef,[]⟩) (w':=w.alloc (.cells (a.eval x).cells T)) (v:=.pointer (some ⟨w.heap.size,0,none⟩)) h (fz:=[]) h hobs (ext_alloc _ _) (fun b hb=>by cases one_blk hb;exact Nat.le_refl _) rfl ?_ ?_ (.inl ⟨_,rfl,inP_nil t,?_,rfl,rfl⟩)
     ·simp [execOp,hop,Instr.box,newVar,newRow]
     ·intro ht hc
      refine ⟨_,vs,T,us,rfl,?_,hr.tr ht,hus.mono fun _ _ ⟨k1,k2,k3,k4⟩=>⟨k1,k2,k3,k4.next hc ht⟩⟩
      rw [ev']
      exact heap_alloc_new _ _
     ·simp [obPos,offP_nil]
    ·cases he'
   ·cases he'
  split at he
  ·rename_i e' he'
   cases he
   unfold boxNl at he'
   split at he'
   ·rename_i X e₁ t₁ t hX hT
    rw [hX] at hx
    have hx:a.eval x=.slice none 0 0:=hx
    obtain ⟨hc,he'⟩:=cond_some he'
    subst he'
    rw [Bool.and_eq_true] at hc
    have:=Ty.beq_eq hc.2
    subst this
    refine did_new (L:=⟨some w.heap.size,undef,[]⟩) (w':=w.alloc (.cells (a.eval x).cells T)) (v:=.pointer (some ⟨w.heap.size,0,none⟩)) h (fz:=[]) h hobs (ext_alloc _ _) (fun b hb=>by cases one_blk hb;exact Nat.le_refl _) rfl ?_ ?_ (.inl ⟨_,rfl,inP_nil _,?_,rfl,rfl⟩)
    ·simp [execOp,hop,Instr.box,newVar,newRow]
    ·intro ht hc
     refine ⟨_,[.slice none 0 0],T,[(0,.slice none 0 0)],rfl,?_,⟨none,0,rfl,Nat.zero_le _,.inl rfl⟩,⟨⟨_,offP_nil _,rfl,rfl,rfl⟩,Nat.zero_lt_one,inP_nil _,rfl⟩,trivial⟩
     rw [hx]
     exact heap_alloc_new _ _
    ·simp [obPos,offP_nil]
   ·cases he'
  cases hb:(memN d cx.bvs&&(ev cx s g T x).one s) with
  | true =>
   rw [hb] at he
   simp only [cond_true,Option.some.injEq] at he
   subst he
   simp only [Bool.and_eq_true] at hb
   obtain ⟨h1,_⟩:=one_val h hx hb.2
   refine did_new (L:=⟨some w.heap.size,undef,[]⟩) (w':=w.alloc (.cells #[a.eval x] T)) (v:=.pointer (some ⟨w.heap.size,0,none⟩)) h (fz:=[]) h hobs (ext_alloc _ _) (fun b hb=>by cases one_blk hb;exact Nat.le_refl _) rfl ?_ ?_ (.inl ⟨_,rfl,trivial,rfl,rfl,rfl⟩)
   ·simp [execOp,hop,Instr.box,newVar,newRow,h1]
   ·intro ht hc
    exact ⟨_,a.eval x,T,rfl,heap_alloc_new _ _,hx.next hc ht⟩
  | false =>
   rw [hb] at he
   simp only [cond_false] at he
   split at he
   ·rename_i t w₀ ids fz hT hs
    split at he
    ·rename_i y hy
     obtain ⟨h1,h2,h3,h4⟩:=solid_rep hcx h hs (us:=[a.eval x]) ⟨hx,trivial⟩
     have hv:=castD_vrep hy h4.1
     have hn:=solid_none hs hobs
     cases hm:memN d cx.mbx with
     | true =>
      rw [hm] at he
      simp only [cond_true,Option.some.injEq] at he
      subst he
      refine did_new (L:=⟨some w.heap.size,undef,[]⟩) (w':=w.alloc (.cells (a.eval x).cells T)) (v:=.pointer (some ⟨w.heap.size,0,none⟩)) h (fz:=fz) h1 hn (ext_alloc _ _) (fun b hb=>by cases one_blk hb;exact Nat.le_refl _) rfl ?_ ?_ (.inl ⟨_,rfl,inP_nil t,?_,rfl,rfl⟩)
      ·simp [execOp,hop,Instr.box,newVar,newRow]
      ·intro ht hc
       exact ⟨_,_,T,rfl,by rw [Array.toArray_toList];exact heap_alloc_new _ _,hv.cells.1.tr ht⟩
      ·simp [obPos,offP_nil]
     | false =>
      rw [hm] at he
      simp only [cond_false,Option.some.injEq] at he
      subst he
      obtain ⟨g1,g2⟩:=h1.grow (ext_alloc w (.cells (a.eval x).cells T))
      refine ⟨.pointer (some ⟨w.heap.size,0,none⟩),w.alloc (.cells (a.eval x).cells T),β,?_,g1,⟨_,⟨_,0,_,rfl,⟨?_,?_⟩,hv.cells.1.tr g2,(a.eval x).cells,T,(0,0),heap_alloc_new _ _,?_⟩,rfl⟩⟩
      ·simp [execOp,hop,Instr.box,newVar,newRow]
      ·show w.heap.size<(w.heap.push _).size
       rw [Array.size_push];omega
      ·intro hm
       exact absurd (h1.mset_lt hm) (by omega)
      ·intro j v hj
       simpa using hj
    ·cases he
   ·cases he
end
end Go.Sx
/-
 The symbolic layer,part 14: composites.
-/
namespace Go.Sx
theorem places_of {P:Program} {ty:Nat→Option Ty} {el:Nat→Nat} (hty:∀ T t,ty T=some t→TyF P ty el T t):∀ {fs:List Field} {ts:List Ty} {o:Nat},fieldsAre ty fs ts o=true →
  ∃ places:List (Nat × Nat),fs.mapM (fun f=>(P.info? f.type).map fun i=>(f.offset,i.size))=some places∧∀ (k:Nat) (f:Field) (tf:Ty),fs[k]?=some f→ty f.type=some tf→places[k]?=some (f.offset,tf.n)
 | [],[],_,_=>⟨[],rfl,fun k f tf h=>by simp at h⟩
 | f::fs,t::ts,o,h=>by
  simp only [fieldsAre,Bool.and_eq_true] at h
  obtain ⟨h1,_,_,_,h2⟩:=h
  obtain ⟨pl,g1,g2⟩:=places_of hty h2
  have ht:=tyIs_eq h1
  obtain ⟨i,_,hi,_,hsz,_⟩:=(hty _ _ ht).info
  refine ⟨(f.offset,t.n)::pl,?_,?_⟩
  ·simp [List.mapM_cons,hi,g1,hsz]
  ·intro k f' tf hk htf
   cases k with
   | zero =>
    simp only [List.getElem?_cons_zero,Option.some.injEq] at hk
    subst hk
    rw [ht] at htf;cases htf
    rfl
   | succ k=>simpa using g2 k f' tf (by simpa using hk) htf
 | [],_::_,_,h=>by cases h
 | _::_,[],_,h=>by cases h
theorem parts_rep {P:Program} {w:World} {M:Nat→Prop}:∀ {ps:List (Nat × Operand)} {us:List Value} {vs:List Dv} {ρ:Operand→Value},us=ps.map (fun x=>ρ x.2)→All2 (fun (u:Value) (d:Dv)=>VRep P d.t w M u d.x) us vs →
  All2 (fun (u:Nat × Value) (p:Nat × Dv)=>u.1=p.1∧VRep P p.2.t w M u.2 p.2.x) (ps.map fun x=>(x.1,ρ x.2)) ((ps.map (·.1)).zip vs)
 | [],us,vs,ρ,hu,h=>by
  subst hu
  cases vs with
  | nil=>trivial
  | cons _ _=>exact h.elim
 | p::ps,us,vs,ρ,hu,h=>by
  subst hu
  cases vs with
  | nil=>exact h.elim
  | cons v vs=>exact ⟨⟨rfl,h.1⟩,parts_rep rfl h.2⟩
section
variable {K:Ctx} {s:ASt} {a:Act} {w w':World} {β:Nat→Loc} {cx:Cx} {g:List (Nat × Bool)} {o:Oper} {e:Eff} {d:Nat}
theorem evs_rep (h:RelB K s a w β) (hg:Hold a g):∀ ps:List (Nat × Operand),All2 (AVRep K.P s β w (Mset K.Mg s β)) (ps.map fun x=>ev cx s g 0 x.2) (ps.map fun x=>a.eval x.2)
 | []=>trivial
 | p::ps=>⟨ev_rep h hg 0 p.2,evs_rep h hg ps⟩
theorem arr_place {n:Nat} {t:Ty} (k:Nat) (q:List Stp) (h:partPath (.arr n t) k=some q):inP (.arr n t) q∧∃ off tf,offP (.arr n t) q=some (off,tf)∧(some (k*t.n,t.n):Option (Nat × Nat))=some (off,tf.n):=by
 simp only [partPath] at h
 cases hb:Nat.ble (k+1) n with
 | false=>rw [hb] at h;cases h
 | true =>
  rw [hb] at h
  simp only [cond_true,Option.some.injEq] at h
  subst h
  refine ⟨⟨Nat.le_of_ble_eq_true hb,inP_nil t⟩,k*t.n,t,?_,rfl⟩
  simp [offP,offP_nil]
theorem pack_cells {t:Ty} {cs:List Value} {P:Program} {w:World} {M:Nat→Prop} {x:t.D} (h:Rep P t w M cs x):(pack t cs).cells=cs.toArray:=by
 cases ha:t.agg with
 | true=>simp [pack,ha,Value.cells]
 | false =>
  obtain ⟨v,rfl,hv,_⟩:=h.single ha
  simp only [pack,ha,cond_false,List.headD_cons,hv]
theorem did_build (hcx:CxOk K.P cx) (h:RelB K s a w β) (hg:Hold a g) {T:TypeId} {ps:Array (Nat × Operand)} (hop:o.op=.build T ps) (hd:o.dst=some d) (hnh:memN d cx.hld=false) (he:eff0 cx s g o=some e):Did K s a w o e:=by
 simp only [eff0,hop,hd] at he
 rw [hnh,cond_false] at he
 split at he
 ·rename_i t z vs ids fz hz hs
  split at he
  ·rename_i y hy
   cases hag:t.agg with
   | false=>rw [hag] at he;cases he
   | true =>
   rw [hag] at he
   simp only [cond_true,Option.some.injEq] at he
   subst he
   unfold zeroOf at hz
   split at hz
   ·rename_i t' hT
    cases hzo:t'.zOk with
    | false=>rw [hzo] at hz;cases hz
    | true =>
     rw [hzo] at hz
     simp only [cond_true,Option.some.injEq,Dv.mk.injEq] at hz
     obtain ⟨rfl,hz⟩:=hz
     have hz:=eq_of_heq hz
     subst hz
     obtain ⟨h1,h2,h3,h4⟩:=solid_rep hcx h hs (evs_rep h hg ps.toList)
     have hp:=parts_rep (ρ:=a.eval) rfl h4
     have hzr:=zc_rep (P:=K.P) t' w (Mset K.Mg (after s fz) β) hzo
     have htf:=hcx.ty T t' hT
     have hcl:=pack_cells hzr
     obtain ⟨it,dd,i1,i2,i3,i4,i5,i6,i7,_⟩:=htf.info
     have hzr':Rep K.P t' w (Mset K.Mg (after s fz) β) (pack t' (zc t')).cells.toList t'.z:=by rw [hcl];exact hzr
     have key:∃ cs',K.P.built T (ps.toList.map fun x=>(x.1,a.eval x.2))=some cs'∧Rep K.P t' w (Mset K.Mg (after s fz) β) cs'.toList y:=by
      cases t' with
      | st sp =>
       have hu:∃ fs:Array Field,dd=.struct fs:=by cases dd<;>simp [descIs] at i7<;>exact ⟨_,rfl⟩
       obtain ⟨fs,rfl⟩:=hu
       obtain ⟨pl,p1,p2⟩:=places_of hcx.ty (show fieldsAre cx.ty fs.toList (comps sp) 0=true from i7)
       obtain ⟨cs',c1,c2⟩:=fill_rep (place:=(pl.toArray[·]?)) (by
        intro k q hq
        obtain ⟨fs',f,tf,f1,f2,f3,f4,_,f6⟩:=field_facts htf hq
        rw [i2] at f1
        cases f1
        exact ⟨f6,_,tf,f3,by simpa using p2 k f tf (by simpa using f2) f4⟩) hp hzr' hy
       refine ⟨cs',?_,c2⟩
       unfold Program.built
       simp only [i1,i2,i6 hzo,p1]
       exact c1
      | arr n t =>
       have hu:∃ E,dd=.array n E∧cx.ty E=some t:=by
        cases dd<;>simp [descIs] at i7
        obtain ⟨j1,j2,_⟩:=i7
        subst j1
        exact ⟨_,rfl,tyIs_eq j2⟩
       obtain ⟨E,rfl,hE⟩:=hu
       obtain ⟨ie,_,e1,_,e2,_⟩:=(hcx.ty E t hE).info
       obtain ⟨cs',c1,c2⟩:=fill_rep (place:=fun i=>some (i*t.n,t.n)) (fun k q hq=>arr_place k q hq) hp hzr' hy
       refine ⟨cs',?_,c2⟩
       unfold Program.built
       simp only [i1,i2,i6 hzo,e1,e2]
       exact c1
      | _=>cases dd<;>simp [descIs,Ty.agg] at i7 hag
     obtain ⟨cs',k1,k2⟩:=key
     refine ⟨.agg cs',w,β,?_,h1,⟨_,k2,by simp [pack,hag]⟩⟩
     have:=run_build (P:=K.P) w T (ps.map fun x=>(x.1,a.eval x.2)) cs' (by simpa using k1)
     simp [execOp,hop,this]
   ·cases hz
  ·cases he
 ·cases he
theorem flat_rep_get {l:List Value} {k:Nat} (hk:l.length=k):∀ (n j:Nat),j<n*k→(List.replicate n l).flatten[j]?=l[j % k]?
 | 0,j,h=>by omega
 | n+1,j,h=>by
  rw [List.replicate_succ,List.flatten_cons]
  by_cases hj:j<k
  ·rw [List.getElem?_append_left (by omega),Nat.mod_eq_of_lt hj]
  ·rw [List.getElem?_append_right (by omega),hk,flat_rep_get hk n (j - k) (by rw [Nat.add_mul] at h;omega),←Nat.mod_eq_sub_mod (by omega)]
theorem flat_rep_length {l:List Value} {k:Nat} (hk:l.length=k) (n:Nat):(List.replicate n l).flatten.length=n*k:=by
 rw [flatten_length (k:=k) (fun c hc=>by rw [(List.mem_replicate.1 hc).2];exact hk),List.length_replicate]
theorem made_list {l:List Value} {k:Nat} (hk:l.length=k) (n:Nat):(madeCells l.toArray (n*k)).toList=(List.replicate n l).flatten:=by
 apply List.ext_getElem?
 intro j
 by_cases hj:j<n*k
 ·rw [flat_rep_get hk n j hj]
  have hk0:0<k:=by
   rcases Nat.eq_zero_or_pos k with h | h
   ·rw [h] at hj;omega
   ·exact h
  have hm:=Nat.mod_lt j hk0
  simp only [madeCells,Array.toList_map,Array.toList_range,List.getElem?_map,List.getElem?_range hj,Option.map_some,List.size_toArray,hk]
  rw [getElem!_pos l.toArray (j % k) (by simpa [hk] using hm)]
  simp [List.getElem?_eq_getElem (show j % k<l.length by omega)]
 ·rw [List.getElem?_eq_none (by simp [size_madeCells];omega),List.getElem?_eq_none (by rw [flat_rep_length hk];omega)]
theorem maxLen_big:140737488355328≤maxLen:=by decide
theorem did_buildSlice (hcx:CxOk K.P cx) (h:RelB K s a w β) (hg:Hold a g) {T:TypeId} {n:Nat} {ps:Array (Nat × Operand)} (hop:o.op=.buildSlice T n ps) (hd:o.dst=some d) (he:eff0 cx s g o=some e):Did K s a w o e:=by
 simp only [eff0,hop,hd] at he
 split at he
 ·rename_i t vs ids fz hobs hT hs
  split at he
  ·rename_i y hy
   cases hz:(t.zOk&&Nat.ble (n*t.n) 16777216) with
   | false=>rw [hz] at he;cases he
   | true =>
    rw [hz] at he
    simp only [cond_true] at he
    simp only [Bool.and_eq_true] at hz
    obtain ⟨hz,hsm⟩:=hz
    have hsm:=Nat.le_of_ble_eq_true hsm
    obtain ⟨hu,hE,hn0⟩:=sl_facts (hcx.ty T _ hT)
    have hEf:=hcx.ty _ _ hE
    obtain ⟨ie,_,e1,_,e2,_,_,e3,_⟩:=hEf.info
    obtain ⟨h1,h2,h3,h4⟩:=solid_rep hcx h hs (evs_rep h hg ps.toList)
    have hp:=parts_rep (ρ:=a.eval) rfl h4
    have hzr:=zc_rep (P:=K.P) t w (Mset K.Mg (after s fz) β) hz
    have hcl:=pack_cells hzr
    have hlen:=hzr.length
    have hml:=made_list hlen n
    have hr0:Rep K.P (.arr n t) w (Mset K.Mg (after s fz) β) (madeCells (zc t).toArray (n*t.n)).toList (Z.rep n t.z):=by
     rw [hml]
     exact ⟨List.replicate n (zc t),rfl,All2.replicate hzr n,by simp [Z.rep]⟩
    obtain ⟨cs',c1,c2⟩:=fill_rep (place:=fun i=>some (i*t.n,t.n)) (fun k q hq=>arr_place k q hq) hp hr0 hy
    have hcl':=c2.length
    obtain ⟨vss,v1,v2,v3⟩:=c2
    have hn:=solid_none hs hobs
    have hnle:n≤16777216:=Nat.le_trans (Nat.le_mul_of_pos_right n (by omega)) hsm
    have hex:(execOp a.eval o).run K.P w=.ok (.value (.slice (some ⟨w.heap.size,0,none⟩) n n)) (w.alloc (.cells cs' (cx.el T))):=by
     by_cases h0:n*t.n=0
     ·have hc0:madeCells (zc t).toArray (n*t.n)=#[]:=by rw [h0];exact Array.eq_empty_of_size_eq_zero (size_madeCells _ _)
      rw [hc0] at c1
      simp [execOp,hop,Instr.buildSlice,run_underlying hu,sizeOf,typeInfo,e1,e2,h0,newRow,Array.range_zero',c1]
     ·have:=run_buildSlice (P:=K.P) w T (cx.el T) n (ps.map fun x=>(x.1,a.eval x.2)) cs' ie (pack t (zc t)) hu e1 (e3 hz) (by rw [e2];omega) (by rw [e2];exact h0) (by
       rw [e2,hcl]
       simpa [madeCells] using c1)
      simp [execOp,hop,this]
    cases hgi:g.isEmpty with
    | true =>
     rw [hgi] at he
     simp only [cond_true,Option.some.injEq] at he
     subst he
     refine did_new (L:=⟨some w.heap.size,.slice (some ⟨w.heap.size,0,none⟩) n n,[]⟩) (w':=w.alloc (.cells cs' (cx.el T))) (v:=.slice (some ⟨w.heap.size,0,none⟩) n n) h (fz:=fz) h1 hn (ext_alloc _ _) (fun b hb=>by cases one_blk hb;exact Nat.le_refl _) rfl hex ?_ (.inr (.inl ⟨rfl,rfl,rfl⟩))
     intro ht hc
     refine ⟨?_,rfl,vss,v2.mono fun _ _ h=>h.tr ht,?_,.inr ⟨_,n,cs',?_,Nat.zero_le _,heap_alloc_new _ _,?_,?_,?_,?_⟩⟩
     ·show (y:List t.D).length≤_
      rw [v3];omega
     ·show _=(y:List t.D).length*_
      rw [←v1,v3];exact hcl'
     ·show _=Value.slice _ (y:List t.D).length _
      rw [v3]
     ·show (y:List t.D).length≤_
      rw [v3];exact Nat.le_refl _
     ·have:=maxLen_big;omega
     ·simpa [Ty.n] using hcl'
     ·show List.take ((y:List t.D).length*_) _=_
      rw [v3,←v1]
      have:cs'.toList.length=n*t.n:=hcl'
      rw [←this,List.take_length]
    | false =>
     rw [hgi] at he
     simp only [cond_false,Option.some.injEq] at he
     subst he
     obtain ⟨g1,g2⟩:=h1.grow (ext_alloc w (.cells cs' (cx.el T)))
     refine ⟨_,_,β,hex,g1,⟨_,⟨some ⟨w.heap.size,0,none⟩,n,rfl,?_,.inr ⟨w.heap.size,0,vss,rfl,⟨?_,?_⟩,v2.mono fun _ _ h=>h.tr g2,cs',cx.el T,(0,0),heap_alloc_new _ _,?_⟩⟩,?_⟩⟩
     ·show (y:List t.D).length≤_
      rw [v3];omega
     ·show w.heap.size<(w.heap.push _).size
      rw [Array.size_push];omega
     ·intro hm
      exact absurd (h1.mset_lt hm) (by omega)
     ·intro j v hj
      rw [←v1] at hj
      simpa using hj
     ·show Value.slice _ n n=pack (.sl t) [Value.slice _ (y:List t.D).length n]
      rw [v3]
      rfl
  ·cases he
 ·cases he
theorem take_flat_rep {l:List Value} {k:Nat} (hk:l.length=k) {n m:Nat} (h:n≤m):(List.replicate m l).flatten.take (n*k)=(List.replicate n l).flatten:=by
 have:m=n+(m - n):=by omega
 rw [this,←List.replicate_append_replicate,List.flatten_append,List.take_left' (flat_rep_length hk n)]
theorem roomy_bytes {b c:Nat} {n:Int} (h0:0≤n) (hb:b≤24*c+8) (h:Z.roomy (c:Int) n):(b:Int)*n≤140737488355328:=by
 have h1:(b:Int)*n≤(24*(c:Int)+8)*n:=Int.mul_le_mul_of_nonneg_right (by omega) h0
 have h2:(24*(c:Int)+8)*n≤140737488355328:=by rw [Int.mul_comm];exact h
 omega
theorem roomy_le {c:Nat} {n:Int} (h0:0≤n) (h:Z.roomy (c:Int) n):n≤17592186044416:=by
 have h1:n*8≤n*(24*(c:Int)+8):=Int.mul_le_mul_of_nonneg_left (by omega) h0
 have h2:n*(24*(c:Int)+8)≤140737488355328:=h
 omega
theorem did_makeSlice (hcx:CxOk K.P cx) (h:RelB K s a w β) (hg:Hold a g) {T:TypeId} {x y:Operand} (hop:o.op=.makeSlice T x y) (hd:o.dst=some d) (he:eff0 cx s g o=some e) (hob:∀ r,e.obl=some r→r):Did K s a w o e:=by
 have hx:=ev_rep (cx:=cx) h hg 0 x
 have hy:=ev_rep (cx:=cx) h hg 0 y
 simp only [eff0,hop,hd] at he
 split at he
 ·rename_i t n m hobs hT hn hm
  rw [hn] at hx;rw [hm] at hy
  obtain ⟨ex,_,_⟩:=int_val hx
  obtain ⟨ey,_,_⟩:=int_val hy
  cases hz:t.zOk with
  | false=>rw [hz] at he;cases he
  | true =>
   rw [hz] at he
   simp only [cond_true,Option.some.injEq] at he
   subst he
   obtain ⟨⟨hn0,hnm⟩,hroom⟩:=hob _ rfl
   have hn0:(0:Int)≤n:=hn0
   have hnm:(n:Int)≤m:=hnm
   have hroom:Z.roomy (t.n:Int) m:=hroom
   obtain ⟨hu,hE,hk0⟩:=sl_facts (hcx.ty T _ hT)
   have hEf:=hcx.ty _ _ hE
   obtain ⟨ie,_,e1,_,e2,eb,_,e3,_⟩:=hEf.info
   have hm0:(0:Int)≤m:=Int.le_trans hn0 hnm
   have hb:=roomy_bytes hm0 eb hroom
   have hle:=roomy_le hm0 hroom
   have hzr:=zc_rep (P:=K.P) t w (Mset K.Mg s β) hz
   have hcl:=pack_cells hzr
   have hlen:=hzr.length
   have hrun:=run_make (P:=K.P) w T (cx.el T) ie (pack t (zc t)) hu e1 (e3 hz) .i64 .i64 n m hn0 hnm (by omega) (by omega)
   have hnn:Int.toNat n≤Int.toNat m:=by omega
   have hml:=made_list hlen (Int.toNat m)
   refine did_new (L:=⟨some w.heap.size,.slice (some ⟨w.heap.size,0,none⟩) (Int.toNat n) (Int.toNat m),[]⟩) (w':=w.alloc (.cells (madeCells (pack t (zc t)).cells (Int.toNat m*ie.size)) (cx.el T))) (v:=.slice (some ⟨w.heap.size,0,none⟩) (Int.toNat n) (Int.toNat m)) h (fz:=[]) h hobs (ext_alloc _ _) (fun b hb=>by cases one_blk hb;exact Nat.le_refl _) rfl ?_ ?_ (.inr (.inl ⟨rfl,rfl,rfl⟩))
   ·simp [execOp,hop,ex,ey,hrun]
   ·intro ht hc
    have hzl:(Z.rep (Z.nat n) t.z).length=Int.toNat n:=by simp [Z.rep,Z.nat]
    refine ⟨?_,rfl,List.replicate (Int.toNat n) (zc t),All2.replicate (hzr.tr ht) _,?_,.inr ⟨_,Int.toNat m,_,?_,Nat.zero_le _,heap_alloc_new _ _,?_,?_,?_,?_⟩⟩
    ·show (Z.rep (Z.nat n) t.z).length≤_
     rw [hzl];omega
    ·show _=(Z.rep (Z.nat n) t.z).length*_
     rw [hzl,flat_rep_length hlen]
    ·show _=Value.slice _ (Z.rep (Z.nat n) t.z).length _
     rw [hzl]
    ·show (Z.rep (Z.nat n) t.z).length≤_
     rw [hzl];exact hnn
    ·have:=maxLen_big;omega
    ·rw [size_madeCells,e2]
    ·show List.take ((Z.rep (Z.nat n) t.z).length*_) _=_
     rw [hzl,e2,hcl,hml,take_flat_rep hlen hnn]
 ·cases he
end
end Go.Sx
/-
 The symbolic layer,part 15: slices of slices,lengths,appending,storing.
-/
namespace Go.Sx
theorem flatten_take {k:Nat}:∀ {vss:List (List Value)} (n:Nat),(∀ c∈vss,c.length=k)→(vss.take n).flatten=vss.flatten.take (n*k)
 | [],n,_=>by simp
 | c::l,0,_=>by simp
 | c::l,n+1,h=>by
  have h1:=flatten_take (k:=k) (vss:=l) n fun c hc=>h c (List.mem_cons_of_mem _ hc)
  have h2:=h c List.mem_cons_self
  rw [List.take_succ_cons,List.flatten_cons,List.flatten_cons,h1,Nat.add_mul,Nat.one_mul,Nat.add_comm (n*k),←h2,List.take_length_add_append]
theorem flatten_drop {k:Nat}:∀ {vss:List (List Value)} (n:Nat),(∀ c∈vss,c.length=k)→(vss.drop n).flatten=vss.flatten.drop (n*k)
 | [],n,_=>by simp
 | c::l,0,_=>by simp
 | c::l,n+1,h=>by
  have h1:=flatten_drop (k:=k) (vss:=l) n fun c hc=>h c (List.mem_cons_of_mem _ hc)
  have h2:=h c List.mem_cons_self
  rw [List.drop_succ_cons,List.flatten_cons,h1,Nat.add_mul,Nat.one_mul,Nat.add_comm (n*k),←h2,List.drop_length_add_append]
theorem sliced_rep {P:Program} {t:Ty} {w:World} {M:Nat→Prop} {ad:Option Addr} {cap:Nat} {l:List t.D} (hcap:l.length≤min cap 140737488355328)
  (h:l=[]∨∃ b off vss,ad=some ⟨b,off,none⟩∧St w M b∧All2 (Rep P t w M) vss l∧Cells w b off vss.flatten) {i j:Nat} (hij:i≤j) (hj:j≤l.length) :
  VRep P (.sl t) w M (.slice (if cap=i then ad else ad.map (·.add (i*t.n))) (j - i) (cap - i)) ((l.take j).drop i):=by
 have hlen:((l.take j).drop i).length=j - i:=by simp;omega
 refine ⟨[.slice (if cap=i then ad else ad.map (·.add (i*t.n))) (j - i) (cap - i)],⟨(if cap=i then ad else ad.map (·.add (i*t.n))),cap - i,by rw [hlen],by omega,?_⟩,rfl⟩
 by_cases he:j=i
 ·left
  apply List.eq_nil_of_length_eq_zero
  omega
 ·right
  rcases h with h | ⟨b,off,vss,rfl,hst,hvs,hc⟩
  ·rw [h] at hj;simp at hj;omega
  ·have hne:¬ cap=i:=by omega
   refine ⟨b,off+i*t.n,(vss.take j).drop i,by simp [hne,Addr.add_lit],hst,(hvs.take j).drop i,?_⟩
   have hk:=all2u_length hvs
   have hk':∀ c∈vss.take j,c.length=t.n:=fun c hc=>hk c (List.mem_of_mem_take hc)
   rw [flatten_drop i hk',flatten_take j hk]
   obtain ⟨c,e,z,h1,h2⟩:=hc
   refine ⟨c,e,z,h1,fun q v hq=>?_⟩
   rw [List.getElem?_drop,List.getElem?_take] at hq
   split at hq
   ·rw [Nat.add_assoc];exact h2 _ v hq
   ·cases hq
section
variable {K:Ctx} {s:ASt} {a:Act} {w w':World} {β:Nat→Loc} {cx:Cx} {g:List (Nat × Bool)} {o:Oper} {e:Eff} {d:Nat}
theorem optInt_rep (h:RelB K s a w β) (hg:Hold a g) {x:Option Operand} {r:Option Int} (hx:optInt cx s g x=some r):x.map a.eval=r.map (Value.int .i64):=by
 unfold optInt at hx
 split at hx
 ·cases hx;rfl
 ·rename_i y
  split at hx
  ·rename_i n hn
   cases hx
   have:=ev_rep (cx:=cx) h hg 0 y
   rw [asInt_eq hn] at this
   obtain ⟨e1,_,_⟩:=int_val this
   simp [e1]
  ·cases hx
theorem did_slice (hcx:CxOk K.P cx) (h:RelB K s a w β) (hg:Hold a g) {T:TypeId} {x:Operand} {lo hi:Option Operand} (hop:o.op=.slice T x lo hi none) (hd:o.dst=some d) (he:eff0 cx s g o=some e) (hob:∀ r,e.obl=some r→r):Did K s a w o e:=by
 have hx:=ev_rep (cx:=cx) h hg T x
 simp only [eff0,hop,hd] at he
 split at he
 ·rename_i p q hp hq
  have hp:=optInt_rep h hg hp
  have hq:=optInt_rep h hg hq
  rw [Bool.cond_eq_ite] at he
  split at he
  ·split at he
   ·rename_i i tt hT _ _
    obtain ⟨hu,hE,hk0⟩:=sl_facts (hcx.ty T _ hT)
    have hsz:=(hcx.ty _ _ hE).size
    generalize ev cx s g T x=ax at he hx
    have fin:∀ {ob:Nat} {obj:Ob} {gg off len cap:Nat},s.obs ob=some (some obj)→isRow obj=true→(β ob).hdr=.slice (some ⟨gg,off,none⟩) len cap→a.eval x=(β ob).hdr→1≤i→i≤(len:Int)→e.wr=[]→e.av=.sn ob (Z.nat i) d tt→Did K s a w o e:=by
     intro ob obj gg off len cap h1 h2 h3 ex i0 i1 hw hav
     have hadd:(⟨gg,off,none⟩:Addr).add (i.toNat*tt.n)=⟨gg,off+i.toNat*tt.n,none⟩:=Addr.add_lit _ _ _
     refine did_pure (v:=.slice (if cap=i.toNat then some ⟨gg,off,none⟩ else some ⟨gg,off+i.toNat*tt.n,none⟩) (len - i.toNat) (cap - i.toNat)) h hw ?_ ?_
     ·rw [h3] at ex
      have i00:(0:Int)≤i:=by omega
      have hr:(Instr.sliceAt T (a.eval x) (lo.map a.eval) (hi.map a.eval) none).run K.P w=.ok (.slice (if cap=i.toNat then some ⟨gg,off,none⟩ else some ⟨gg,off+i.toNat*tt.n,none⟩) (len - i.toNat) (cap - i.toNat)) w:=by
       rw [hp,hq,ex]
       simp [Instr.sliceAt,Instr.slice,run_underlying hu,Instr.sliceBounds,hsz,run_sliceBound,i00,i1,hadd]
      simp [execOp,hop,hr]
     ·rw [hav]
      simp only [AVRep,h1]
      exact ⟨h2,gg,off,len,cap,h3,by show i.toNat≤len;omega,rfl⟩
    unfold sliceQ at he
    split at he
    ·rename_i ob
     simp only [AVRep,SVRep] at hx
     split at he
     ·rename_i e₁ t l hobj hd0
      obtain ⟨hc,he⟩:=cond_some he
      subst he
      have:=Ty.beq_eq hc
      subst this
      rw [hobj] at hx
      obtain ⟨i0,i1,i2⟩:=hob _ rfl
      have i2:i≤(l.length:Int):=i2
      obtain ⟨_,_,_,_,hown⟩:=h.ob _ _ hobj
      rcases hown.2 with ⟨e1,e2⟩ | ⟨gg,cap,cur,e1,_⟩
      ·omega
      ·exact fin hobj rfl e1 hx.2 i1 i2 rfl rfl
     ·rename_i e₁ t l hobj hd0
      obtain ⟨hc,he⟩:=cond_some he
      subst he
      have:=Ty.beq_eq hc
      subst this
      rw [hobj] at hx
      obtain ⟨i0,i1,i2⟩:=hob _ rfl
      have i2:i≤(l.length:Int):=i2
      obtain ⟨_,_,_,_,_,hown⟩:=h.ob _ _ hobj
      rcases hown.2 with ⟨e1,e2⟩ | ⟨gg,cap,cur,e1,_⟩
      ·omega
      ·exact fin hobj rfl e1 hx.2 i1 i2 rfl rfl
     ·cases he
    ·cases he
   ·cases he
  unfold sliceEff at he
  split at he
  ·rename_i t w₀ ids fz hT hs
   obtain ⟨hu,hE,hk0⟩:=sl_facts (hcx.ty T _ hT)
   have hsz:=(hcx.ty _ _ hE).size
   obtain ⟨h1,h2,h3,h4⟩:=solid_rep hcx h hs (us:=[a.eval x]) ⟨hx,trivial⟩
   split at he
   ·rename_i l hl
    obtain ⟨ad,cap,ex,hcap,hm⟩:=sl_val (castD_vrep hl h4.1)
    have fin:∀ (i j:Nat) (r:List t.D),i≤j→j≤(l:List t.D).length→r=((l:List t.D).take j).drop i→e.wr=fz→e.av=.s (.d (.sl t) r) →
      (Instr.sliceAt T (a.eval x) (lo.map a.eval) (hi.map a.eval) none).run K.P w=.ok (.slice (if cap=i then ad else ad.map (·.add (i*t.n))) (j - i) (cap - i)) w→Did K s a w o e:=by
     intro i j r hij hj hr hwr hav hrun
     refine ⟨.slice (if cap=i then ad else ad.map (·.add (i*t.n))) (j - i) (cap - i),w,β,?_,by rw [hwr];exact h1,?_⟩
     ·simp [execOp,hop,hrun]
     ·rw [hav,hwr,hr]
      exact sliced_rep hcap hm hij hj
    simp only at he
    rw [hp,hq,ex] at fin
    cases p with
    | none =>
     cases q with
     | none =>
      simp only [Option.some.injEq] at he
      refine fin 0 (l:List t.D).length l (Nat.zero_le _) (Nat.le_refl _) (by simp) (by rw [←he]) (by rw [←he]) ?_
      simp [Instr.sliceAt,Instr.slice,run_underlying hu,Instr.sliceBounds,hsz]
     | some j =>
      simp only [Option.some.injEq] at he
      obtain ⟨j0,j1⟩:=hob _ (by rw [←he])
      have j0:(0:Int)≤j:=j0
      have j1:j≤((l:List t.D).length:Int):=j1
      refine fin 0 j.toNat ((l:List t.D).take j.toNat) (Nat.zero_le _) (by omega) (by simp) (by rw [←he]) (by rw [←he]) ?_
      have:j≤(cap:Int):=by omega
      simp [Instr.sliceAt,Instr.slice,run_underlying hu,Instr.sliceBounds,hsz,run_sliceBound,j0,this]
    | some i =>
     cases q with
     | none =>
      simp only [Option.some.injEq] at he
      obtain ⟨i0,i1⟩:=hob _ (by rw [←he])
      have i0:(0:Int)≤i:=i0
      have i1:i≤((l:List t.D).length:Int):=i1
      refine fin i.toNat (l:List t.D).length ((l:List t.D).drop i.toNat) (by omega) (Nat.le_refl _) (by simp) (by rw [←he]) (by rw [←he]) ?_
      simp [Instr.sliceAt,Instr.slice,run_underlying hu,Instr.sliceBounds,hsz,run_sliceBound,i0,i1]
     | some j =>
      simp only [Option.some.injEq] at he
      obtain ⟨i0,i1,j1⟩:=hob _ (by rw [←he])
      have i0:(0:Int)≤i:=i0
      have i1:i≤j:=i1
      have j1:j≤((l:List t.D).length:Int):=j1
      refine fin i.toNat j.toNat (((l:List t.D).take j.toNat).drop i.toNat) (by omega) (by omega) rfl (by rw [←he]) (by rw [←he]) ?_
      have h5:j≤(cap:Int):=by omega
      have h6:(0:Int)≤j:=by omega
      have h8:=fun w=>run_sliceBound (P:=K.P) (w:=w) .i64 i j.toNat .sliceB i0 (by omega)
      simp [Instr.sliceAt,Instr.slice,run_underlying hu,Instr.sliceBounds,hsz,run_sliceBound,h5,h6,h8]
   ·cases he
  ·rename_i m t w₀ ids fz hT hs
   obtain ⟨E,hu,hE,hn0⟩:=arr_facts (hcx.ty T _ hT)
   have hsz:=(hcx.ty _ _ hE).size
   obtain ⟨h1,h2,h3,h4⟩:=solid_rep hcx h hs (us:=[a.eval x]) ⟨hx,trivial⟩
   split at he
   ·rename_i j l hl _ _
    obtain ⟨hc,he⟩:=cond_some he
    subst he
    have hb:=Nat.le_of_ble_eq_true hc
    obtain ⟨j0,j1⟩:=hob _ rfl
    have j0:(0:Int)≤j:=j0
    have j1:j≤(m:Int):=j1
    obtain ⟨b,off,vs,ex,hst,hr,hcl⟩:=ref_val (castD_vrep hl h4.1)
    obtain ⟨vss,rfl,hvs,hlen⟩:=hr
    have key:=sliced_rep (P:=K.P) (ad:=some ⟨b,off,none⟩) (cap:=m) (l:=(l:List t.D)) (by rw [hlen];omega) (.inr ⟨b,off,vss,rfl,hst,hvs,hcl⟩) (i:=0) (j:=j.toNat) (Nat.zero_le _) (by rw [hlen];omega)
    refine ⟨.slice (if m=0 then some ⟨b,off,none⟩ else (some (⟨b,off,none⟩:Addr)).map (·.add (0*t.n))) (j.toNat - 0) (m - 0),w,β,?_,h1,?_⟩
    ·have hr:(Instr.sliceAt T (a.eval x) (lo.map a.eval) (hi.map a.eval) none).run K.P w=.ok (.slice (if m=0 then some ⟨b,off,none⟩ else (some (⟨b,off,none⟩:Addr)).map (·.add (0*t.n))) (j.toNat - 0) (m - 0)) w:=by
      rw [hp,hq,ex]
      have h8:=fun w=>run_sliceBound (P:=K.P) (w:=w) .i64 j m .sliceAlen j0 j1
      simp [Instr.sliceAt,run_underlying hu,Instr.sureAddr,Instr.sliceBounds,hsz,h8,Addr.add_lit]
     simp [execOp,hop,hr]
    ·exact key
   ·cases he
  ·cases he
 ·cases he
theorem open_live {x:AV} {q:Nat} (h:q∈x.open? s):∃ ob,s.obs q=some (some ob):=by
 have key:∀ v:SV,q∈v.open? s→∃ ob,s.obs q=some (some ob):=by
  intro v hv
  cases v with
  | d t y=>cases hv
  | nl e t=>cases hv
  | mp o =>
   simp only [SV.open?] at hv
   split at hv<;>simp at hv
   subst hv;exact ⟨_,‹_›⟩
  | ptr o p =>
   simp only [SV.open?] at hv
   split at hv<;>simp at hv
   ·subst hv;exact ⟨_,‹_›⟩
   ·subst hv;exact ⟨_,‹_›⟩
  | os o =>
   simp only [SV.open?] at hv
   split at hv
   ·rw [List.mem_singleton] at hv;subst hv;exact ⟨_,‹_›⟩
   ·rw [List.mem_singleton] at hv;subst hv;exact ⟨_,‹_›⟩
   ·obtain ⟨ob,ho,_⟩:=rrOpen_mem hv;exact ⟨ob,ho⟩
 cases x with
 | un=>cases h
 | yl _=>cases h
 | mv _ _ _=>cases h
 | bm _ _=>cases h
 | ag _ _ _=>cases h
 | ex _=>cases h
 | sn _ _ _ _=>cases h
 | rqe _ _ _=>cases h
 | rie _ _ _ _ _=>cases h
 | ri _ _ _=>obtain ⟨ob,ho,_⟩:=rrOpen_mem h;exact ⟨ob,ho⟩
 | tup l=>cases h
 | s v=>exact key v h
 | clo f c =>
  obtain ⟨v,_,hv⟩:=List.mem_flatMap.1 h
  exact key v hv
theorem under_mg (h:RelB K s a w β) {l:List Nat} (hl:∀ q∈l,∃ ob,s.obs q=some (some ob)):Under s β K.Mg l K.Mg :=
 ⟨fun b hb=>.inl hb,fun q hq b hb hm=>by
  obtain ⟨ob,ho⟩:=hl q hq
  exact h.dis q ob b ho hb hm⟩
theorem args_rep (h:RelB K s a w β) (hg:Hold a g):∀ (xs:List Operand) (ts:List TypeId),All2 (AVRep K.P s β w (Mset K.Mg s β)) (argAVs (ev cx s g) xs ts) (xs.map a.eval)
 | [],_=>trivial
 | x::r,[]=>⟨ev_rep h hg 0 x,args_rep h hg r []⟩
 | x::r,t::ts=>⟨ev_rep h hg t x,args_rep h hg r ts⟩
theorem run_builtin {c:Call} {b:Builtin} (hop:o.op=.call c) (hb:c.callee=.builtin b) {v:Value} {w':World}
  (h:(builtin b c.argTypes o.type (c.args.map fun | .const _=>true | _=>false) (c.args.map a.eval)).run K.P w=.ok (.value v) w'):(execOp a.eval o).run K.P w=.ok (.value v) w':=by
 unfold execOp
 simp only [hop,resolve,hb,invoke,Sem.run_bind,Sem.run_pure,Result.andThen_ok]
 exact h
theorem ints_rep {M:Nat→Prop}:∀ {l:List AV} {us:List Value} {ns:List Int},All2 (AVRep K.P s β w M) l us→All2 (fun (x:AV) (n:Int)=>(match asInt x with | some (.i64,n)=>some n | _=>none)=some n) l ns →
  us=ns.map (Value.int .i64)∧∀ n∈ns,IntKind.i64.min≤n∧n≤IntKind.i64.max
 | [],[],[],_,_=>⟨rfl,fun n hn=>by cases hn⟩
 | x::l,u::us,n::ns,h,h'=>by
  obtain ⟨e1,e2⟩:=ints_rep h.2 h'.2
  have h1:=h.1
  have h2:=h'.1
  cases hx:asInt x with
  | none=>simp [hx] at h2
  | some p =>
   obtain ⟨k,m⟩:=p
   rw [asInt_eq hx] at h1
   obtain ⟨e3,e4,e5⟩:=int_val h1
   simp only [hx] at h2
   split at h2
   ·rename_i heq
    cases heq
    cases h2
    exact ⟨by rw [e1,e3];rfl,fun q hq=>by
     rcases List.mem_cons.1 hq with rfl | hq
     ·exact ⟨e4,e5⟩
     ·exact e2 q hq⟩
   ·cases h2
 | [],_::_,_,h,_=>h.elim
 | _::_,[],_,h,_=>h.elim
 | [],[],_::_,_,h=>h.elim
 | _::_,_::_,[],_,h=>h.elim
theorem run_maxs:∀ (ns:List Int) (n:Int) (w:World),((ns.map (Value.int .i64)).foldlM Builtin.max2 (Value.int .i64 n)).run K.P w=.ok (Value.int .i64 (ns.foldl Z.zmax n)) w
 | [],n,w=>by simp
 | m::ns,n,w=>by
  have e:(if m > n then m else n)=Z.zmax n m:=by simp only [Z.zmax];omega
  simp only [List.map_cons,List.foldlM_cons,Builtin.max2,Sem.run_bind,Sem.run_pure,Result.andThen_ok,List.foldl_cons,e]
  exact run_maxs ns _ w
theorem run_mins:∀ (ns:List Int) (n:Int) (w:World),((ns.map (Value.int .i64)).foldlM Builtin.min2 (Value.int .i64 n)).run K.P w=.ok (Value.int .i64 (ns.foldl Z.zmin n)) w
 | [],n,w=>by simp
 | m::ns,n,w=>by
  have e:(if m<n then m else n)=Z.zmin n m:=by simp only [Z.zmin];omega
  simp only [List.map_cons,List.foldlM_cons,Builtin.min2,Sem.run_bind,Sem.run_pure,Result.andThen_ok,List.foldl_cons,e]
  exact run_mins ns _ w
theorem fold_max {lo hi:Int}:∀ (ns:List Int) (n:Int),lo≤n∧n≤hi→(∀ m∈ns,lo≤m∧m≤hi)→lo≤ns.foldl Z.zmax n∧ns.foldl Z.zmax n≤hi
 | [],n,h,_=>h
 | m::ns,n,h,h'=>by
  have:=h' m List.mem_cons_self
  exact fold_max ns _ (by simp only [Z.zmax];omega) fun q hq=>h' q (List.mem_cons_of_mem _ hq)
theorem fold_min {lo hi:Int}:∀ (ns:List Int) (n:Int),lo≤n∧n≤hi→(∀ m∈ns,lo≤m∧m≤hi)→lo≤ns.foldl Z.zmin n∧ns.foldl Z.zmin n≤hi
 | [],n,h,_=>h
 | m::ns,n,h,h'=>by
  have:=h' m List.mem_cons_self
  exact fold_min ns _ (by simp only [Z.zmin];omega) fun q hq=>h' q (List.mem_cons_of_mem _ hq)
theorem did_maxmin (h:RelB K s a w β) (hg:Hold a g) {c:Call} {b:Builtin} (hop:o.op=.call c) (hb:c.callee=.builtin b) {l:List Int} {n:Int}
  (hl:optAll (fun v=>match asInt v with | some (.i64,n)=>some n | _=>none) (argAVs (ev cx s g) c.args.toList c.argTypes.toList)=some l)
  (hbn:(b=.max∧maxInt l=some n)∨(b=.min∧minInt l=some n)) (he:e=⟨none,.s (.d (.i .i64) n),[],[]⟩):Did K s a w o e:=by
 subst he
 obtain ⟨e1,e2⟩:=ints_rep (args_rep h hg c.args.toList c.argTypes.toList) (optAll_all2 hl)
 have e3:(c.args.map a.eval).toList=l.map (Value.int .i64):=by simpa using e1
 cases l with
 | nil=>rcases hbn with ⟨_,h⟩ | ⟨_,h⟩<;>cases h
 | cons m l =>
  rcases hbn with ⟨rfl,hn⟩ | ⟨rfl,hn⟩
  ·simp only [maxInt,Option.some.injEq] at hn
   subst hn
   obtain ⟨b1,b2⟩:=fold_max l m (e2 m List.mem_cons_self) fun q hq=>e2 q (List.mem_cons_of_mem _ hq)
   refine did_pure (v:=.int .i64 (l.foldl Z.zmax m)) h rfl (run_builtin hop hb ?_) (mk_int b1 b2)
   simp only [builtin,Builtin.max_,e3,List.map_cons,Sem.run_bind,run_maxs,Result.andThen_ok,Sem.run_pure]
  ·simp only [minInt,Option.some.injEq] at hn
   subst hn
   obtain ⟨b1,b2⟩:=fold_min l m (e2 m List.mem_cons_self) fun q hq=>e2 q (List.mem_cons_of_mem _ hq)
   refine did_pure (v:=.int .i64 (l.foldl Z.zmin m)) h rfl (run_builtin hop hb ?_) (mk_int b1 b2)
   simp only [builtin,Builtin.min_,e3,List.map_cons,Sem.run_bind,run_mins,Result.andThen_ok,Sem.run_pure]
theorem argAVs_one {E:TypeId→Operand→AV} {xs:List Operand} {ts:List TypeId} {x:AV} (h:argAVs E xs ts=[x]):∃ y,xs=[y]:=by
 cases xs with
 | nil=>cases h
 | cons y r =>
  cases r with
  | nil=>exact ⟨y,rfl⟩
  | cons z r=>cases ts with
   | nil=>cases h
   | cons t ts=>cases ts<;>cases h
theorem did_len (hcx:CxOk K.P cx) (h:RelB K s a w β) (hg:Hold a g) {c:Call} (hop:o.op=.call c) (hb:c.callee=.builtin .len) {x:AV} {t t':Ty} {l:List t.D} {T:TypeId} {ids:List Nat}
  (hx:argAVs (ev cx s g) c.args.toList c.argTypes.toList=[x]) (hts:c.argTypes.toList=[T]) (hv:x.dv cx s=some ⟨.sl t,l⟩) (hT:cx.ty T=some (.sl t')) (he:e=⟨none,.s (.d (.i .i64) (Z.len l)),ids,[]⟩):Did K s a w o e:=by
 subst he
 have hr:=args_rep (cx:=cx) h hg c.args.toList c.argTypes.toList
 obtain ⟨y,hy⟩:=argAVs_one hx
 rw [hx,hy] at hr
 have hd:=AV.dv_rep hcx h hr.1 hv (under_mg h fun q hq=>open_live hq)
 obtain ⟨ad,cap,ex,hle,_⟩:=sl_val hd
 obtain ⟨hu,_⟩:=sl_facts (hcx.ty T _ hT)
 have ea:c.args=#[y]:=by apply Array.ext';simpa using hy
 have et:c.argTypes=#[T]:=by apply Array.ext';simpa using hts
 have b1:(-9223372036854775808:Int)≤(l.length:Int):=by omega
 have b2:(l.length:Int)≤9223372036854775807:=by
  have hle:l.length≤min cap 140737488355328:=hle
  omega
 refine did_pure (v:=.int .i64 (l.length:Int)) h rfl (run_builtin hop hb ?_) (mk_int b1 b2)
 rw [ea,et]
 simp [builtin,Builtin.len_,run_underlying hu,ex,goInt]
end
end Go.Sx
/-
 The symbolic layer,part 16: appending and storing.
-/
namespace Go.Sx
theorem run_append_src {P:Program} (w:World) (t ty e:TypeId) (i:TypeInfo) (z:Value) (size:Nat) (ht:P.underlying t=some (.slice e)) (hi:P.info? e=some i) (hz:i.zero=some z)
  (hsize:i.size=size) (hzs:z.cells.size=size)
  (v:Value) (n:Nat) (xs:List Value) (hown:w.ownsRow 0 e size v n xs)
  (ad:Option Addr) (m c:Nat) (news:List Value) (hl:news.length=m*size) (hsrc:m=0∨∃ a,ad=some a∧∀ j u,news[j]?=some u→w.cell? (a.add j)=some u) (h1:∀ u∈news,u.oneCell'=true)
  (h63:n+m≤maxLen) (hbytes:(n+m)*i.bytes≤140737488355328) :
  ∃ v' w',(Builtin.append_ #[t,t] ty #[v,.slice ad m c]).run P w=.ok v' w'∧w'.ownsRow 0 e size v' (n+m) (xs++news)∧Ext (fun b=>v.ownBlock=some b) w w' ∧
   ∀ b,v'.ownBlock=some b→v.ownBlock=some b∨w.heap.size≤b:=by
 subst hsize
 have hsmall:n+m≤9223372036854775807:=by simp only [maxLen] at h63;omega
 have hlen:(xs++news).length=(n+m)*i.size:=by rw [List.length_append,hown.1,hl,Nat.add_mul]
 have grown:∀ (old:Nat),old<n+m →
   (w.drew.alloc (.cells (xs.toArray++news.toArray++Builtin.zeroCells z.cells (grownCap w (n+m) old e - (n+m))) e)).ownsRow 0 e i.size
    (.slice (some ⟨w.heap.size,0,none⟩) (n+m) (grownCap w (n+m) old e)) (n+m) (xs++news):=by
  intro old ho
  have hge:=grownCap_ge w (n+m) old e
  have hcm:grownCap w (n+m) old e≤maxLen:=grownCap_le_maxLen w (n+m) old e h63
  refine ⟨hlen,.inr ⟨w.heap.size,_,_,rfl,Nat.zero_le _,heap_alloc_new w.drew _,hge,hcm,?_,?_⟩⟩
  ·simp only [Array.size_append,List.size_toArray,size_zeroCells,hzs,hown.1,hl,←Nat.add_mul]
   congr 1
   omega
  ·simp only [Array.toList_append,List.append_assoc]
   rw [←List.append_assoc,←hlen]
   exact List.take_left
 have hext:∀ (M:Nat→Prop) (ob:Obj),Ext M w (w.drew.alloc ob):=fun M ob=>((ext_drew w).trans (ext_alloc w.drew ob)).mono fun _ _ h=>h.elim
 by_cases hm:m=0
 ·subst hm
  have hn:news=[]:=List.eq_nil_of_length_eq_zero (by simpa using hl)
  subst hn
  rcases hown.2 with ⟨rfl,rfl⟩ | ⟨g,cap,cur,rfl,hbg,hg,hnc,hcm,hcs,htake⟩
  ·refine ⟨.slice none 0 0,w,?_,by simpa using hown,.refl _ _,fun b hb=>.inl hb⟩
   cases ad<;>simp [Builtin.append_,run_underlying ht,sizeOf,typeInfo,hi,Builtin.lenOf,Builtin.firstCells,loadCells,loadCellsFrom]
  ·refine ⟨.slice (some ⟨g,0,none⟩) n cap,w,?_,by simpa using hown,.refl _ _,fun b hb=>.inl hb⟩
   cases ad<;>simp [Builtin.append_,run_underlying ht,sizeOf,typeInfo,hi,Builtin.lenOf,Builtin.firstCells,loadCells,loadCellsFrom,hnc,storeCells]
 ·obtain ⟨a,rfl,hnews⟩:=hsrc.resolve_left hm
  rcases hown.2 with ⟨rfl,rfl⟩ | ⟨g,cap,cur,rfl,hbg,hg,hnc,hcm,hcs,htake⟩
  ·have hx:xs=[]:=List.eq_nil_of_length_eq_zero (by simpa using hown.1)
   subst hx
   have hr:=run_append_nil (P:=P) w t ty e i z ht hi hz a m c news hl hnews (by omega) (by omega) (by have hb:=hbytes;simp only [Nat.zero_add] at hb;omega)
   have hgr:=grown 0 (by omega)
   simp only [Nat.zero_add,List.nil_append,Array.empty_append] at hgr ⊢
   exact ⟨_,_,hr,hgr,hext _ _,fun b hb=>.inr (by cases hb;exact Nat.le_refl _)⟩
  ·by_cases hroom:n+m≤cap
   ·have hfit:n*i.size+news.length≤cur.size:=by rw [hl,hcs,←Nat.add_mul];exact Nat.mul_le_mul_right _ hroom
    have hr:=run_append_room (P:=P) w t ty e i ht hi g n cap cur hg a m c news hl hnews h1 hroom hfit
    refine ⟨_,_,hr,⟨hlen,.inr ⟨g,cap,_,rfl,hbg,setRow_heap w g cur _ e _ hg,hroom,hcm,?_,?_⟩⟩,⟨by simp,fun k _ hk=>setRow_other w g k _ (fun e=>hk (by simp [Value.ownBlock,e])),rfl,rfl⟩,fun b hb=>.inl hb⟩
    ·simp only [List.size_toArray,List.length_append,List.length_take,List.length_drop,Array.length_toList]
     omega
    ·rw [htake,←hlen]
     exact List.take_left
   ·have holds:∀ j u,xs[j]?=some u→w.cell? ((⟨g,0,none⟩:Addr).add j)=some u:=hown.cells (g:=g) rfl
    have hr:=run_append_grow (P:=P) w t ty e i z ht hi hz ⟨g,0,none⟩ n cap xs hown.1 holds a m c news hl hnews (by omega) (by omega) (growslice_fits (by omega) hbytes)
    exact ⟨_,_,hr,grown cap (by omega),hext _ _,fun b hb=>.inr (by cases hb;exact Nat.le_refl _)⟩
section
variable {K:Ctx} {s:ASt} {a:Act} {w w':World} {β:Nat→Loc} {cx:Cx} {g:List (Nat × Bool)} {o:Oper} {e:Eff} {d:Nat}
theorem cloDv3u_ty {a b c r:Ty} {l:List Ty} {pre:Ds (a::b::c::l)→Prop} {val:Ds (a::b::c::l)→Ds [r]} {caps:List Dv} {v:Dv} (h:cloDv3 a b c r l pre val caps=some v) (t:Ty):v.t≠.sl t:=by
 unfold cloDv3 at h
 split at h
 ·cases h;simp
 ·cases h
 ·split at h
  ·cases h;simp
  ·cases h
theorem cloDv2u_ty {a b r:Ty} {l:List Ty} {pre:Ds (a::b::l)→Prop} {val:Ds (a::b::l)→Ds [r]} {caps:List Dv} {v:Dv} (h:cloDv2 a b r l pre val caps=some v) (t:Ty):v.t≠.sl t:=by
 unfold cloDv2 at h
 split at h
 ·cases h;simp
 ·cases h
 ·split at h
  ·cases h;simp
  ·exact cloDv3u_ty h t
theorem cond_opt {α:Type} {c:Bool} {x:Option α} {y:α} (h:cond c x none=some y):x=some y:=by cases c;cases h;exact h
theorem cloDv_ty {f:Nat} {c:List SV} {v:Dv} (h:cloDv cx s f c=some v) (t:Ty):v.t≠.sl t:=by
 unfold cloDv cloDvC at h
 split at h
 ·have h:=cond_opt h;cases h;simp
 ·have h:=cond_opt h
  split at h
  ·cases h;simp
  ·exact cloDv2u_ty h t
 ·cases h
theorem src_rep (hcx:CxOk K.P cx) (h:RelB K s a w β) {x:AV} {u:Value} {t:Ty} {l:List t.D} (hx:AVRep K.P s β w (Mset K.Mg s β) x u) (hd:x.dvA cx s=some ⟨.sl t,l⟩) :
  ∃ ad cap vss,u=.slice ad l.length cap∧l.length≤140737488355328∧All2 (Rep K.P t w (Mset K.Mg s β)) vss l∧(l.length=0∨∃ b,ad=some b∧∀ j v,vss.flatten[j]?=some v→w.cell? (b.add j)=some v):=by
 have direct:VRep K.P (.sl t) w (Mset K.Mg s β) u l→∃ ad cap vss,u=.slice ad l.length cap∧l.length≤140737488355328∧All2 (Rep K.P t w (Mset K.Mg s β)) vss l∧(l.length=0∨∃ b,ad=some b∧∀ j v,vss.flatten[j]?=some v→w.cell? (b.add j)=some v):=by
  intro hv
  obtain ⟨ad,cap,rfl,hle,hm⟩:=sl_val hv
  rcases hm with rfl | ⟨b,off,vss,rfl,hst,hvs,hc⟩
  ·exact ⟨ad,cap,[],rfl,by simp,trivial,.inl rfl⟩
  ·exact ⟨_,cap,vss,rfl,by omega,hvs,.inr ⟨_,rfl,fun j v hj=>by rw [Addr.add_lit];exact hc.cell hj⟩⟩
 have hop:openRr s x=false:=by
  unfold AV.dvA at hd
  cases ho:openRr s x with
  | false=>rfl
  | true=>rw [ho] at hd;cases hd
 have hd':x.dv cx s=some ⟨.sl t,l⟩:=by
  unfold AV.dvA at hd
  rw [hop] at hd;exact hd
 clear hd
 have hd:=hd'
 clear hd'
 cases x with
 | un=>cases hd
 | yl _=>cases hd
 | mv _ _ _=>cases hd
 | bm _ _=>cases hd
 | ag _ _ _=>cases hd
 | ex _=>cases hd
 | sn _ _ _ _=>cases hd
 | rqe _ _ _=>cases hd
 | rie _ _ _ _ _=>cases hd
 | ri o g i =>
  simp only [AV.dv] at hd
  split at hd
  ·rename_i f g' e e2 t' l' ho
   rw [Bool.cond_eq_ite] at hd
   split at hd
   ·rename_i hg
    have hg:=Nat.eq_of_beq_eq_true hg
    subst hg
    cases hd
    simp only [AVRep,ho] at hx
    obtain ⟨g₁,hg1,_,hx⟩:=hx
    have hg1:some g'=some g₁:=hg1
    cases hg1
    have hx:=hx rfl
    obtain ⟨⟨hfl,_⟩,_,_,_,_,hin⟩:=h.ob o _ ho
    obtain ⟨x,hx1,hlen,vss,hvs,hown⟩:=hin.getR hx
    have e0:Z.getD l' i []=x:=by simp [Z.getD,List.getD_eq_getElem?_getD,hx1]
    rw [e0]
    have hvs:=hvs.mono fun _ _ h=>Rep.flat (w':=w) (M':=Mset K.Mg s β) hfl h
    rcases hown.2 with ⟨e1,e2⟩ | ⟨gg,cap,cur,e1,_⟩
    ·refine ⟨none,0,vss,by rw [e1,e2],hlen,hvs,.inl e2⟩
    ·refine ⟨some ⟨gg,0,none⟩,cap,vss,e1,hlen,hvs,.inr ⟨_,rfl,hown.cells (by rw [e1];rfl)⟩⟩
   ·cases hd
  ·cases hd
 | tup l=>cases hd
 | clo f c =>
  simp only [AV.dv] at hd
  split at hd
  ·unfold iconDv at hd
   split at hd
   ·split at hd<;>cases hd
   ·cases hd
  ·exact absurd rfl (cloDv_ty hd t)
 | s x =>
  cases x with
  | d t' y=>cases hd;exact direct hx
  | mp o =>
   simp only [AV.dv,SV.dv] at hd
   split at hd<;>cases hd
  | nl e t' =>
   cases hd
   have:u=.slice none 0 0:=hx
   subst this
   exact ⟨none,0,[],rfl,by simp,trivial,.inl rfl⟩
  | ptr ob p =>
   simp only [AV.dv,SV.dv] at hd
   split at hd
   ·simp only [Option.map_eq_some_iff] at hd
    obtain ⟨_,_,hd⟩:=hd
    cases hd
   ·split at hd
    ·simp only [Option.map_eq_some_iff] at hd
     obtain ⟨_,_,hd⟩:=hd
     cases hd
    ·cases hd
   ·cases hd
  | os ob =>
   simp only [AV.dv,SV.dv] at hd
   simp only [AVRep,SVRep] at hx
   split at hd
   ·rename_i f e t' l' ho
    cases hd
    rw [ho] at hx
    obtain ⟨_,rfl⟩:=hx
    obtain ⟨hlen,hblk,vss,hvs,hown⟩:=h.ob _ _ ho
    rcases hown.2 with ⟨e1,e2⟩ | ⟨gg,cap,cur,e1,_⟩
    ·refine ⟨none,0,vss,by rw [e1,e2],hlen,hvs,.inl e2⟩
    ·refine ⟨some ⟨gg,0,none⟩,cap,vss,e1,hlen,hvs,.inr ⟨_,rfl,hown.cells (by rw [e1];rfl)⟩⟩
   ·rename_i f e t' l' ho
    cases hd
    rw [ho] at hx
    obtain ⟨_,rfl⟩:=hx
    obtain ⟨hlen,hblk,k,vss,hvs,hown⟩:=h.ob _ _ ho
    rcases hown.2 with ⟨e1,e2⟩ | ⟨gg,cap,cur,e1,e3,_,_,e5,e6⟩
    ·refine ⟨none,0,vss,by rw [e1,e2],hlen,hvs,.inl e2⟩
    ·refine ⟨some ⟨gg,k*t.n,none⟩,cap,vss,e1,hlen,hvs,.inr ⟨_,rfl,fun j v hj=>?_⟩⟩
     rw [Addr.add_lit,cell_of_row w gg _ cur _ (0,0) e3]
     rw [←e6] at hj
     have hlt:=(List.getElem?_eq_some_iff.1 hj).1
     rw [List.getElem?_take_of_lt (by simp at hlt;omega),List.getElem?_drop] at hj
     simpa using hj
   ·refine direct (rr_rep (v:=⟨.sl t,l⟩) h hx hd ⟨fun b hb=>hb,fun q hq=>?_⟩)
    simp only [openRr,Bool.not_eq_false',List.isEmpty_iff] at hop
    rw [hop] at hq;cases hq
theorem roomy_nat {b c n:Nat} (hb:b≤24*c+8) (h:Z.roomy (c:Int) (n:Int)):n*b≤140737488355328∧n≤17592186044416:=by
 have h1:=roomy_bytes (n:=(n:Int)) (by omega) hb h
 have h2:=roomy_le (n:=(n:Int)) (by omega) h
 refine ⟨?_,by omega⟩
 have h3:((n*b:Nat):Int)≤140737488355328:=by rw [Nat.mul_comm,Int.natCast_mul];exact h1
 omega
theorem argAVs_two {E:TypeId→Operand→AV} {xs:List Operand} {ts:List TypeId} {x y:AV} (h:argAVs E xs ts=[x,y]):∃ p q,xs=[p,q]:=by
 cases xs with
 | nil=>cases h
 | cons p r =>
  cases r with
  | nil=>cases ts<;>cases h
  | cons q r =>
   cases r with
   | nil=>exact ⟨p,q,rfl⟩
   | cons z r =>
    cases ts with
    | nil=>cases h
    | cons t ts=>cases ts with
     | nil=>cases h
     | cons t ts=>cases ts<;>cases h
theorem did_append (hcx:CxOk K.P cx) (h:RelB K s a w β) (hg:Hold a g) {c:Call} (hop:o.op=.call c) (hb:c.callee=.builtin .append) {x y:AV} {T T':TypeId}
  (hxs:argAVs (ev cx s g) c.args.toList c.argTypes.toList=[x,y]) (hts:c.argTypes.toList=[T,T']) (he:cond (Nat.beq T T') (appendEff cx s d T x y) none=some e) (hob:∀ r,e.obl=some r→r):Did K s a w o e:=by
 have hr:=args_rep (cx:=cx) h hg c.args.toList c.argTypes.toList
 obtain ⟨p,q,hy⟩:=argAVs_two hxs
 rw [hxs,hy] at hr
 obtain ⟨hr1,hr2,_⟩:=hr
 have ea:c.args=#[p,q]:=by apply Array.ext';simpa using hy
 cases hTT:Nat.beq T T' with
 | false=>rw [hTT] at he;cases he
 | true =>
 have:=Nat.eq_of_beq_eq_true hTT
 subst this
 rw [hTT] at he
 simp only [cond_true] at he
 have et:c.argTypes=#[T,T]:=by apply Array.ext';simpa using hts
 unfold appendEff at he
 split at he
 ·rename_i t ty' l₀ hT hdv
  split at he
  ·rename_i l' hl'
   obtain ⟨e1,e2⟩:=castD_some hl'
   subst e1
   have e2:l'=l₀:=e2
   subst e2
   obtain ⟨hu,hE,hn0⟩:=sl_facts (hcx.ty T _ hT)
   have hEf:=hcx.ty _ _ hE
   obtain ⟨ie,_,i1,_,i2,i3,_⟩:=hEf.info
   obtain ⟨ie',z,j1,j2,j3⟩:=hEf.zsz
   rw [i1] at j1
   cases j1
   obtain ⟨ad,cap,vss,eq1,_,hvs,hsrc⟩:=src_rep hcx h hr2 hdv
   have hfl:=flatten_length (all2u_length hvs)
   have hvl:=hvs.length
   have hone:∀ u∈vss.flatten,u.oneCell'=true:=by
    intro u hu
    obtain ⟨cs,hc1,hc2⟩:=List.mem_flatten.1 hu
    obtain ⟨i,hi⟩:=List.getElem?_of_mem hc1
    have:∀ {vss:List (List Value)} {l:List t.D},All2 (Rep K.P t w (Mset K.Mg s β)) vss l→∀ cs∈vss,∀ u∈cs,u.oneCell'=true:=by
     intro vss
     induction vss with
     | nil=>intro l _ cs hcs;cases hcs
     | cons c vss ih =>
      intro l hl cs hcs
      cases l with
      | nil=>exact hl.elim
      | cons y l =>
       rcases List.mem_cons.1 hcs with rfl | hcs
       ·exact hl.1.oneCells
       ·exact ih hl.2 cs hcs
    exact this hvs cs hc1 u hc2
   split at he
   ·cases he
   ·rename_i hobs
    split at he
    ·rename_i e₀ t₁
     cases hb0:Nat.beq e₀ (cx.el T) with
     | false=>rw [hb0] at he;cases he
     | true =>
     rw [hb0] at he
     simp only [cond_true,Option.some.injEq] at he
     subst he
     have hroom:=roomy_nat (n:=(l':List t.D).length) i3 (hob _ rfl)
     have ep:a.eval p=.slice none 0 0:=hr1
     obtain ⟨v',w',hrun,hown,hext,hblk⟩:=run_append_src (P:=K.P) w T o.type (cx.el T) ie z t.n hu i1 j2 i2 j3 (.slice none 0 0) 0 [] (World.ownsRow_nil _ _ _ _) ad (l':List t.D).length cap vss.flatten
      (by rw [hfl,hvl]) (by simpa using hsrc) hone (by have:=maxLen_big;omega) (by simpa using hroom.1)
     refine did_new (L:=⟨v'.ownBlock,v',[]⟩) (w':=w') (v:=v') h (fz:=[]) h hobs (hext.mono fun b _ hb=>by cases hb) (fun b hb=>(hblk b (one_blk hb)).resolve_left (by simp [Value.ownBlock])) rfl ?_ ?_ (.inr (.inl ⟨rfl,rfl,rfl⟩))
     ·refine run_builtin hop hb ?_
      rw [ea,et]
      simp only [builtin,List.map_toArray,List.map_cons,List.map_nil,ep,eq1,Sem.run_bind,hrun,Result.andThen_ok,Sem.run_pure]
     ·intro ht hc
      exact ⟨by show (l':List t.D).length≤_;omega,rfl,vss,hvs.mono fun _ _ h=>h.tr ht,by simpa using hown⟩
    ·rename_i ob
     split at he
     ·rename_i e₀ t₀ l₀ hobj
      split at he
      ·rename_i l hl
       obtain ⟨e1,e2⟩:=castD_some hl
       cases e1
       have e2:l=l₀:=e2
       subst e2
       cases hb0:Nat.beq e₀ (cx.el T) with
       | false=>rw [hb0] at he;cases he
       | true =>
       have:=Nat.eq_of_beq_eq_true hb0
       subst this
       rw [hb0] at he
       simp only [cond_true,Option.some.injEq] at he
       subst he
       simp only [AVRep,SVRep,hobj] at hr1
       obtain ⟨_,ep⟩:=hr1
       have hroom:=roomy_nat (n:=((l:List t.D)++(l':List t.D)).length) i3 (hob _ rfl)
       obtain ⟨hlen,hblk0,vs0,hvs0,hown0⟩:=h.ob _ _ hobj
       have hl0:=hvs0.length
       obtain ⟨v',w',hrun,hown,hext,hblk⟩:=run_append_src (P:=K.P) w T o.type (cx.el T) ie z t.n hu i1 j2 i2 j3 (β ob).hdr (l:List t.D).length vs0.flatten hown0 ad (l':List t.D).length cap vss.flatten
        (by rw [hfl,hvl]) (by simpa using hsrc) hone (by have:=maxLen_big;simp only [List.length_append] at hroom;omega) (by simpa using hroom.1)
       have hne:d≠ob:=fun e=>by rw [e,hobj] at hobs;cases hobs
       rw [←hblk0] at hext hblk
       have hcase:∀ x ob₁,put (put s.obs d (some (some (.row false (cx.el T) t (Z.app (l:List t.D) (l':List t.D)))))) ob (some none) x=some (some ob₁)→(x=d∧ob₁=.row false (cx.el T) t (Z.app (l:List t.D) (l':List t.D)))∨(x≠d∧x≠ob∧s.obs x=some (some ob₁)):=by
        intro x ob₁ hx
        by_cases hxo:x=ob
        ·subst hxo;rw [put_same] at hx;cases hx
        ·rw [put_other _ _ hxo] at hx
         by_cases hxd:x=d
         ·subst hxd;rw [put_same] at hx;cases hx;exact .inl ⟨rfl,rfl⟩
         ·rw [put_other _ _ hxd] at hx;exact .inr ⟨hxd,hxo,hx⟩
       have hcc:Compat s β { s with obs:=put (put s.obs d (some (some (.row false (cx.el T) t (Z.app (l:List t.D) (l':List t.D)))))) ob (some none) } (Sx.put β d ⟨v'.ownBlock,v',[]⟩):=by
        refine ⟨fun x hx=>?_,fun x ob₁ hx=>?_⟩
        ·show put (put s.obs d _) ob _ x=_
         rw [put_other _ _ (fun e=>by rw [e,hobj] at hx;cases hx),put_other _ _ (fun e=>by rw [e,hobs] at hx;cases hx)]
         exact hx
        ·by_cases hxo:x=ob
         ·left
          show put (put s.obs d _) ob _ x=_
          rw [hxo,put_same]
         ·right
          have hxd:x≠d:=fun e=>by rw [e,hobs] at hx;cases hx
          refine ⟨ob₁,?_,?_,.refl _⟩
          ·show put (put s.obs d _) ob _ x=_
           rw [put_other _ _ hxo,put_other _ _ hxd];exact hx
          ·rw [put_other _ _ hxd]
       obtain ⟨g1,g2⟩:=h.step (w':=w') hcc
        (hext.mono fun b _ hb=>⟨ob,_,hobj,rfl,.inl hb⟩)
        (by
         rintro b hb ⟨x,ob₁,hx,hf,hbx⟩
         rcases hcase x ob₁ hx with ⟨rfl,rfl⟩ | ⟨hxd,hxo,hx⟩
         ·rw [put_same] at hbx
          rcases hblk b (one_blk hbx) with h1 | h1
          ·exact ⟨ob,_,hobj,rfl,.inl h1⟩
          ·omega
         ·rw [put_other _ _ hxd] at hbx
          exact ⟨x,ob₁,hx,hf,hbx⟩)
        (by
         intro x ob₁ hx
         rcases hcase x ob₁ hx with ⟨rfl,rfl⟩ | ⟨hxd,hxo,hx⟩
         ·right
          refine ⟨fun _=>by rw [put_same],fun ht=>?_⟩
          rw [put_same]
          refine ⟨?_,rfl,vs0++vss,(hvs0.mono fun _ _ h=>h.tr ht).append (hvs.mono fun _ _ h=>h.tr ht),?_⟩
          ·show ((l:List t.D)++(l':List t.D)).length≤_
           omega
          ·rw [List.flatten_append]
           show World.ownsRow w' 0 _ _ _ ((l:List t.D)++(l':List t.D)).length _
           rw [List.length_append]
           exact hown
         ·left
          refine ⟨hx,put_other _ _ hxd,fun b hb=>hext.2 b (h.blk_lt hx hb) fun hb'=>hxo (h.inj x ob _ _ b hx hobj hb (.inl hb'))⟩)
        (by
         intro x y ob₁ ob₂ b h1 h2 h3 h4
         rcases hcase x ob₁ h1 with ⟨rfl,rfl⟩ | ⟨hxd,hxo,k1⟩<;>rcases hcase y ob₂ h2 with ⟨rfl,rfl⟩ | ⟨hyd,hyo,k2⟩
         ·rfl
         ·rw [put_same] at h3;rw [put_other _ _ hyd] at h4
          rcases hblk b (one_blk h3) with g | g
          ·exact absurd (h.inj y ob _ _ b k2 hobj h4 (.inl g)) hyo
          ·have:=h.blk_lt k2 h4;omega
         ·rw [put_same] at h4;rw [put_other _ _ hxd] at h3
          rcases hblk b (one_blk h4) with g | g
          ·exact absurd (h.inj x ob _ _ b k1 hobj h3 (.inl g)) hxo
          ·have:=h.blk_lt k1 h3;omega
         ·rw [put_other _ _ hxd] at h3;rw [put_other _ _ hyd] at h4
          exact h.inj x y _ _ b k1 k2 h3 h4)
        (by
         intro x ob₁ b hx hb
         rcases hcase x ob₁ hx with ⟨rfl,rfl⟩ | ⟨hxd,hxo,hx⟩
         ·rw [put_same] at hb
          rcases hblk b (one_blk hb) with g | g
          ·exact .inr ⟨ob,_,hobj,fun _=>rfl,.inl g⟩
          ·exact .inl g
         ·rw [put_other _ _ hxd] at hb;exact .inr ⟨x,ob₁,hx,id,hb⟩) rfl (by
         show ghOf (put (put s.obs d _) ob _ K.gid)=_
         by_cases e:K.gid=ob
         ·rw [e,put_same,hobj];rfl
         ·rw [put_other _ _ e]
          exact gh_put rfl (by rw [hobs];rfl))
       refine ⟨v',w',_,?_,g1,?_⟩
       ·refine run_builtin hop hb ?_
        rw [ea,et]
        simp only [builtin,List.map_toArray,List.map_cons,List.map_nil,ep,eq1,Sem.run_bind,hrun,Result.andThen_ok,Sem.run_pure]
       ·simp only [AVRep,SVRep]
        show match put (put s.obs d _) ob _ d with | none=>False | some none=>True | some (some ob)=>isRow ob=true∧v'=_
        rw [put_other _ _ hne,put_same]
        exact ⟨rfl,by rw [put_same]⟩
      ·cases he
     ·cases he
    ·cases he
  ·cases he
 ·cases he
end
end Go.Sx
/-
 The symbolic layer,part 16b: rows that lose their first elements.
-/
namespace Go.Sx
theorem ownsQ_of {w:World} {e:TypeId} {size:Nat} {v:Value} {n:Nat} {xs:List Value} (h:w.ownsRow 0 e size v n xs):OwnsQ w 0 e size v n xs:=by
 refine ⟨h.1,h.2.imp id ?_⟩
 rintro ⟨g,cap,cur,h1,_,h3,h4,h5,h6,h7⟩
 exact ⟨g,cap,cur,by rw [Nat.zero_mul];exact h1,h3,h4,h5,by rw [Nat.zero_add,h6];exact Nat.le_refl _,by rw [Nat.zero_mul,List.drop_zero];exact h7⟩
theorem run_append_q {P:Program} (w:World) (t ty e:TypeId) (i:TypeInfo) (z:Value) (size:Nat) (ht:P.underlying t=some (.slice e)) (hi:P.info? e=some i) (hz:i.zero=some z)
  (hsize:i.size=size) (hzs:z.cells.size=size)
  (v:Value) (k n:Nat) (xs:List Value) (hown:OwnsQ w k e size v n xs)
  (ad:Option Addr) (m c:Nat) (news:List Value) (hl:news.length=m*size) (hsrc:m=0∨∃ a,ad=some a∧∀ j u,news[j]?=some u→w.cell? (a.add j)=some u) (h1:∀ u∈news,u.oneCell'=true)
  (h63:n+m≤maxLen) (hbytes:(n+m)*i.bytes≤140737488355328) :
  ∃ v' w' k',(Builtin.append_ #[t,t] ty #[v,.slice ad m c]).run P w=.ok v' w'∧OwnsQ w' k' e size v' (n+m) (xs++news)∧Ext (fun b=>v.ownBlock=some b) w w' ∧
   ∀ b,v'.ownBlock=some b→v.ownBlock=some b∨w.heap.size≤b:=by
 have hsmall:n+m≤9223372036854775807:=by simp only [maxLen] at h63;omega
 have hlen:(xs++news).length=(n+m)*size:=by rw [List.length_append,hown.1,hl,Nat.add_mul]
 rcases hown.2 with ⟨rfl,rfl⟩ | ⟨g,cap,cur,rfl,hg,hnc,hcm,hcs,htake⟩
 ·have hx:xs=[]:=List.eq_nil_of_length_eq_zero (by simpa using hown.1)
  subst hx
  obtain ⟨v',w',r1,r2,r3,r4⟩:=run_append_src (P:=P) w t ty e i z size ht hi hz hsize hzs (.slice none 0 0) 0 [] (World.ownsRow_nil _ _ _ _) ad m c news hl hsrc h1 h63 hbytes
  exact ⟨v',w',0,r1,ownsQ_of r2,r3,r4⟩
 subst hsize
 by_cases hm:m=0
 ·subst hm
  have hn:news=[]:=List.eq_nil_of_length_eq_zero (by simpa using hl)
  subst hn
  refine ⟨.slice (some ⟨g,k*i.size,none⟩) n cap,w,k,?_,by simpa using hown,.refl _ _,fun b hb=>.inl hb⟩
  cases ad<;>simp [Builtin.append_,run_underlying ht,sizeOf,typeInfo,hi,Builtin.lenOf,Builtin.firstCells,loadCells,loadCellsFrom,hnc,storeCells]
 ·obtain ⟨a,rfl,hnews⟩:=hsrc.resolve_left hm
  by_cases hroom:n+m≤cap
  ·have hks:k*i.size+(n+m)*i.size≤cur.size:=by
    have:=Nat.mul_le_mul_right i.size (show k+(n+m)≤k+cap by omega)
    rw [Nat.add_mul] at this
    omega
   have hfit:k*i.size+n*i.size+news.length≤cur.size:=by rw [hl];rw [Nat.add_mul] at hks;omega
   have hf:=run_firstCells_some (P:=P) w i.size m a m c news hl hnews
   have hst:=run_storeCells_at P g (k*i.size+n*i.size) e news 0 cur w hg (by simpa using hfit) h1
   simp only [Nat.add_zero] at hst
   have hr:(Builtin.append_ #[t,t] ty #[.slice (some ⟨g,k*i.size,none⟩) n cap,.slice (some a) m c]).run P w =
     .ok (.slice (some ⟨g,k*i.size,none⟩) (n+m) cap) (w.setRow g (cur.toList.take (k*i.size+n*i.size)++news++cur.toList.drop (k*i.size+n*i.size+news.length)).toArray):=by
    simp [Builtin.append_,run_underlying ht,sizeOf,typeInfo,hi,Builtin.lenOf,hroom,hf,Addr.add_lit,hst]
   have hxl:=hown.1
   refine ⟨_,_,k,hr,⟨hlen,.inr ⟨g,cap,_,rfl,setRow_heap w g cur _ e _ hg,hroom,hcm,?_,?_⟩⟩,⟨by simp,fun b _ hb=>setRow_other w g b _ (fun e=>hb (by simp [Value.ownBlock,e])),rfl,rfl⟩,fun b hb=>.inl hb⟩
   ·simp only [List.size_toArray,List.length_append,List.length_take,List.length_drop,Array.length_toList]
    omega
   ·have e1:(cur.toList.take (k*i.size+n*i.size)).drop (k*i.size)=xs:=by
     rw [List.drop_take,Nat.add_sub_cancel_left];exact htake
    have e2:(cur.toList.take (k*i.size+n*i.size)++news++cur.toList.drop (k*i.size+n*i.size+news.length)).drop (k*i.size)=xs++news++cur.toList.drop (k*i.size+n*i.size+news.length):=by
     rw [List.append_assoc,List.drop_append_of_le_length (by rw [List.length_take,Array.length_toList];omega),e1,List.append_assoc]
    show List.take _ (List.drop _ (cur.toList.take (k*i.size+n*i.size)++news++cur.toList.drop (k*i.size+n*i.size+news.length)))=_
    rw [e2,←hlen]
    exact List.take_left
  ·have holds:∀ j u,xs[j]?=some u→w.cell? ((⟨g,k*i.size,none⟩:Addr).add j)=some u:=by
    intro j u hj
    rw [Addr.add_lit,cell_of_row w g _ cur e (0,0) hg]
    rw [←htake] at hj
    have hlt:=(List.getElem?_eq_some_iff.1 hj).1
    rw [List.getElem?_take_of_lt (by simp at hlt;omega),List.getElem?_drop] at hj
    simpa using hj
   have hr:=run_append_grow (P:=P) w t ty e i z ht hi hz ⟨g,k*i.size,none⟩ n cap xs hown.1 holds a m c news hl hnews (by omega) (by omega) (growslice_fits (by omega) hbytes)
   have hge:=grownCap_ge w (n+m) cap e
   have hcm':grownCap w (n+m) cap e≤maxLen:=grownCap_le_maxLen w (n+m) cap e h63
   refine ⟨_,_,0,hr,⟨hlen,.inr ⟨w.heap.size,_,_,by rw [Nat.zero_mul],heap_alloc_new w.drew _,hge,hcm',?_,?_⟩⟩,((ext_drew w).trans (ext_alloc w.drew _)).mono fun _ _ h=>h.elim,fun b hb=>.inr (by cases hb;exact Nat.le_refl _)⟩
   ·simp only [Array.size_append,List.size_toArray,size_zeroCells,hzs,hown.1,hl,←Nat.add_mul,Nat.zero_add]
    exact Nat.mul_le_mul_right _ (by omega)
   ·rw [Nat.zero_mul,List.drop_zero]
    simp only [Array.toList_append,List.append_assoc]
    rw [←List.append_assoc,←hlen]
    exact List.take_left
section
variable {K:Ctx} {s:ASt} {a:Act} {w w':World} {β:Nat→Loc} {cx:Cx} {g:List (Nat × Bool)} {o:Oper} {e:Eff} {d:Nat}
theorem swap_step (h:RelB K s a w β) {ob:Nat} {obj nob:Ob} {L:Loc} (hobj:s.obs ob=some (some obj)) (hfz:obFz obj=false) (hobs:s.obs d=none) (hg1:isGh obj=false) (hg2:isGh nob=false) (hf:obFz nob=false)
  (hext:Ext (fun b=>(β ob).blk=some b) w w') (hblk:∀ b,L.has b→(β ob).blk=some b∨w.heap.size≤b)
  (hnew:Tr (Mset K.Mg s β) w (Mset K.Mg (aftW s [(ob,none),(d,some nob)]) (Sx.put β d L)) w'→Compat s β (aftW s [(ob,none),(d,some nob)]) (Sx.put β d L)→ObRep K.P (aftW s [(ob,none),(d,some nob)]) (Sx.put β d L) w' (Mset K.Mg (aftW s [(ob,none),(d,some nob)]) (Sx.put β d L)) L nob) (hsb:L.sub=[]:=by rfl) :
  (RelB K (aftW s [(ob,none),(d,some nob)]) a w' (Sx.put β d L)∧Tr (Mset K.Mg s β) w (Mset K.Mg (aftW s [(ob,none),(d,some nob)]) (Sx.put β d L)) w')∧Compat s β (aftW s [(ob,none),(d,some nob)]) (Sx.put β d L):=by
 have eobs:(aftW s [(ob,none),(d,some nob)]).obs=put (put s.obs d (some (some nob))) ob (some none):=rfl
 have hne:d≠ob:=fun e=>by rw [e,hobj] at hobs;cases hobs
 have hcase:∀ x ob₁,(aftW s [(ob,none),(d,some nob)]).obs x=some (some ob₁)→(x=d∧ob₁=nob)∨(x≠d∧x≠ob∧s.obs x=some (some ob₁)):=by
  intro x ob₁ hx
  rw [eobs] at hx
  by_cases hxo:x=ob
  ·subst hxo;rw [put_same] at hx;cases hx
  ·rw [put_other _ _ hxo] at hx
   by_cases hxd:x=d
   ·subst hxd;rw [put_same] at hx;cases hx;exact .inl ⟨rfl,rfl⟩
   ·rw [put_other _ _ hxd] at hx;exact .inr ⟨hxd,hxo,hx⟩
 have hcc:Compat s β (aftW s [(ob,none),(d,some nob)]) (Sx.put β d L):=by
  refine ⟨fun x hx=>?_,fun x ob₁ hx=>?_⟩
  ·rw [eobs,put_other _ _ (fun e=>by rw [e,hobj] at hx;cases hx),put_other _ _ (fun e=>by rw [e,hobs] at hx;cases hx)]
   exact hx
  ·by_cases hxo:x=ob
   ·left
    rw [eobs,hxo,put_same]
   ·right
    have hxd:x≠d:=fun e=>by rw [e,hobs] at hx;cases hx
    refine ⟨ob₁,?_,?_,.refl _⟩
    ·rw [eobs,put_other _ _ hxo,put_other _ _ hxd];exact hx
    ·rw [put_other _ _ hxd]
 refine ⟨h.step (w':=w') hcc
  (hext.mono fun b _ hb=>⟨ob,_,hobj,hfz,.inl hb⟩)
  (by
   rintro b hb ⟨x,ob₁,hx,hf',hbx⟩
   rcases hcase x ob₁ hx with ⟨rfl,rfl⟩ | ⟨hxd,hxo,hx⟩
   ·rw [put_same] at hbx
    rcases hblk b hbx with h1 | h1
    ·exact ⟨ob,_,hobj,hfz,.inl h1⟩
    ·omega
   ·rw [put_other _ _ hxd] at hbx
    exact ⟨x,ob₁,hx,hf',hbx⟩)
  (by
   intro x ob₁ hx
   rcases hcase x ob₁ hx with ⟨rfl,rfl⟩ | ⟨hxd,hxo,hx⟩
   ·right
    refine ⟨fun _=>by rw [put_same];exact hsb,fun ht=>?_⟩
    rw [put_same]
    exact hnew ht hcc
   ·left
    refine ⟨hx,put_other _ _ hxd,fun b hb=>hext.2 b (h.blk_lt hx hb) fun hb'=>hxo (h.inj x ob _ _ b hx hobj hb (.inl hb'))⟩)
  (by
   intro x y ob₁ ob₂ b h1 h2 h3 h4
   rcases hcase x ob₁ h1 with ⟨rfl,rfl⟩ | ⟨hxd,hxo,k1⟩<;>rcases hcase y ob₂ h2 with ⟨rfl,rfl⟩ | ⟨hyd,hyo,k2⟩
   ·rfl
   ·rw [put_same] at h3;rw [put_other _ _ hyd] at h4
    rcases hblk b h3 with g | g
    ·exact absurd (h.inj y ob _ _ b k2 hobj h4 (.inl g)) hyo
    ·have:=h.blk_lt k2 h4;omega
   ·rw [put_same] at h4;rw [put_other _ _ hxd] at h3
    rcases hblk b h4 with g | g
    ·exact absurd (h.inj x ob _ _ b k1 hobj h3 (.inl g)) hxo
    ·have:=h.blk_lt k1 h3;omega
   ·rw [put_other _ _ hxd] at h3;rw [put_other _ _ hyd] at h4
    exact h.inj x y _ _ b k1 k2 h3 h4)
  (by
   intro x ob₁ b hx hb
   rcases hcase x ob₁ hx with ⟨rfl,rfl⟩ | ⟨hxd,hxo,hx⟩
   ·rw [put_same] at hb
    rcases hblk b hb with g | g
    ·exact .inr ⟨ob,_,hobj,fun _=>hfz,.inl g⟩
    ·exact .inl g
   ·rw [put_other _ _ hxd] at hb;exact .inr ⟨x,ob₁,hx,id,hb⟩) rfl (by
   show ghOf ((aftW s [(ob,none),(d,some nob)]).obs K.gid)=_
   rw [eobs]
   by_cases e:K.gid=ob
   ·rw [e,put_same,hobj]
    cases obj<;>first | rfl | cases hg1
   ·rw [put_other _ _ e]
    exact gh_put (by cases nob<;>first | rfl | cases hg2) (by rw [hobs];rfl)),hcc⟩
theorem did_appendQ (hcx:CxOk K.P cx) (h:RelB K s a w β) (hg:Hold a g) {c:Call} (hop:o.op=.call c) (hb:c.callee=.builtin .append) {x y:AV} {T T':TypeId}
  (hxs:argAVs (ev cx s g) c.args.toList c.argTypes.toList=[x,y]) (hts:c.argTypes.toList=[T,T']) (he:cond (Nat.beq T T') (appendQ cx s d T x y) none=some e) (hob:∀ r,e.obl=some r→r):Did K s a w o e:=by
 have hr:=args_rep (cx:=cx) h hg c.args.toList c.argTypes.toList
 obtain ⟨p,q,hy⟩:=argAVs_two hxs
 rw [hxs,hy] at hr
 obtain ⟨hr1,hr2,_⟩:=hr
 have ea:c.args=#[p,q]:=by apply Array.ext';simpa using hy
 cases hTT:Nat.beq T T' with
 | false=>rw [hTT] at he;cases he
 | true =>
 have:=Nat.eq_of_beq_eq_true hTT
 subst this
 rw [hTT] at he
 simp only [cond_true] at he
 have et:c.argTypes=#[T,T]:=by apply Array.ext';simpa using hts
 unfold appendQ at he
 split at he
 rotate_left
 ·cases he
 rename_i t ty' l₀ hT hdv
 split at he
 rotate_left
 ·cases he
 rename_i l' hl'
 obtain ⟨e1,e2⟩:=castD_some hl'
 subst e1
 have e2:l'=l₀:=e2
 subst e2
 obtain ⟨hu,hE,hn0⟩:=sl_facts (hcx.ty T _ hT)
 have hEf:=hcx.ty _ _ hE
 obtain ⟨ie,_,i1,_,i2,i3,_⟩:=hEf.info
 obtain ⟨ie',z,j1,j2,j3⟩:=hEf.zsz
 rw [i1] at j1
 cases j1
 obtain ⟨ad,cap,vss,eq1,_,hvs,hsrc⟩:=src_rep hcx h hr2 hdv
 have hfl:=flatten_length (all2u_length hvs)
 have hvl:=hvs.length
 have hone:∀ u∈vss.flatten,u.oneCell'=true:=by
  intro u hu
  obtain ⟨cs,hc1,hc2⟩:=List.mem_flatten.1 hu
  have:∀ {vss:List (List Value)} {l:List t.D},All2 (Rep K.P t w (Mset K.Mg s β)) vss l→∀ cs∈vss,∀ u∈cs,u.oneCell'=true:=by
   intro vss
   induction vss with
   | nil=>intro l _ cs hcs;cases hcs
   | cons c vss ih =>
    intro l hl cs hcs
    cases l with
    | nil=>exact hl.elim
    | cons y l =>
     rcases List.mem_cons.1 hcs with rfl | hcs
     ·exact hl.1.oneCells
     ·exact ih hl.2 cs hcs
  exact this hvs cs hc1 u hc2
 split at he
 ·cases he
 rename_i hobs
 split at he
 ·rename_i e₀ t₁
  obtain ⟨hb0,he⟩:=cond_some he
  subst he
  have hroom:=roomy_nat (n:=(l':List t.D).length) i3 (hob _ rfl)
  have ep:a.eval p=.slice none 0 0:=hr1
  obtain ⟨v',w',k',hrun,hown,hext,hblk⟩:=run_append_q (P:=K.P) w T o.type (cx.el T) ie z t.n hu i1 j2 i2 j3 (.slice none 0 0) 0 0 [] (ownsQ_of (World.ownsRow_nil _ _ _ _)) ad (l':List t.D).length cap vss.flatten
   (by rw [hfl,hvl]) (by simpa using hsrc) hone (by have:=maxLen_big;omega) (by simpa using hroom.1)
  refine did_new (L:=⟨v'.ownBlock,v',[]⟩) (w':=w') (v:=v') h (fz:=[]) h hobs (hext.mono fun b _ hb=>by cases hb) (fun b hb=>(hblk b (one_blk hb)).resolve_left (by simp [Value.ownBlock])) rfl ?_ ?_ (.inr (.inl ⟨rfl,rfl,rfl⟩))
  ·refine run_builtin hop hb ?_
   rw [ea,et]
   simp only [builtin,List.map_toArray,List.map_cons,List.map_nil,ep,eq1,Sem.run_bind,hrun,Result.andThen_ok,Sem.run_pure]
  ·intro ht hc
   exact ⟨by show (l':List t.D).length≤_;omega,rfl,k',vss,hvs.mono fun _ _ h=>h.tr ht,by simpa using hown⟩
 ·rename_i ob
  split at he
  rotate_left
  ·cases he
  rename_i e₀ t₀ l₀ hobj
  split at he
  rotate_left
  ·cases he
  rename_i l hl
  obtain ⟨e1,e2⟩:=castD_some hl
  cases e1
  have e2:l=l₀:=e2
  subst e2
  obtain ⟨hb0,he1⟩:=cond_some he
  clear he
  subst he1
  have:=Nat.eq_of_beq_eq_true hb0
  subst this
  simp only [AVRep,SVRep,hobj] at hr1
  obtain ⟨_,ep⟩:=hr1
  have hroom:=roomy_nat (n:=((l:List t.D)++(l':List t.D)).length) i3 (hob _ rfl)
  obtain ⟨hlen,hblk0,k0,vs0,hvs0,hown0⟩:=h.ob _ _ hobj
  obtain ⟨v',w',k',hrun,hown,hext,hblk⟩:=run_append_q (P:=K.P) w T o.type (cx.el T) ie z t.n hu i1 j2 i2 j3 (β ob).hdr k0 (l:List t.D).length vs0.flatten hown0 ad (l':List t.D).length cap vss.flatten
   (by rw [hfl,hvl]) (by simpa using hsrc) hone (by have:=maxLen_big;simp only [List.length_append] at hroom;omega) (by simpa using hroom.1)
  have hne:d≠ob:=fun e=>by rw [e,hobj] at hobs;cases hobs
  rw [←hblk0] at hext hblk
  obtain ⟨⟨g1,g2⟩,_⟩:=swap_step (L:=⟨v'.ownBlock,v',[]⟩) (nob:=.rq false (cx.el T) t (Z.app (l:List t.D) (l':List t.D))) h hobj rfl hobs rfl rfl rfl hext (fun b hb=>hblk b (one_blk hb)) (by
   intro ht _
   refine ⟨?_,rfl,k',vs0++vss,(hvs0.mono fun _ _ h=>h.tr ht).append (hvs.mono fun _ _ h=>h.tr ht),?_⟩
   ·show ((l:List t.D)++(l':List t.D)).length≤_
    omega
   ·rw [List.flatten_append]
    show OwnsQ w' k' _ _ _ ((l:List t.D)++(l':List t.D)).length _
    rw [List.length_append]
    exact hown)
  refine ⟨v',w',_,?_,g1,?_⟩
  ·refine run_builtin hop hb ?_
   rw [ea,et]
   simp only [builtin,List.map_toArray,List.map_cons,List.map_nil,ep,eq1,Sem.run_bind,hrun,Result.andThen_ok,Sem.run_pure]
  ·simp only [AVRep,SVRep]
   show match put (put s.obs d _) ob _ d with | none=>False | some none=>True | some (some ob)=>isRow ob=true∧v'=_
   rw [put_other _ _ hne,put_same]
   exact ⟨rfl,by rw [put_same]⟩
 ·cases he
theorem sn_step (h:RelB K s a w β) {r n:Nat} {t:Ty} {u:Value} {wr:List (Nat × Option Ob)} (hu:AVRep K.P s β w (Mset K.Mg s β) (.sn r n d t) u) (hw:snWr s r n d t=some wr) :
  ∃ L,RelB K (aftW s wr) a w (Sx.put β d L)∧AVRep K.P (aftW s wr) (Sx.put β d L) w (Mset K.Mg (aftW s wr) (Sx.put β d L)) (.s (.os d)) u:=by
 have fin:∀ {obj:Ob} {e:TypeId} {l:List t.D} {k:Nat} {vss:List (List Value)},s.obs r=some (some obj)→obFz obj=false→isGh obj=false→s.obs d=none→(l:List t.D).length≤140737488355328→(β r).blk=(β r).hdr.ownBlock →
   All2 (Rep K.P t w (Mset K.Mg s β)) vss l→OwnsQ w k e t.n (β r).hdr l.length vss.flatten→wr=[(r,none),(d,some (.rq false e t (Z.drop l n)))] →
   ∃ L,RelB K (aftW s wr) a w (Sx.put β d L)∧AVRep K.P (aftW s wr) (Sx.put β d L) w (Mset K.Mg (aftW s wr) (Sx.put β d L)) (.s (.os d)) u:=by
  intro obj e l k vss hobj hfz hgh hobs hlen hblk hvs hown hwr
  subst hwr
  have hne:d≠r:=fun e=>by rw [e,hobj] at hobs;cases hobs
  simp only [AVRep,hobj] at hu
  obtain ⟨_,gg,off,len,cap,h1,h2,h3⟩:=hu
  have hub:u.ownBlock=(β r).hdr.ownBlock:=by rw [h3,h1];by_cases hcn:cap=n<;>simp [Value.ownBlock,hcn]
  obtain ⟨⟨g1,g2⟩,_⟩:=swap_step (w':=w) (L:=⟨u.ownBlock,u,[]⟩) (nob:=.rq false e t (Z.drop l n)) h hobj hfz hobs hgh rfl rfl (.refl _ _) (fun b hb=>.inl (by rw [hblk,←hub];exact one_blk hb)) (by
   intro ht _
   have hxl:=hown.1
   have hln:=hvs.length
   refine ⟨by show (l.drop n).length≤_;simp;omega,rfl,?_⟩
   rcases hown.2 with ⟨g1,_⟩ | ⟨g',cap',cur,g1,g3,g4,g5,g6,g7⟩
   ·rw [g1] at h1;cases h1
   rw [g1] at h1
   cases h1
   have hn:n≤l.length:=h2
   have hfd:(vss.drop n).flatten=vss.flatten.drop (n*t.n):=flatten_drop n (all2u_length hvs)
   have hlen':(vss.drop n).flatten.length=(Z.drop l n).length*t.n:=by
    rw [hfd,List.length_drop,hxl]
    show _=(l.drop n).length*t.n
    rw [List.length_drop,Nat.sub_mul]
   by_cases hc:cap=n
   ·refine ⟨k,vss.drop n,(hvs.drop n).mono fun _ _ h=>h.tr ht,hlen',.inr ⟨gg,0,cur,?_,g3,?_,Nat.zero_le _,?_,?_⟩⟩
    ·rw [h3,if_pos hc]
     show _=Value.slice _ (l.drop n).length 0
     rw [List.length_drop,show cap - n=0 by omega]
    ·show (l.drop n).length≤0
     rw [List.length_drop];omega
    ·exact Nat.le_trans (Nat.mul_le_mul_right _ (by omega)) g6
    ·have h0:(Z.drop l n).length=0:=by show (l.drop n).length=0;rw [List.length_drop];omega
     rw [h0,Nat.zero_mul] at hlen' ⊢
     rw [List.take_zero,List.eq_nil_of_length_eq_zero hlen']
   ·refine ⟨k+n,vss.drop n,(hvs.drop n).mono fun _ _ h=>h.tr ht,hlen',.inr ⟨gg,cap - n,cur,?_,g3,?_,by omega,?_,?_⟩⟩
    ·rw [h3,if_neg hc,Nat.add_mul]
     show _=Value.slice _ (l.drop n).length _
     rw [List.length_drop]
    ·show (l.drop n).length≤_
     rw [List.length_drop];omega
    ·rw [show k+n+(cap - n)=k+cap by omega];exact g6
    ·rw [hfd,←g7]
     show List.take ((l.drop n).length*t.n) _=_
     rw [List.length_drop,Nat.add_mul,←List.drop_drop,List.drop_take,Nat.sub_mul])
  refine ⟨_,g1,?_⟩
  simp only [AVRep,SVRep]
  show match put (put s.obs d _) r _ d with | none=>False | some none=>True | some (some ob)=>isRow ob=true∧u=_
  rw [put_other _ _ hne,put_same]
  exact ⟨rfl,by rw [put_same]⟩
 unfold snWr at hw
 split at hw
 ·rename_i e t' l hobj hobs
  rw [Bool.cond_eq_ite] at hw
  split at hw
  ·rename_i hb
   have:=Ty.beq_eq hb
   subst this
   cases hw
   obtain ⟨h1,h2,vss,h3,h4⟩:=h.ob _ _ hobj
   exact fin hobj rfl rfl hobs h1 h2 h3 (ownsQ_of h4) rfl
  ·cases hw
 ·rename_i e t' l hobj hobs
  rw [Bool.cond_eq_ite] at hw
  split at hw
  ·rename_i hb
   have:=Ty.beq_eq hb
   subst this
   cases hw
   obtain ⟨h1,h2,k,vss,h3,h4⟩:=h.ob _ _ hobj
   exact fin hobj rfl rfl hobs h1 h2 h3 h4 rfl
  ·cases hw
 ·cases hw
end
end Go.Sx
