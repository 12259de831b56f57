/-
  Chapter 6: what the picture of some truths is.
-/
import Derived.Test.YtkeeaadooechgaaXrP5
set_option linter.all false
set_option maxRecDepth 100000
set_option maxHeartbeats 4000000
set_option linter.unusedVariables false
namespace Go.Xr
open Go Go.Sx
structure PictIs (c:Crate) (ts:List Truth) (p:Pict):Prop where
 cnt:p.2.2.2=(ts.length:Int)
 canR:∀ n,hasB p.1.1 n=ts.any fun t=>hasB t.1 n
 canC:∀ n,hasB p.1.2.1 n=ts.any fun t=>hasB t.2 n
 sureR:ts≠[]→∀ n,hasB p.1.2.2.1 n=ts.all fun t=>hasB t.1 n
 sureC:ts≠[]→∀ n,hasB p.1.2.2.2 n=ts.all fun t=>hasB t.2 n
 lo:∀ t∈ts,p.2.1.1≤manyV t c
 hi:∀ t∈ts,manyV t c≤p.2.1.2
 loE:ts≠[]→∃ t∈ts,manyV t c=p.2.1.1
 hiE:ts≠[]→∃ t∈ts,manyV t c=p.2.1.2
 g8:p.2.2.1.length=8
 r8:∀ r∈p.2.2.1,r.length=8
 spots:∀ r k:Nat,r<c.1.length→k<c.2.1.toNat→getG p.2.2.1 (r:Nat) (k:Nat)=(ts.countP fun t=>badB t (r:Nat) (k:Nat):Nat)
def fitsL (c:Crate) (l:List Look):List Truth:=truthsV c fun t=>l.all (fitB t)
end Go.Xr
