/- Merged texts. That the law CommitBack returns true whatever the play is: whatever was done before, Close without refusals leaves all pages free and nothing charged. No condition. -/
import Derived.Test.YtjmmgoijnhnnaaaGreatR12
namespace Go.Proofs.YtjmmgoijnhnnaaaGreat
open Go Go.Proofs Go.RowKit Go.Pol Go.Shelf Go.ChangeShapes Go.WideShapes Go.Deep Tryz
attribute [local go_sem] Oper.semAt_some aC au az ah
theorem Sz (A1 A2:Option Addr) (n1 c1 n2 c2:Nat) (pg n f bk ev lim:Int) (w:World) :
  Calls prog 10 #[.agg #[.int .i64 pg,.int .i64 n,.int .i64 f,.int .i64 bk,.int .i64 ev,.int .i64 lim,.slice A1 n1 c1,.slice A2 n2 c2]] w fun e w'=>e= .returned (.bool ((decide (100<n)||decide (30<(n2:Int)))||decide (60<(n1:Int))))∧Below w.heap.size w w':=by
 have hb0:=aV w (.cells #[.int .i64 pg,.int .i64 n,.int .i64 f,.int .i64 bk,.int .i64 ev,.int .i64 lim,.slice A1 n1 c1,.slice A2 n2 c2] 31);have k0:=ag.new w 31 #[.int .i64 pg,.int .i64 n,.int .i64 f,.int .i64 bk,.int .i64 ev,.int .i64 lim,.slice A1 n1 c1,.slice A2 n2 c2];have c0:=k0.cell;by_cases h1:100<n
 ·have d1:decide (100<n)=true:=by simpa using h1
  rw [d1];clear h1;go_enter func10,ntmps10;go_wp2_with fail;go_ret;exact ⟨rfl,hb0⟩
 have d1:decide (100<n)=false:=by simpa using h1
 rw [d1];clear h1;by_cases h2:30<(n2:Int)
 ·have d2:decide (30<(n2:Int))=true:=by simpa using h2
  rw [d2];clear h2;go_enter func10,ntmps10;go_wp2_with fail;go_ret;exact ⟨rfl,hb0⟩
 have d2:decide (30<(n2:Int))=false:=by simpa using h2
 rw [d2];clear h2;have d3:=ae (Eq.refl (decide (60<(n1:Int))));generalize hd:decide (60<(n1:Int))=d at *;clear d3;go_enter func10,ntmps10;go_wp2_with fail;go_ret;exact ⟨by simp,hb0⟩
end Go.Proofs.YtjmmgoijnhnnaaaGreat
