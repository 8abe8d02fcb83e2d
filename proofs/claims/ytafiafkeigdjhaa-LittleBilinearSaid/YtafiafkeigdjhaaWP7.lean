/- The little curves' primes are primes. Printed by gencert.py off certs7.json. -/
import Derived.Test.YtafiafkeigdjhaaWP2
namespace Go.Rq
open Go

theorem lpr0 : Pr 2192917 := trial 1479 (by kernel_rfl)
theorem lpr1 : Pr 6868571 := trial 2619 (by kernel_rfl)
theorem lpr2 : Pr 72057594037927889 := by
  refine pock [2192917, 6868571] (by kernel_rfl) fun h2 h1 s hs hd q hq => ?_
  simp only [List.mem_cons, List.not_mem_nil, or_false] at hq
  rcases hq with rfl | rfl
  · exact row_p (k := 22) (u := 74130733760869) (t := 8499595300989681) h1 h2 lpr0 (by kernel_rfl) hs hd
  · exact row_p (k := 23) (u := 14323286397811255) (t := 5430635693988314) h1 h2 lpr1 (by kernel_rfl) hs hd
theorem lpr3 : Pr 1152921504606846223 := by
  refine morr [72057594037927889] (by kernel_rfl) fun h2 h1 s hs hd q hq => ?_
  simp only [List.mem_cons, List.not_mem_nil, or_false] at hq
  subst hq
  · exact row_m (k := 56) (u := 15467130779349359) (v := 1103910793905015007) (t := 404558168107154751) h1 lpr2 (by kernel_rfl) (by kernel_rfl) hs hd
theorem lpr4 : Pr 786251 := trial 885 (by kernel_rfl)
end Go.Rq
