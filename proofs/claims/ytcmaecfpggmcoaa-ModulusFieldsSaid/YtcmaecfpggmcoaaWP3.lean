/- The great primes are primes. Printed by gencert.py. -/
import Derived.Test.YtcmaecfpggmcoaaWP2
namespace Go.Rq
open Go

theorem pr0 : Pr 110573 := trial 331 (by kernel_rfl)
theorem pr1 : Pr 2653753 := by
  refine pock [110573] (by kernel_rfl) fun h2 h1 s hs hd q hq => ?_
  simp only [List.mem_cons, List.not_mem_nil, or_false] at hq
  subst hq
  · exact row_p (k := 17) (u := 854698) (t := 2531333) h1 h2 pr0 (by kernel_rfl) hs hd
theorem pr2 : Pr 63690073 := by
  refine pock [2653753] (by kernel_rfl) fun h2 h1 s hs hd q hq => ?_
  simp only [List.mem_cons, List.not_mem_nil, or_false] at hq
  subst hq
  · exact row_p (k := 22) (u := 16777216) (t := 5408073) h1 h2 pr1 (by kernel_rfl) hs hd
theorem pr3 : Pr 254760293 := by
  refine pock [63690073] (by kernel_rfl) fun h2 h1 s hs hd q hq => ?_
  simp only [List.mem_cons, List.not_mem_nil, or_false] at hq
  subst hq
  · exact row_p (k := 26) (u := 16) (t := 218527718) h1 h2 pr2 (by kernel_rfl) hs hd
theorem pr4 : Pr 609743 := trial 779 (by kernel_rfl)
theorem pr5 : Pr 52437899 := by
  refine pock [609743] (by kernel_rfl) fun h2 h1 s hs hd q hq => ?_
  simp only [List.mem_cons, List.not_mem_nil, or_false] at hq
  subst hq
  · exact row_p (k := 20) (u := 27034091) (t := 23767086) h1 h2 pr4 (by kernel_rfl) hs hd
theorem pr6 : Pr 18329 := trial 134 (by kernel_rfl)
theorem pr7 : Pr 2529403 := by
  refine pock [18329] (by kernel_rfl) fun h2 h1 s hs hd q hq => ?_
  simp only [List.mem_cons, List.not_mem_nil, or_false] at hq
  subst hq
  · exact row_p (k := 15) (u := 1443810) (t := 1017113) h1 h2 pr6 (by kernel_rfl) hs hd
theorem pr8 : Pr 79 := trial 7 (by kernel_rfl)
theorem pr9 : Pr 7 := trial 1 (by kernel_rfl)
theorem pr10 : Pr 3 := trial 0 (by kernel_rfl)
theorem pr11 : Pr 2508409 := by
  refine pock [79, 7, 3] (by kernel_rfl) fun h2 h1 s hs hd q hq => ?_
  simp only [List.mem_cons, List.not_mem_nil, or_false] at hq
  rcases hq with rfl | rfl | rfl
  · exact row_p (k := 7) (u := 1922404) (t := 2391828) h1 h2 pr8 (by kernel_rfl) hs hd
  · exact row_p (k := 3) (u := 1491919) (t := 1172022) h1 h2 pr9 (by kernel_rfl) hs hd
  · exact row_p (k := 2) (u := 1632621) (t := 2216480) h1 h2 pr10 (by kernel_rfl) hs hd
theorem pr12 : Pr 906349 := trial 951 (by kernel_rfl)
theorem pr13 : Pr 859267 := trial 925 (by kernel_rfl)
theorem pr14 : Pr 52435875175126190479447740508185965837690552500527637822603658699938581184513 := by
  refine pock [254760293, 52437899, 2529403, 2508409, 906349, 859267] (by kernel_rfl) fun h2 h1 s hs hd q hq => ?_
  simp only [List.mem_cons, List.not_mem_nil, or_false] at hq
  rcases hq with rfl | rfl | rfl | rfl | rfl | rfl
  · exact row_p (k := 28) (u := 47291686569396616499156425462872067838946887208699558622576110439061623524034) (t := 8272491309021774342347510960184665570624408625638511717582691645139962808322) h1 h2 pr3 (by kernel_rfl) hs hd
  · exact row_p (k := 26) (u := 40744907299244235407352508676493668180470552603717615087053811498945141922481) (t := 24435588047324498985135671879022453924774874957194622137846116853917900082546) h1 h2 pr5 (by kernel_rfl) hs hd
  · exact row_p (k := 22) (u := 47059450156245510142419071452461480537773589021230600566513559274632232753225) (t := 13496695038677861703451944757302736120028747692333370252067538937534610912918) h1 h2 pr7 (by kernel_rfl) hs hd
  · exact row_p (k := 22) (u := 18373012691511662944661031135262503793624804446979480243025351198939613928965) (t := 42251000375476754255644692231166830250970314810999252736040166163806149457416) h1 h2 pr11 (by kernel_rfl) hs hd
  · exact row_p (k := 20) (u := 15769418934976494890171147995125343002726346209648636226952077001274280108622) (t := 7341832720726551148783492391540452822139670106997616514216132388446397894251) h1 h2 pr12 (by kernel_rfl) hs hd
  · exact row_p (k := 20) (u := 43027507203922512242553617092411604239850773065986444709280750291974666585789) (t := 16036145616883159554067384683196216776631872494468603349542811717840123738380) h1 h2 pr13 (by kernel_rfl) hs hd
theorem pr15 : Pr 597593 := trial 772 (by kernel_rfl)
theorem pr16 : Pr 26647 := trial 162 (by kernel_rfl)
theorem pr17 : Pr 73779548989605253 := by
  refine pock [597593, 26647] (by kernel_rfl) fun h2 h1 s hs hd q hq => ?_
  simp only [List.mem_cons, List.not_mem_nil, or_false] at hq
  rcases hq with rfl | rfl
  · exact row_p (k := 20) (u := 15261372537049322) (t := 68173055282261295) h1 h2 pr15 (by kernel_rfl) hs hd
  · exact row_p (k := 15) (u := 57226719683905182) (t := 36802108169195659) h1 h2 pr16 (by kernel_rfl) hs hd
theorem pr18 : Pr 156083864923250991785002799 := by
  refine pock [73779548989605253] (by kernel_rfl) fun h2 h1 s hs hd q hq => ?_
  simp only [List.mem_cons, List.not_mem_nil, or_false] at hq
  subst hq
  · exact row_p (k := 57) (u := 115599829464088582696410051) (t := 124844899530365331206805700) h1 h2 pr17 (by kernel_rfl) hs hd
theorem pr19 : Pr 14543 := trial 119 (by kernel_rfl)
theorem pr20 : Pr 4362901 := by
  refine pock [14543] (by kernel_rfl) fun h2 h1 s hs hd q hq => ?_
  simp only [List.mem_cons, List.not_mem_nil, or_false] at hq
  subst hq
  · exact row_p (k := 14) (u := 2350225) (t := 3155058) h1 h2 pr19 (by kernel_rfl) hs hd
theorem pr21 : Pr 43629011 := by
  refine pock [4362901] (by kernel_rfl) fun h2 h1 s hs hd q hq => ?_
  simp only [List.mem_cons, List.not_mem_nil, or_false] at hq
  subst hq
  · exact row_p (k := 23) (u := 1024) (t := 8214742) h1 h2 pr20 (by kernel_rfl) hs hd
theorem pr22 : Pr 87258023 := by
  refine pock [43629011] (by kernel_rfl) fun h2 h1 s hs hd q hq => ?_
  simp only [List.mem_cons, List.not_mem_nil, or_false] at hq
  subst hq
  · exact row_p (k := 26) (u := 4) (t := 9695336) h1 h2 pr21 (by kernel_rfl) hs hd
theorem pr23 : Pr 174516047 := by
  refine pock [87258023] (by kernel_rfl) fun h2 h1 s hs hd q hq => ?_
  simp only [List.mem_cons, List.not_mem_nil, or_false] at hq
  subst hq
  · exact row_p (k := 27) (u := 4) (t := 19390672) h1 h2 pr22 (by kernel_rfl) hs hd
theorem pr24 : Pr 46072236409 := by
  refine pock [174516047] (by kernel_rfl) fun h2 h1 s hs hd q hq => ?_
  simp only [List.mem_cons, List.not_mem_nil, or_false] at hq
  subst hq
  · exact row_p (k := 28) (u := 7621387813) (t := 33744688159) h1 h2 pr23 (by kernel_rfl) hs hd
theorem pr25 : Pr 915869 := trial 956 (by kernel_rfl)
theorem pr26 : Pr 11365934291 := by
  refine pock [915869] (by kernel_rfl) fun h2 h1 s hs hd q hq => ?_
  simp only [List.mem_cons, List.not_mem_nil, or_false] at hq
  subst hq
  · exact row_p (k := 20) (u := 9964290366) (t := 2552703921) h1 h2 pr25 (by kernel_rfl) hs hd
theorem pr27 : Pr 16253286036131 := by
  refine pock [11365934291] (by kernel_rfl) fun h2 h1 s hs hd q hq => ?_
  simp only [List.mem_cons, List.not_mem_nil, or_false] at hq
  subst hq
  · exact row_p (k := 34) (u := 5194687395456) (t := 7986676649825) h1 h2 pr26 (by kernel_rfl) hs hd
theorem pr28 : Pr 307202528959414010196955747273574637769335820764971303266458398669801375004184727427572867063 := by
  refine morr [156083864923250991785002799, 46072236409, 16253286036131] (by kernel_rfl) fun h2 h1 s hs hd q hq => ?_
  simp only [List.mem_cons, List.not_mem_nil, or_false] at hq
  rcases hq with rfl | rfl | rfl
  · exact row_m (k := 88) (u := 284533188331670450599559813562649621612636685766427118446961277331686977444749608028565734413) (v := 143899997501999503499924603473387784879380665968700981587986861323721007018233406030319024085) (t := 263961610173074643512334520666667076154059701411169151621168832623478342677021642072110504767) h1 pr18 (by kernel_rfl) (by kernel_rfl) hs hd
  · exact row_m (k := 36) (u := 178849773102153389778765108071561236754748357461711022044902314706950378098802454584841181827) (v := 148487190946588945029736634807864168232989787455781536400857407814839195839367751376879611109) (t := 281082323720725506404661016030753170361552213859806326759736578068591841163932858626056371741) h1 pr24 (by kernel_rfl) (by kernel_rfl) hs hd
  · exact row_m (k := 44) (u := 93254127763411557939324456773691262884123920146095204746477972588369835382385029015072454195) (v := 128235565482707231171401749281996455088748478161738036983036643917099646789267762343546613900) (t := 232241080552751787871792791193002398125699963483135957149912324268265853973978820469013805396) h1 pr27 (by kernel_rfl) (by kernel_rfl) hs hd
theorem pr29 : Pr 845817742016413227687614079825846186930871263723374447449716427752331287085975880059739566595311847852471317109 := by
  refine pock [307202528959414010196955747273574637769335820764971303266458398669801375004184727427572867063] (by kernel_rfl) fun h2 h1 s hs hd q hq => ?_
  simp only [List.mem_cons, List.not_mem_nil, or_false] at hq
  subst hq
  · exact row_p (k := 308) (u := 81187775623023919112919733391471430114509226083388684504755857439343848484154488959623945095297981823968039695) (t := 532332458101301275505511731943247530129837256366664136881696355035850008364731273543126876511034358404920518420) h1 h2 pr28 (by kernel_rfl) hs hd
theorem pr30 : Pr 4002409555221667393417789825735904156556882819939007885332058136124031650490837864442687629129015664037894272559787 := by
  refine morr [845817742016413227687614079825846186930871263723374447449716427752331287085975880059739566595311847852471317109] (by kernel_rfl) fun h2 h1 s hs hd q hq => ?_
  simp only [List.mem_cons, List.not_mem_nil, or_false] at hq
  subst hq
  · exact row_m (k := 369) (u := 1588245469955867453221167050554654839771414121579679824916963608285392547594593910888830993357567425149309403817626) (v := 1235324612909888021685800130558716099355515684439840888916641554913866144767399377883741991451359506303539880195943) (t := 3407498155760335788028185507862619618592417260020186979764066134515508538569650611251186940344440273035076553594098) h1 pr29 (by kernel_rfl) (by kernel_rfl) hs hd
end Go.Rq
