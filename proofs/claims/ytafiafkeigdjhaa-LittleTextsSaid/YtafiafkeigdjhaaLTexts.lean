/- reliquarylaw07.LittleTexts answers true at every input, and leaves it as it was. Conditions: none. -/
import Derived.Test.YtafiafkeigdjhaaRows
import Derived.Test.YtafiafkeigdjhaaL17
import Derived.ProofKit
import Derived.Carry
namespace Go.Proofs.Ytafiafkeigdjhaa
open Go.Rq Go Go.ChangeShapes Go.WideShapes Go.ChangeAt Go.RowKit
def gTxB : List (Nat × CallC) := [(10, .mem cLent), (11, .pure (cSuB)), (12, .pure (kBytesB)), (13, .rd kReadB), (14, .rd cKept)]
theorem gTxB_ok : CtxOk Try.prog (ctxL (gTxB)) := ctxL_cons okLent <| ctxL_cons okOfB' <| ctxL_cons okEBytesB <| ctxL_cons okEReadB <| ctxL_cons okKept ctxL_nil
def gTxF (s : Int) (p r c gx gy : Nat) : List (Nat × CallC) := [(10, .mem cLent), (11, .pure (cSu s p r c gx gy)), (12, .pure (kBytesF s p r c gx gy)), (13, .rd (kRead s p r c gx gy)), (14, .rd cKept), (15, .rd cRead'), (16, .pure (y1 LwP fun p _ P => .v1 (.sc (.bo (onB p P)))))]
theorem gTxF_ok {s : Int} {p r c gx gy : Nat} (hC : CuOk s p r c gx gy) : CtxOk Try.prog (ctxL (gTxF s p r c gx gy)) := ctxL_cons okLent <| ctxL_cons (okOf' hC) <| ctxL_cons (okEBytesF hC) <| ctxL_cons (okERead hC) <| ctxL_cons okKept <| ctxL_cons okRead' <| ctxL_cons okOn' ctxL_nil
def gTxN (s : Int) (p r c gx gy : Nat) : List (Nat × CallC) := [(10, .mem cLent), (11, .pure (cSu s p r c gx gy)), (12, .mem (kBytes s p r c gx gy)), (13, .rd (kRead s p r c gx gy)), (14, .rd cKept), (15, .rd cRead'), (16, .pure (y1 LwP fun p _ P => .v1 (.sc (.bo (onB p P))))), (18, .mem cBytes'), (17, .rd cSame)]
theorem gTxN_ok {s : Int} {p r c gx gy : Nat} (hC : CuOk s p r c gx gy) : CtxOk Try.prog (ctxL (gTxN s p r c gx gy)) := ctxL_cons okLent <| ctxL_cons (okOf' hC) <| ctxL_cons (okEBytes hC) <| ctxL_cons (okERead hC) <| ctxL_cons okKept <| ctxL_cons okRead' <| ctxL_cons okOn' <| ctxL_cons okBytes' <| ctxL_cons okSame ctxL_nil
theorem texts_bad {t : Int} {x y : Nat} {z : Bool} (h1 : t ≠ 1) (h2 : t ≠ 2) {t1 o1 n c1 : Nat} {f : Nat → Nat} {v1 : WrapV} (hn : n ≤ 100) (hl : ilt 100 (Int.ofNat n) = false) : AWqS Try.prog (Dm [wB t1 o1 n f v1]) (flatC (bodyOf Try.f3)) (fun e s => FEndM tt Try.f3 (upto 0 ([wB t1 o1 n f v1] : Heap).length) (.v1 (.sc (.bo true))) [wB t1 o1 n f v1] e s) ⟨frame0 [.v1 (.sc (.it t)), .v1 (.agg (pC x y z)), .v1 (.sc (.sl 0 o1 n c1))] Try.f3.ntmps, [wB t1 o1 n f v1]⟩ := by
  refine evS_q mixed tt_ok gTxB_ok 100 [⟨1,2,.lit (.bo false)⟩,⟨7,2,.lit (.bo true)⟩] (same (p := ilt 100 (Int.ofNat n) = false ∧ o1 ≤ o1 ∧ o1 - o1 + n ≤ n ∧ n + 3 ≤ limN ∧ t ≠ 1 ∧ t ≠ 2 ∧ t ≠ 1 ∧ t ≠ 2 ∧ 0 + n ≤ n + 3 ∧ t ≠ 1 ∧ t ≠ 2 ∧ eqStr (n + 3) (fun j => lentF n (fun j => f (o1 - o1 + j)) (addN 0 j)) (n + 3) (lentF n (fun j => f (o1 - o1 + j))) = true ∧ 0 + (n + 3) ≤ n + 3 ∧ o1 ≤ o1 ∧ o1 - o1 + n ≤ n ∧ n = n ∧ n + 3 = n + 3 ∧ n + 3 ≤ limN ∧ endM [0] [wB t1 o1 n f v1] [wB t1 o1 n f v1] (.v1 (.sc (.bo true))) (.v1 (.sc (.bo true)))) ?_ (by kernel_rfl))
  exact ⟨hl, Nat.le_refl _, win_le, limN_le hn, h1, h2, h1, h2, by omega, h1, h2, kept_self, by omega, Nat.le_refl _, win_le, rfl, rfl, limN_le hn, endM_same rfl rfl⟩
theorem texts_bad0 {t : Int} {x y : Nat} {z : Bool} (h1 : t ≠ 1) (h2 : t ≠ 2) {w1 : Option Addr} : AWqS Try.prog (Dm []) (flatC (bodyOf Try.f3)) (fun e s => FEndM tt Try.f3 (upto 0 ([] : Heap).length) (.v1 (.sc (.bo true))) [] e s) ⟨frame0 [.v1 (.sc (.it t)), .v1 (.agg (pC x y z)), emS w1] Try.f3.ntmps, []⟩ := by
  refine evS_q mixed tt_ok gTxB_ok 100 [⟨7,2,.lit (.bo true)⟩] (same (p := 0 + 3 ≤ limN ∧ t ≠ 1 ∧ t ≠ 2 ∧ t ≠ 1 ∧ t ≠ 2 ∧ 0 + 0 ≤ 0 + 3 ∧ t ≠ 1 ∧ t ≠ 2 ∧ eqStr (0 + 3) (fun j => lentF 0 (fun _ => 0) (addN 0 j)) (0 + 3) (lentF 0 (fun _ => 0)) = true ∧ 0 + (0 + 3) ≤ 0 + 3 ∧ 0 = 0 ∧ 0 + 3 = 0 + 3 ∧ 0 + 3 ≤ limN ∧ endM [] [] [] (.v1 (.sc (.bo true))) (.v1 (.sc (.bo true)))) ?_ (by kernel_rfl))
  exact ⟨by decide, h1, h2, h1, h2, by omega, h1, h2, kept_self, by omega, rfl, rfl, by decide, endM_same rfl rfl⟩
theorem texts_off {t : Int} {x y : Nat} {z : Bool} {s : Int} {p r c gx gy : Nat} (hC : CuOk s p r c gx gy) (hs : t = s) (hw : LwP p ⟨x, y, z⟩) (ho : onB p ⟨x, y, z⟩ = false) {t1 o1 n c1 : Nat} {f : Nat → Nat} {v1 : WrapV} (hn : n ≤ 100) (hl : ilt 100 (Int.ofNat n) = false) : AWqS Try.prog (Dm [wB t1 o1 n f v1]) (flatC (bodyOf Try.f3)) (fun e s => FEndM tt Try.f3 (upto 0 ([wB t1 o1 n f v1] : Heap).length) (.v1 (.sc (.bo true))) [wB t1 o1 n f v1] e s) ⟨frame0 [.v1 (.sc (.it t)), .v1 (.agg (pC x y z)), .v1 (.sc (.sl 0 o1 n c1))] Try.f3.ntmps, [wB t1 o1 n f v1]⟩ := by
  refine evS_q mixed tt_ok (gTxF_ok hC) 100 [⟨1,2,.lit (.bo false)⟩,⟨7,2,.lit (.bo true)⟩,⟨12,2,.lit (.bo false)⟩,⟨12,6,.lit (.bo false)⟩,⟨14,2,.lit (.bo false)⟩] (same (p := ilt 100 (Int.ofNat n) = false ∧ o1 ≤ o1 ∧ o1 - o1 + n ≤ n ∧ n + 3 ≤ limN ∧ t = s ∧ t = s ∧ LwP p ⟨x, y, z⟩ ∧ onB p ⟨x, y, z⟩ = false ∧ 0 + n ≤ n + 3 ∧ t = s ∧ eqStr (n + 3) (fun j => lentF n (fun j => f (o1 - o1 + j)) (addN 0 j)) (n + 3) (lentF n (fun j => f (o1 - o1 + j))) = true ∧ 0 + (n + 3) ≤ n + 3 ∧ o1 ≤ o1 ∧ o1 - o1 + n ≤ n ∧ n = n ∧ n + 3 = n + 3 ∧ n + 3 ≤ limN ∧ o1 ≤ o1 ∧ o1 - o1 + n ≤ n ∧ Gp p ∧ (!eqLP (rdQ p (inN p r) n (fun j => lentF n (fun j => f (o1 - o1 + j)) (addN 0 j))) (rdQ p (inN p r) n (fun j => f (o1 - o1 + j)))) = false ∧ (!ieq (Int.ofNat (rdE p (inN p r) n (fun j => lentF n (fun j => f (o1 - o1 + j)) (addN 0 j)))) (Int.ofNat (rdE p (inN p r) n (fun j => f (o1 - o1 + j))))) = false ∧ onB p ⟨x, y, z⟩ = false ∧ Gp p ∧ LwP p ⟨x, y, z⟩ ∧ endM [0] [wB t1 o1 n f v1] [wB t1 o1 n f v1] (.v1 (.sc (.bo true))) (.v1 (.sc (.bo true)))) ?_ (by kernel_rfl))
  exact ⟨hl, Nat.le_refl _, win_le, limN_le hn, hs, hs, hw, ho, by omega, hs, kept_self, by omega, Nat.le_refl _, win_le, rfl, rfl, limN_le hn, Nat.le_refl _, win_le, hC.gp, neP_same rdQ_lent, ine_same (by rw [rdE_lent]), ho, hC.gp, hw, endM_same rfl rfl⟩
theorem texts_off0 {t : Int} {x y : Nat} {z : Bool} {s : Int} {p r c gx gy : Nat} (hC : CuOk s p r c gx gy) (hs : t = s) (hw : LwP p ⟨x, y, z⟩) (ho : onB p ⟨x, y, z⟩ = false) {w1 : Option Addr} : AWqS Try.prog (Dm []) (flatC (bodyOf Try.f3)) (fun e s => FEndM tt Try.f3 (upto 0 ([] : Heap).length) (.v1 (.sc (.bo true))) [] e s) ⟨frame0 [.v1 (.sc (.it t)), .v1 (.agg (pC x y z)), emS w1] Try.f3.ntmps, []⟩ := by
  refine evS_q mixed tt_ok (gTxF_ok hC) 100 [⟨7,2,.lit (.bo true)⟩,⟨12,2,.lit (.bo false)⟩,⟨12,6,.lit (.bo false)⟩,⟨14,2,.lit (.bo false)⟩] (same (p := 0 + 3 ≤ limN ∧ t = s ∧ t = s ∧ LwP p ⟨x, y, z⟩ ∧ onB p ⟨x, y, z⟩ = false ∧ 0 + 0 ≤ 0 + 3 ∧ t = s ∧ eqStr (0 + 3) (fun j => lentF 0 (fun _ => 0) (addN 0 j)) (0 + 3) (lentF 0 (fun _ => 0)) = true ∧ 0 + (0 + 3) ≤ 0 + 3 ∧ 0 = 0 ∧ 0 + 3 = 0 + 3 ∧ 0 + 3 ≤ limN ∧ Gp p ∧ (!eqLP (rdQ p (inN p r) 0 (fun j => lentF 0 (fun _ => 0) (addN 0 j))) (rdQ p (inN p r) 0 (fun _ => 0))) = false ∧ (!ieq (Int.ofNat (rdE p (inN p r) 0 (fun j => lentF 0 (fun _ => 0) (addN 0 j)))) (Int.ofNat (rdE p (inN p r) 0 (fun _ => 0)))) = false ∧ onB p ⟨x, y, z⟩ = false ∧ Gp p ∧ LwP p ⟨x, y, z⟩ ∧ endM [] [] [] (.v1 (.sc (.bo true))) (.v1 (.sc (.bo true)))) ?_ (by kernel_rfl))
  exact ⟨by decide, hs, hs, hw, ho, by omega, hs, kept_self, by omega, rfl, rfl, by decide, hC.gp, neP_same rdQ_lent, ine_same (by rw [rdE_lent]), ho, hC.gp, hw, endM_same rfl rfl⟩
theorem texts_on {t : Int} {x y : Nat} {z : Bool} {s : Int} {p r c gx gy : Nat} (hC : CuOk s p r c gx gy) (hs : t = s) (hw : LwP p ⟨x, y, z⟩) (ho : OnP p ⟨x, y, z⟩) {t1 o1 n c1 : Nat} {f : Nat → Nat} {v1 : WrapV} (hn : n ≤ 100) (hl : ilt 100 (Int.ofNat n) = false) : AWqS Try.prog (Dm [wB t1 o1 n f v1]) (flatC (bodyOf Try.f3)) (fun e s => FEndM tt Try.f3 (upto 0 ([wB t1 o1 n f v1] : Heap).length) (.v1 (.sc (.bo true))) [wB t1 o1 n f v1] e s) ⟨frame0 [.v1 (.sc (.it t)), .v1 (.agg (pC x y z)), .v1 (.sc (.sl 0 o1 n c1))] Try.f3.ntmps, [wB t1 o1 n f v1]⟩ := by
  refine evS_q mixed tt_ok (gTxN_ok hC) 100 [⟨1,2,.lit (.bo false)⟩,⟨7,2,.lit (.bo true)⟩,⟨12,2,.lit (.bo false)⟩,⟨12,6,.lit (.bo false)⟩,⟨14,2,.lit (.bo true)⟩,⟨16,3,.lit (.bo true)⟩] (same (p := ilt 100 (Int.ofNat n) = false ∧ o1 ≤ o1 ∧ o1 - o1 + n ≤ n ∧ n + 3 ≤ limN ∧ t = s ∧ t = s ∧ OnP p ⟨x, y, z⟩ ∧ 0 + n ≤ n + 3 ∧ t = s ∧ eqStr (n + 3) (fun j => lentF n (fun j => f (o1 - o1 + j)) (addN 0 j)) (n + 3) (lentF n (fun j => f (o1 - o1 + j))) = true ∧ 0 + (n + 3) ≤ n + 3 ∧ o1 ≤ o1 ∧ o1 - o1 + n ≤ n ∧ n = n ∧ n + 3 = n + 3 ∧ n + 3 ≤ limN ∧ o1 ≤ o1 ∧ o1 - o1 + n ≤ n ∧ Gp p ∧ (!eqLP (rdQ p (inN p r) n (fun j => lentF n (fun j => f (o1 - o1 + j)) (addN 0 j))) (rdQ p (inN p r) n (fun j => f (o1 - o1 + j)))) = false ∧ (!ieq (Int.ofNat (rdE p (inN p r) n (fun j => lentF n (fun j => f (o1 - o1 + j)) (addN 0 j)))) (Int.ofNat (rdE p (inN p r) n (fun j => f (o1 - o1 + j))))) = false ∧ onB p ⟨x, y, z⟩ = true ∧ Gp p ∧ LwP p ⟨x, y, z⟩ ∧ x < W ∧ y < W ∧ eqStr 17 (fun j => byP ⟨x, y, z⟩ (addN 0 j)) 17 (byP ⟨x, y, z⟩) = true ∧ 0 + 17 ≤ 17 ∧ 17 ≤ 17 ∧ endM [0] [wB t1 o1 n f v1] [wB t1 o1 n f v1] (.v1 (.sc (.bo true))) (.v1 (.sc (.bo true)))) ?_ (by kernel_rfl))
  exact ⟨hl, Nat.le_refl _, win_le, limN_le hn, hs, hs, ho, by omega, hs, kept_self, by omega, Nat.le_refl _, win_le, rfl, rfl, limN_le hn, Nat.le_refl _, win_le, hC.gp, neP_same rdQ_lent, ine_same (by rw [rdE_lent]), ho, hC.gp, hw, hw.1, hw.2, eqStr_of fun j _ => by rw [addN_eq, Nat.zero_add], by decide, by decide, endM_same rfl rfl⟩
theorem texts_on0 {t : Int} {x y : Nat} {z : Bool} {s : Int} {p r c gx gy : Nat} (hC : CuOk s p r c gx gy) (hs : t = s) (hw : LwP p ⟨x, y, z⟩) (ho : OnP p ⟨x, y, z⟩) {w1 : Option Addr} : AWqS Try.prog (Dm []) (flatC (bodyOf Try.f3)) (fun e s => FEndM tt Try.f3 (upto 0 ([] : Heap).length) (.v1 (.sc (.bo true))) [] e s) ⟨frame0 [.v1 (.sc (.it t)), .v1 (.agg (pC x y z)), emS w1] Try.f3.ntmps, []⟩ := by
  refine evS_q mixed tt_ok (gTxN_ok hC) 100 [⟨7,2,.lit (.bo true)⟩,⟨12,2,.lit (.bo false)⟩,⟨12,6,.lit (.bo false)⟩,⟨14,2,.lit (.bo true)⟩,⟨16,3,.lit (.bo true)⟩] (same (p := 0 + 3 ≤ limN ∧ t = s ∧ t = s ∧ OnP p ⟨x, y, z⟩ ∧ 0 + 0 ≤ 0 + 3 ∧ t = s ∧ eqStr (0 + 3) (fun j => lentF 0 (fun _ => 0) (addN 0 j)) (0 + 3) (lentF 0 (fun _ => 0)) = true ∧ 0 + (0 + 3) ≤ 0 + 3 ∧ 0 = 0 ∧ 0 + 3 = 0 + 3 ∧ 0 + 3 ≤ limN ∧ Gp p ∧ (!eqLP (rdQ p (inN p r) 0 (fun j => lentF 0 (fun _ => 0) (addN 0 j))) (rdQ p (inN p r) 0 (fun _ => 0))) = false ∧ (!ieq (Int.ofNat (rdE p (inN p r) 0 (fun j => lentF 0 (fun _ => 0) (addN 0 j)))) (Int.ofNat (rdE p (inN p r) 0 (fun _ => 0)))) = false ∧ onB p ⟨x, y, z⟩ = true ∧ Gp p ∧ LwP p ⟨x, y, z⟩ ∧ x < W ∧ y < W ∧ eqStr 17 (fun j => byP ⟨x, y, z⟩ (addN 0 j)) 17 (byP ⟨x, y, z⟩) = true ∧ 0 + 17 ≤ 17 ∧ 17 ≤ 17 ∧ endM [] [] [] (.v1 (.sc (.bo true))) (.v1 (.sc (.bo true)))) ?_ (by kernel_rfl))
  exact ⟨by decide, hs, hs, ho, by omega, hs, kept_self, by omega, rfl, rfl, by decide, hC.gp, neP_same rdQ_lent, ine_same (by rw [rdE_lent]), ho, hC.gp, hw, hw.1, hw.2, eqStr_of fun j _ => by rw [addN_eq, Nat.zero_add], by decide, by decide, endM_same rfl rfl⟩
theorem texts_long {t : Int} {x y : Nat} {z : Bool} {t1 o1 n c1 : Nat} {f : Nat → Nat} {v1 : WrapV} (hl : ilt 100 (Int.ofNat n) = true) : AWqS Try.prog (Dm [wB t1 o1 n f v1]) (flatC (bodyOf Try.f3)) (fun e s => FEndM tt Try.f3 (upto 0 ([wB t1 o1 n f v1] : Heap).length) (.v1 (.sc (.bo true))) [wB t1 o1 n f v1] e s) ⟨frame0 [.v1 (.sc (.it t)), .v1 (.agg (pC x y z)), .v1 (.sc (.sl 0 o1 n c1))] Try.f3.ntmps, [wB t1 o1 n f v1]⟩ := by
  refine evS_q mixed tt_ok gTxB_ok 100 [⟨1,2,.lit (.bo true)⟩] (same (p := ilt 100 (Int.ofNat n) = true ∧ endM [0] [wB t1 o1 n f v1] [wB t1 o1 n f v1] (.v1 (.sc (.bo true))) (.v1 (.sc (.bo true)))) ?_ (by kernel_rfl))
  exact ⟨hl, endM_same rfl rfl⟩
theorem littleTexts_calls (t : Int) (x y : Nat) (z : Bool) (hx : x < W) (hy : y < W) {n : Nat} {f : Nat → Nat} {v : Value} (Wd : World) (hv : (Sh.vs n f).Sem Wd (fun _ => True) v) :
    Calls Try.prog 3 #[(AV.v1 (.sc (.it t))).val fun _ => 0, (AV.v1 (.agg (pC x y z))).val fun _ => 0, v] Wd (fun e w' => e = .returned (.bool true) ∧ StepW Wd w') := by
  refine views_calls tt_ok Try.func3 (by kernel_rfl) [.pl (.v1 (.sc (.it t))), .pl (.v1 (.agg (pC x y z))), .vs n f] (xs := [(AV.v1 (.sc (.it t))).val fun _ => 0, (AV.v1 (.agg (pC x y z))).val fun _ => 0, v]) ⟨⟨rfl, rfl⟩, ⟨rfl, rfl⟩, hv, trivial⟩ (v := .v1 (.sc (.bo true))) rfl fun a Wn hi => ?_
  rcases hi with _ | ⟨hi⟩ | _ | _ | _
  rcases hi with _ | ⟨hi⟩ | _ | _ | _
  have hcu := cu_cases t
  rcases hi with _ | _ | ⟨w1, hn, hi⟩ | ⟨t1, o1, c1, v1, hi⟩ | _
  · cases hi
    rcases hcu with ⟨h1, h2⟩ | ⟨p, r, c, gx, gy, hC⟩
    · exact texts_bad0 h1 h2
    · have hw : LwP p ⟨x, y, z⟩ := ⟨hx, hy⟩
      cases ho : onB p ⟨x, y, z⟩
      · exact texts_off0 hC rfl hw ho
      · exact texts_on0 hC rfl hw ho
  · cases hi
    by_cases hn : n ≤ 100
    · have hl : ilt 100 (Int.ofNat n) = false := ilt_f (i := 100) (by omega)
      rcases hcu with ⟨h1, h2⟩ | ⟨p, r, c, gx, gy, hC⟩
      · exact texts_bad h1 h2 hn hl
      · have hw : LwP p ⟨x, y, z⟩ := ⟨hx, hy⟩
        cases ho : onB p ⟨x, y, z⟩
        · exact texts_off hC rfl hw ho hn hl
        · exact texts_on hC rfl hw ho hn hl
    · exact texts_long (ilt_t (i := 100) (by omega))
theorem littleTexts_lifted (os : Os) (started : os.Started) (H : Type) (enc : TypeId × Value → H) :
    ReturnsInHanded {} Try.checked os 3 .any (Rows.littleTextsSpec.pre6 enc Try.prog Try.f3 Rows.littleTextsRow.domain false) (Rows.littleTextsSpec.post enc Try.prog Try.f3 false true false false) := by
  refine returnsInHanded_of_change (C := Try.checked) Try.own started (by kernel_rfl) Try.func3
    (ChangeSpec.witness6 (enc := enc) (C := Try.checked) false ⟨#[], #[.int .i64 0, .agg #[.int .u64 0, .int .u64 0, .bool false], .slice none 0 0], []⟩ 8 (by kernel_rfl) (by kernel_rfl) (by kernel_rfl) (by kernel_rfl)) ?_
  intro Wd base args ds gs before hval0 hW _ _
  have hval : ∀ (j : Nat) t v, Try.f3.params[j]? = some t → args[j]? = some v → Value.okWide Try.prog Wd .any base t v := hval0
  have hW' := hW
  obtain ⟨p, q, hA0, hV, rfl, _, _⟩ := hW
  have hA : DataW.TrodAll enc Try.prog Wd 0 (fun _ => true) true Try.f3.params.toList args.toList ds p := hA0
  rw [Try.params3] at hA hval
  obtain ⟨v0, v1, v2, d0, d1, d2, p0, p1, p2, rfl, rfl, rfl, h0, h1, h2⟩ := trodAll_three hA
  obtain ⟨rfl, rfl⟩ := trodVars_none hV
  obtain ⟨x0, rfl, rfl, rfl, w0⟩ := open_int Try.underlying22 (hval 0 22 v0 rfl rfl) h0
  obtain ⟨x1, y1, z1, a1, b1, rfl, rfl, t1⟩ := l1_open h1 (hval 1 25 v1 rfl rfl)
  obtain ⟨n2, f2, s2, t2⟩ := bytes_open h2 (hval 2 26 v2 rfl rfl)
  clear hA0 hval0
  simp only [List.append_nil] at hW'
  refine (littleTexts_calls x0 x1 y1 z1 a1 b1 Wd s2).mono fun e W' ⟨he, hw⟩ => ?_
  subst he
  have hg := hw.grown
  exact ⟨_, rfl, post_of_same (pa := p2) (pv := []) hW' (fun _ _ _ => trodAll_mk1 (shut_bool Try.underlying4 true)) (fun sp hsp => trodAll_mk3 (shut_int Try.underlying22 w0) (t1 _ _ _ _) (t2 _ hw sp (fun q hq => hsp q (by simp [hq])))) (fun _ _ => rfl) (by simp) (hg.frame _) hg.2.1 (ok_one (by kernel_rfl) rfl (okWide_bool_mk Try.underlying4 true))⟩

theorem littleTexts_holds : Rows.LittleTextsSaid :=
  OpenClaim.holds_of_wide 3 Try.f3 rfl rfl rfl rfl rfl rfl rfl ⟨rfl, rfl, rfl, rfl, rfl⟩ rfl rfl rfl rfl rfl (by kernel_rfl) Try.func3 (by kernel_rfl)
    (of_decide_eq_true (by kernel_rfl)) (by unfold Func.isWrapper; rw [if_neg (of_decide_eq_false (by kernel_rfl))]; exact ⟨rfl, rfl⟩)
    (fun os started H enc _ => littleTexts_lifted os started H enc)
end Go.Proofs.Ytafiafkeigdjhaa
