/- The block of a key and a nonce. Printed by genc3.py. -/
import Derived.Test.YtndmoidenbfflaaC2
namespace Go.Proofs.Ytndmoidenbfflaa
open Go.Rq Go
set_option linter.unusedVariables false
set_option linter.unusedSimpArgs false
set_option maxHeartbeats 4000000
set_option maxRecDepth 100000

def iniF (w v : Nat → Nat) (c : Nat) : Nat → Nat := (upd (upd (upd (upd (upd (upd (upd (upd (upd (upd (upd (upd (upd (upd (upd (upd (fun _ => 0) 0 1634760805) 1 857760878) 2 2036477234) 3 1797285236) 4 (w 0)) 5 (w 1)) 6 (w 2)) 7 (w 3)) 8 (w 4)) 9 (w 5)) 10 (w 6)) 11 (w 7)) 12 c) 13 (v 0)) 14 (v 1)) 15 (v 2))
def rndF (x : Nat → Nat) : Nat → Nat := (qrF 3 4 9 14 (qrF 2 7 8 13 (qrF 1 6 11 12 (qrF 0 5 10 15 (qrF 3 7 11 15 (qrF 2 6 10 14 (qrF 1 5 9 13 (qrF 0 4 8 12 x))))))))
def itF : Nat → (Nat → Nat) → Nat → Nat
  | 0, x => x
  | k + 1, x => rndF (itF k x)
def outF (g s : Nat → Nat) : Nat → Nat := fun j => (g (j / 4) + s (j / 4)) % 4294967296 / 2 ^ (8 * (j % 4)) % 4294967296
def kw (f : Nat → Nat) : Nat → Nat := fun i => lo32 fun j => f (4 * i + j)
def blkF (f g : Nat → Nat) (c : Nat) : Nat → Nat := outF (itF 10 (iniF (kw f) (kw g) c)) (iniF (kw f) (kw g) c)
/-- Put one after the other. -/
def upN (v : Nat → Nat) : Nat → Nat → Nat
  | 0 => fun _ => 0
  | k + 1 => upd (upN v k) k (v k)
theorem upN_lt {v : Nat → Nat} {j : Nat} : ∀ {k}, j < k → upN v k j = v j
  | k + 1, h => by
    show upd (upN v k) k (v k) j = v j
    by_cases e : j = k
    · subst e; exact upd_same ..
    · rw [upd_ne _ _ e]; exact upN_lt (by omega)
def q4 (a b c d : Nat) (q : Prop) : Prop := a < 16 ∧ b < 16 ∧ c < 16 ∧ d < 16 ∧ q
theorem q4_of {a b c d : Nat} {q : Prop} (ha : a < 16) (hb : b < 16) (hc : c < 16) (hd : d < 16) (h : q) : q4 a b c d q := ⟨ha, hb, hc, hd, h⟩
def rndP (q : Prop) : Prop := (q4 0 4 8 12 (q4 1 5 9 13 (q4 2 6 10 14 (q4 3 7 11 15 (q4 0 5 10 15 (q4 1 6 11 12 (q4 2 7 8 13 (q4 3 4 9 14 q))))))))
theorem rndP_of {q : Prop} (h : q) : rndP q := (q4_of (by decide) (by decide) (by decide) (by decide) (q4_of (by decide) (by decide) (by decide) (by decide) (q4_of (by decide) (by decide) (by decide) (by decide) (q4_of (by decide) (by decide) (by decide) (by decide) (q4_of (by decide) (by decide) (by decide) (by decide) (q4_of (by decide) (by decide) (by decide) (by decide) (q4_of (by decide) (by decide) (by decide) (by decide) (q4_of (by decide) (by decide) (by decide) (by decide) h))))))))
/-- What low32 asks of a window's part. -/
def lw (o n e i : Nat) (q : Prop) : Prop := o ≤ addN o i ∧ (addN o i - o) + (n - i) ≤ n ∧ n - i ≤ e + n - i ∧ 4 ≤ n - i ∧ q
theorem lw_of {o n e i : Nat} {q : Prop} (h : i + 4 ≤ n) (k : q) : lw o n e i q := ⟨by rw [addN_eq]; omega, by rw [addN_eq]; omega, by omega, by omega, k⟩
def kwO (o : Nat) (f : Nat → Nat) : Nat → Nat := fun i => lo32 fun j => f ((addN o (4 * i) - o) + j)
theorem kwO_eq (o : Nat) (f : Nat → Nat) : kwO o f = kw f := by
  funext i
  unfold kwO kw
  rw [show (fun j => f ((addN o (4 * i) - o) + j)) = (fun j => f (4 * i + j)) from by funext j; rw [addN_eq]; congr 1; omega]
def cBlk (args : List AV) (h : Heap) : Option (List Prop × AV) :=
  match args with
  | [x, y, .v1 (.sc (.w .u32 c))] => match vw h x, vw h y with
    | some (n, f, p1), some (m, g, p2) => some (p1 ++ p2 ++ [n = 32, m = 12], .v1 (.agg [.ws .u8 64 (blkF f g c)]))
    | _, _ => none
  | _ => none
def GBk : Ctx := ctxL [(40, .rd cLow32), (41, .mem cQr)]
theorem GBk_ok : CtxOk Try.prog GBk := ctxL_cons okLow32 <| ctxL_cons okQr ctxL_nil
abbrev W2 (t1 o1 n : Nat) (f : Nat → Nat) (v1 : WrapV) (t2 o2 m : Nat) (g : Nat → Nat) (v2 : WrapV) : Heap := [wB t1 o1 n f v1, wB t2 o2 m g v2]
abbrev VBk (k : Nat) : List AV := [.v1 (.sc (.pt 2 0)), .v1 (.sc (.pt 3 0)), .v1 (.sc (.pt 15 0)), iv (Int.ofNat k)]
abbrev HBk (t1 o1 : Nat) (f : Nat → Nat) (v1 : WrapV) (t2 o2 : Nat) (g : Nat → Nat) (v2 : WrapV) (s x : Nat → Nat) : Heap := [wB t1 o1 32 f v1, wB t2 o2 12 g v2, some ⟨49, [.ws .u8 64 (fun _ => 0)], 0, 0⟩, xB 58 s, none, none, none, none, none, none, none, none, none, none, none, xB 58 x]
theorem okBlk : (CallC.rd cBlk).Ok Try.prog 28 := by
  refine ⟨fun args h pre v e hp => ?_, fun args h slot blk hs ha => ?_⟩
  · unfold cBlk at e
    split at e
    rotate_left
    · cases e
    rename_i x y c
    split at e
    rotate_left
    · cases e
    rename_i n f p1 m g p2 h1 h2
    cases e
    have hn : n = 32 := hp (n = 32) (by simp)
    have hm : m = 12 := hp (m = 12) (by simp)
    subst hn; subst hm
    refine views_call tt_ok Try.func28 (by kernel_rfl) (by kernel_rfl) [.vs 32 f, .vs 12 g, .pl (u32v c)] (args := [x, y, u32v c])
      ⟨⟨p1, h1, fun p hq => hp p (by simp [hq])⟩, ⟨p2, h2, fun p hq => hp p (by simp [hq])⟩, ⟨rfl, rfl⟩, trivial⟩ 0 [] (.v1 (.agg [.ws .u8 64 (blkF f g c)])) rfl rfl rfl (fun t ht => by simp at ht) fun a W hi => ⟨[], rfl, ?_⟩
    rcases hi with _ | _ | ⟨w1, h0, hi⟩ | ⟨t1, o1, c1, v1, kc1, hi⟩ | _
    · exact absurd h0 (by decide)
    rcases hi with _ | _ | ⟨w1, h0, hi⟩ | ⟨t2, o2, c2, v2, kc2, hi⟩ | _
    · exact absurd h0 (by decide)
    rcases hi with _ | hi | _ | _ | _
    cases hi
    obtain ⟨e1, rfl⟩ : ∃ e1, c1 = e1 + 32 := ⟨c1 - 32, by omega⟩
    obtain ⟨e2, rfl⟩ : ∃ e2, c2 = e2 + 12 := ⟨c2 - 12, by omega⟩
    have hend : endM [0, 1] (W2 t1 o1 32 f v1 t2 o2 12 g v2) (W2 t1 o1 32 f v1 t2 o2 12 g v2) (.v1 (.agg [.ws .u8 64 (upN (outF (itF 10 (iniF (kwO o1 f) (kwO o2 g) c)) (iniF (kwO o1 f) (kwO o2 g) c)) 64)])) (.v1 (.agg [.ws .u8 64 (blkF f g c)])) := by
      refine endM_ok (simH_refl _) rfl fun ρ => ?_
      show (AV.v1 (.agg [.ws .u8 64 (upN (outF (itF 10 (iniF (kwO o1 f) (kwO o2 g) c)) (iniF (kwO o1 f) (kwO o2 g) c)) 64)])).val ρ = (AV.v1 (.agg [.ws .u8 64 (blkF f g c)])).val ρ
      rw [kwO_eq, kwO_eq]
      simp only [AV.val, V1.val]
      rw [ws8_val (g := blkF f g c) (fun j hj => by rw [upN_lt hj]; rfl) ρ]
    refine loopK mixed tt_ok GBk_ok 2 (by kernel_rfl) (ι := {k // k ≤ 10}) [6,7,10,45] 112 16 (fun k => VBk k.1) (fun k => HBk t1 o1 f v1 t2 o2 g v2 (iniF (kwO o1 f) (kwO o2 g) c) (itF k.1 (iniF (kwO o1 f) (kwO o2 g) c))) (fun k => 10 - k.1) (fun k => k.1 = 10)
      (fun _ => rfl) (fun _ => by kernel_rfl) (fun x j h => by have := Dm_lt h; simp at this; have : j = 0 ∨ j = 1 := by omega
                                                               rcases this with rfl | rfl <;> exact ⟨_, rfl⟩) 3000 [] ?_ ?_ ?_
    · refine same (p := lw o1 32 e1 0 (lw o1 32 e1 4 (lw o1 32 e1 8 (lw o1 32 e1 12 (lw o1 32 e1 16 (lw o1 32 e1 20 (lw o1 32 e1 24 (lw o1 32 e1 28 (lw o2 12 e2 0 (lw o2 12 e2 4 (lw o2 12 e2 8 (true = true ∧ ∃ j : {k // k ≤ 10}, VBk 0 = VBk j.1 ∧ HBk t1 o1 f v1 t2 o2 g v2 (iniF (kwO o1 f) (kwO o2 g) c) (iniF (kwO o1 f) (kwO o2 g) c) = HBk t1 o1 f v1 t2 o2 g v2 (iniF (kwO o1 f) (kwO o2 g) c) (itF j.1 (iniF (kwO o1 f) (kwO o2 g) c)))))))))))))) ?_ (by kernel_rfl)
      exact lw_of (by decide) (lw_of (by decide) (lw_of (by decide) (lw_of (by decide) (lw_of (by decide) (lw_of (by decide) (lw_of (by decide) (lw_of (by decide) (lw_of (by decide) (lw_of (by decide) (lw_of (by decide) (⟨rfl, ⟨0, by decide⟩, rfl, rfl⟩)))))))))))
    · intro ⟨k, hk⟩ junk
      generalize hs : (iniF (kwO o1 f) (kwO o2 g) c) = s
      by_cases hlt : k < 10
      · refine roundF mixed tt_ok GBk_ok 500 [⟨15,0,.lit (.bo true)⟩,⟨26,0,.lit (.it (Int.ofNat (k+1)))⟩] ?_
        refine same (p := ilt (Int.ofNat k) 10 = true ∧ rndP (wrapI (Int.ofNat k + 1) = Int.ofNat (k + 1) ∧ true = true ∧ ∃ j : {k // k ≤ 10}, 10 - j.1 < 10 - k ∧ VBk (k + 1) = VBk j.1 ∧ HBk t1 o1 f v1 t2 o2 g v2 s (rndF (itF k s)) = HBk t1 o1 f v1 t2 o2 g v2 s (itF j.1 s))) ?_ (by kernel_rfl)
        exact ⟨by rw [ilt_iff]; simp only [Int.ofNat_eq_natCast]; omega, rndP_of ⟨wrapI_nn (n := k + 1) (by omega), rfl, ⟨k + 1, by omega⟩, by simp only; omega, rfl, rfl⟩⟩
      · have : k = 10 := by omega
        subst this
        refine roundF mixed tt_ok GBk_ok 500 [⟨15,0,.lit (.bo false)⟩] ?_
        refine same (p := ilt (Int.ofNat 10) 10 = false ∧ true = true ∧ ∃ j : {k // k ≤ 10}, j.1 = 10 ∧ VBk 10 = VBk j.1 ∧ HBk t1 o1 f v1 t2 o2 g v2 s (itF 10 s) = HBk t1 o1 f v1 t2 o2 g v2 s (itF j.1 s)) ?_ (by kernel_rfl)
        exact ⟨rfl, rfl, ⟨10, hk⟩, rfl, rfl, rfl⟩
    · intro ⟨k, hk⟩ junk h0
      simp only at h0
      subst h0
      have hend : ∀ X s, X = itF 10 (iniF (kwO o1 f) (kwO o2 g) c) → s = (iniF (kwO o1 f) (kwO o2 g) c) → endM [0, 1] (W2 t1 o1 32 f v1 t2 o2 12 g v2) (W2 t1 o1 32 f v1 t2 o2 12 g v2) (.v1 (.agg [.ws .u8 64 (upN (outF X s) 64)])) (.v1 (.agg [.ws .u8 64 (blkF f g c)])) := fun X s hX hs => by
        rw [hX, hs]; exact hend
      show AWqS Try.prog _ _ _ ⟨mkT [6,7,10,45] (VBk 10) 112 junk, HBk t1 o1 f v1 t2 o2 g v2 (iniF (kwO o1 f) (kwO o2 g) c) (itF 10 (iniF (kwO o1 f) (kwO o2 g) c))⟩
      generalize hX : itF 10 (iniF (kwO o1 f) (kwO o2 g) c) = X
      generalize hs : (iniF (kwO o1 f) (kwO o2 g) c) = s
      refine evS_q mixed tt_ok GBk_ok 3000 [] (same (p := endM [0, 1] (W2 t1 o1 32 f v1 t2 o2 12 g v2) (W2 t1 o1 32 f v1 t2 o2 12 g v2) (.v1 (.agg [.ws .u8 64 (upN (outF X s) 64)])) (.v1 (.agg [.ws .u8 64 (blkF f g c)]))) ?_ (by kernel_rfl))
      exact hend X s hX.symm hs.symm
  · unfold cBlk
    split
    · rename_i x y c
      rw [vw_local hs (ha x (by simp)), vw_local hs (ha y (by simp))]
    · rfl
end Go.Proofs.Ytndmoidenbfflaa
