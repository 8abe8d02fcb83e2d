/- The block of a key and a nonce, of the document. Printed by genc15.py. -/
import Derived.Test.YtndmoidenbfflaaC13
namespace Go.Proofs.Ytndmoidenbfflaa
open Go.Rq Go
set_option linter.unusedVariables false
set_option linter.unusedSimpArgs false
set_option maxHeartbeats 4000000
set_option maxRecDepth 100000
def kwD (o : Nat) (f : Nat → Nat) : Nat → Nat := fun i => lo32 fun j => f (o - o + (4 * i + j))
theorem kwD_eq (o : Nat) (f : Nat → Nat) : kwD o f = kw f := by
  funext i
  unfold kwD kw
  congr 1; funext j; congr 1; omega
def q4F (n : Nat) : Nat → Nat := upd (upd (upd (upd (fun _ => 0) 0 (n % 4294967296)) 1 (n % 4294967296 / 256 % 4294967296)) 2 (n % 4294967296 / 65536 % 4294967296)) 3 (n % 4294967296 / 16777216 % 4294967296)
def oqF (v : Nat → Nat) : Nat → Nat → Nat
  | 0 => fun _ => 0
  | 1 => q4F (v 0)
  | k + 2 => catF (4 * (k + 1)) (oqF v (k + 1)) (q4F (v (k + 1)))
theorem q4F_at (n : Nat) {j : Nat} (hj : j < 4) : q4F n j % 256 = n % 4294967296 / 2 ^ (8 * j) % 256 := by
  have : j = 0 ∨ j = 1 ∨ j = 2 ∨ j = 3 := by omega
  rcases this with rfl | rfl | rfl | rfl
  · show n % 4294967296 % 256 = _
    simp
  · show n % 4294967296 / 256 % 4294967296 % 256 = n % 4294967296 / 256 % 256
    omega
  · show n % 4294967296 / 65536 % 4294967296 % 256 = n % 4294967296 / 65536 % 256
    omega
  · show n % 4294967296 / 16777216 % 4294967296 % 256 = n % 4294967296 / 16777216 % 256
    omega
theorem oqF_at (v : Nat → Nat) : ∀ k j, j < 4 * k → oqF v k j % 256 = v (j / 4) % 4294967296 / 2 ^ (8 * (j % 4)) % 256
  | 0, _, h => by omega
  | 1, j, h => by
    have h4 : j < 4 := by omega
    rw [show j / 4 = 0 by omega, show j % 4 = j by omega]
    exact q4F_at _ h4
  | k + 2, j, h => by
    show (bif Nat.blt j (4 * (k + 1)) then oqF v (k + 1) j else q4F (v (k + 1)) (j - 4 * (k + 1))) % 256 = _
    by_cases hj : j < 4 * (k + 1)
    · have : Nat.blt j (4 * (k + 1)) = true := by rw [Nat.blt_eq]; exact hj
      rw [this, cond_true]; exact oqF_at v (k + 1) j hj
    · have h2 : Nat.blt j (4 * (k + 1)) = false := by rw [← Bool.not_eq_true, Nat.blt_eq]; exact hj
      rw [h2, cond_false, q4F_at _ (by omega), show j / 4 = k + 1 by omega, show j - 4 * (k + 1) = j % 4 by omega]
theorem oq_out (g s : Nat → Nat) {j : Nat} (hj : j < 64) : oqF (fun i => g i + s i) 16 j % 256 = outF g s j % 256 := by
  rw [oqF_at _ 16 j (by omega)]
  unfold outF
  generalize (g (j / 4) + s (j / 4)) % 4294967296 / 2 ^ (8 * (j % 4)) = x
  omega
/-- What four asks of a window. -/
def fw4 (o n c a : Nat) (q : Prop) : Prop := o ≤ o ∧ o - o + n ≤ n ∧ n ≤ c ∧ a + 4 ≤ n ∧ n < 1000000000 ∧ q
theorem fw4_of {o n c a : Nat} {q : Prop} (h : a + 4 ≤ n) (hn : n < 1000000000) (hc : n ≤ c) (k : q) : fw4 o n c a q := ⟨Nat.le_refl _, win_le, hc, h, hn, k⟩
def cBlk' (args : List AV) (h : Heap) (slot : Nat) : Option (List Prop × AV × Heap) :=
  match args with
  | [x, y, .v1 (.sc (.w .u32 c))] => match vw h x, vw h y, isHole h slot && isHole h (slot + 1) with
    | some (n, f, p1), some (m, g, p2), true => some (p1 ++ p2 ++ [n = 32, m = 12], .v1 (.sc (.so slot 64)), hset (hset h slot ⟨5, [.ws .u8 64 (blkF f g c)], 1, 1⟩) (slot + 1) ⟨0, [], 2, 0⟩)
    | _, _, _ => none
  | _ => none
def GBk' : Ctx := ctxL [(42, .rd cFour), (43, .pure cQr')]
theorem GBk'_ok : CtxOk Try.prog GBk' := ctxL_cons okFour <| ctxL_cons okQr' ctxL_nil
abbrev VBd (k : Nat) : List AV := [.v1 (.sc (.pt 2 0)), .v1 (.sc (.pt 14 0)), iv (Int.ofNat k)]
abbrev HBd (t1 o1 : Nat) (f : Nat → Nat) (v1 : WrapV) (t2 o2 : Nat) (g : Nat → Nat) (v2 : WrapV) (s x : Nat → Nat) : Heap := [wB t1 o1 32 f v1, wB t2 o2 12 g v2, xB 58 x, none, none, none, none, none, none, none, none, none, none, none, xB 58 s]
abbrev so64 (f : Nat → Nat) : Option Blk := some ⟨5, [.ws .u8 64 f], 1, 1⟩
theorem okBlk' : (CallC.mem cBlk').Ok Try.prog 30 := by
  intro args h slot pre v h' e hp
  unfold cBlk' at e
  split at e
  rotate_left
  · cases e
  rename_i x y c
  split at e
  rotate_left
  · cases e
  rename_i n f p1 m g p2 h1 h2 hh
  cases e
  simp only [Bool.and_eq_true] at hh
  have hn : n = 32 := hp (n = 32) (by simp)
  have hm : m = 12 := hp (m = 12) (by simp)
  subst hn; subst hm
  generalize hF : blkF f g c = F
  refine views_call tt_ok Try.func30 (by kernel_rfl) (by kernel_rfl) [.vs 32 f, .vs 12 g, .pl (u32v c)] (args := [x, y, u32v c])
    ⟨⟨p1, h1, fun p hq => hp p (by simp [hq])⟩, ⟨p2, h2, fun p hq => hp p (by simp [hq])⟩, ⟨rfl, rfl⟩, trivial⟩ slot [⟨5, [.ws .u8 64 F], 1, 1⟩, ⟨0, [], 2, 0⟩] (.v1 (.sc (.so 0 64))) rfl rfl rfl (fun t ht => by
      have : t = 0 ∨ t = 1 := by simp at ht; omega
      rcases this with rfl | rfl
      · exact hh.1
      · exact hh.2) fun a W hi => ⟨[61, 62], rfl, ?_⟩
  rcases hi with _ | _ | ⟨w1, h0, hi⟩ | ⟨t1, o1, c1, v1, kc1, hi⟩ | _
  · exact absurd h0 (by decide)
  rcases hi with _ | _ | ⟨w1, h0, hi⟩ | ⟨t2, o2, c2, v2, kc2, hi⟩ | _
  · exact absurd h0 (by decide)
  rcases hi with _ | hi | _ | _ | _
  cases hi
  have hend : ∀ X s, X = itF 10 (iniF (kwD o1 f) (kwD o2 g) c) → s = (iniF (kwD o1 f) (kwD o2 g) c) → ∀ j, j < 64 → oqF (fun i => X i + s i) 16 j % 256 = F j % 256 := fun X s hX hs j hj => by
    rw [oq_out _ _ hj, hX, hs, kwD_eq, kwD_eq, ← hF]; rfl
  refine loopK mixed tt_ok GBk'_ok 2 (by kernel_rfl) (ι := {k // k ≤ 10}) [7,10,11] 108 15 (fun k => VBd k.1) (fun k => HBd t1 o1 f v1 t2 o2 g v2 (iniF (kwD o1 f) (kwD o2 g) c) (itF k.1 (iniF (kwD o1 f) (kwD o2 g) c))) (fun k => 10 - k.1) (fun k => k.1 = 10)
    (fun _ => rfl) (fun _ => by kernel_rfl) (fun x j h => by have := Dm_lt h; simp at this; have : j = 0 ∨ j = 1 := by omega
                                                             rcases this with rfl | rfl <;> exact ⟨_, rfl⟩) 3000 [] ?_ ?_ ?_
  · refine same (p := fw4 o1 32 c1 0 (fw4 o1 32 c1 4 (fw4 o1 32 c1 8 (fw4 o1 32 c1 12 (fw4 o1 32 c1 16 (fw4 o1 32 c1 20 (fw4 o1 32 c1 24 (fw4 o1 32 c1 28 (fw4 o2 12 c2 0 (fw4 o2 12 c2 4 (fw4 o2 12 c2 8 (true = true ∧ ∃ j : {k // k ≤ 10}, VBd 0 = VBd j.1 ∧ HBd t1 o1 f v1 t2 o2 g v2 (iniF (kwD o1 f) (kwD o2 g) c) (iniF (kwD o1 f) (kwD o2 g) c) = HBd t1 o1 f v1 t2 o2 g v2 (iniF (kwD o1 f) (kwD o2 g) c) (itF j.1 (iniF (kwD o1 f) (kwD o2 g) c)))))))))))))) ?_ (by kernel_rfl)
    exact fw4_of (by decide) (by decide) kc1 (fw4_of (by decide) (by decide) kc1 (fw4_of (by decide) (by decide) kc1 (fw4_of (by decide) (by decide) kc1 (fw4_of (by decide) (by decide) kc1 (fw4_of (by decide) (by decide) kc1 (fw4_of (by decide) (by decide) kc1 (fw4_of (by decide) (by decide) kc1 (fw4_of (by decide) (by decide) kc2 (fw4_of (by decide) (by decide) kc2 (fw4_of (by decide) (by decide) kc2 (⟨rfl, ⟨0, by decide⟩, rfl, rfl⟩)))))))))))
  · intro ⟨k, hk⟩ junk
    generalize hs : (iniF (kwD o1 f) (kwD o2 g) c) = s
    by_cases hlt : k < 10
    · refine roundF mixed tt_ok GBk'_ok 500 [⟨17,1,.lit (.bo true)⟩,⟨18,1,.lit (.it (Int.ofNat (k+1)))⟩] ?_
      refine same (p := ilt (Int.ofNat k) 10 = true ∧ rndP (wrapI (Int.ofNat k + 1) = Int.ofNat (k + 1) ∧ true = true ∧ ∃ j : {k // k ≤ 10}, 10 - j.1 < 10 - k ∧ VBd (k + 1) = VBd j.1 ∧ HBd t1 o1 f v1 t2 o2 g v2 s (rndF (itF k s)) = HBd t1 o1 f v1 t2 o2 g v2 s (itF j.1 s))) ?_ (by kernel_rfl)
      exact ⟨ilt_t (n := 10) hlt, rndP_of ⟨wrapI_nn (n := k + 1) (by omega), rfl, ⟨k + 1, by omega⟩, by simp only; omega, rfl, rfl⟩⟩
    · have : k = 10 := by omega
      subst this
      refine roundF mixed tt_ok GBk'_ok 500 [⟨17,1,.lit (.bo false)⟩] ?_
      refine same (p := ilt (Int.ofNat 10) 10 = false ∧ true = true ∧ ∃ j : {k // k ≤ 10}, j.1 = 10 ∧ VBd 10 = VBd j.1 ∧ HBd t1 o1 f v1 t2 o2 g v2 s (itF 10 s) = HBd t1 o1 f v1 t2 o2 g v2 s (itF j.1 s)) ?_ (by kernel_rfl)
      exact ⟨rfl, rfl, ⟨10, hk⟩, rfl, rfl, rfl⟩
  · intro ⟨k, hk⟩ junk h0
    simp only at h0
    subst h0
    show AWqS Try.prog _ _ _ ⟨mkT [7,10,11] (VBd 10) 108 junk, HBd t1 o1 f v1 t2 o2 g v2 (iniF (kwD o1 f) (kwD o2 g) c) (itF 10 (iniF (kwD o1 f) (kwD o2 g) c))⟩
    have hend := hend _ _ rfl rfl
    generalize hX : itF 10 (iniF (kwD o1 f) (kwD o2 g) c) = X at *
    generalize hs : (iniF (kwD o1 f) (kwD o2 g) c) = s at *
    refine evS_q mixed tt_ok GBk'_ok 3000 [] (same (p := endM [0, 1, 61, 62] [wB t1 o1 32 f v1, wB t2 o2 12 g v2, so64 (oqF (fun i => X i + s i) 16), deB] [wB t1 o1 32 f v1, wB t2 o2 12 g v2, so64 F, deB] (.v1 (.sc (.so 61 64))) (.v1 (.sc (.so 2 64)))) ?_ (by kernel_rfl))
    exact endM_ok ⟨simB_refl _, simB_refl _, ⟨rfl, rfl, rfl, fun ρ => ws8_val hend ρ⟩, simB_refl _, trivial⟩ rfl fun _ => rfl
end Go.Proofs.Ytndmoidenbfflaa
