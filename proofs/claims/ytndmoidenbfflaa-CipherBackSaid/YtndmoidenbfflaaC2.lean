/- Quarter rounds. Printed by genc2.py. -/
import Derived.Test.YtndmoidenbfflaaC1
namespace Go.Proofs.Ytndmoidenbfflaa
open Go.Rq Go
set_option linter.unusedVariables false
set_option linter.unusedSimpArgs false

def qA (f : Nat → Nat) (a b : Nat) : Nat → Nat := upd f a (f a + f b)
def qR (f : Nat → Nat) (d a k : Nat) : Nat → Nat := upd f d (rotV (f d ^^^ f a) k)
def qrF (a b c d : Nat) (f : Nat → Nat) : Nat → Nat := qR (qA (qR (qA (qR (qA (qR (qA f a b) d a 16) c d) b c 12) a b) d a 8) c d) b c 7
abbrev xB (t : Nat) (f : Nat → Nat) : Option Blk := some ⟨t, [.ws .u32 16 f], 0, 0⟩
def endX (t : Nat) (f g : Nat → Nat) : Prop := true = true ∧ true = true ∧ SimH [xB t f] [xB t g] ∧ ∃ v', some (AV.tup []) = some v' ∧ avB [xB t f] (bkAV [0] v') = true ∧ ∀ ρ, (bkAV [0] v').val ρ = (AV.tup []).val ρ
theorem endX_of {t : Nat} {f g : Nat → Nat} (h : f = g) : endX t f g := by subst h; exact ⟨rfl, rfl, ⟨⟨rfl, rfl, rfl, fun _ => rfl⟩, trivial⟩, _, rfl, rfl, fun _ => rfl⟩
theorem bk_one (b : Nat) : bk [b] b = 0 := by simp [bk, idxN]
def cQr (args : List AV) (h : Heap) (slot : Nat) : Option (List Prop × AV × Heap) :=
  match args with
  | [.v1 (.sc (.pt p a)), .v1 (.sc (.pt p1 b)), .v1 (.sc (.pt p2 c)), .v1 (.sc (.pt p3 d))] => match hget h p with
    | some ⟨t0, [.ws .u32 16 f], 0, 0⟩ => match Nat.beq p p1 && (Nat.beq p p2 && Nat.beq p p3) with
      | true => some ([a < 16, b < 16, c < 16, d < 16], .tup [], hset h p ⟨t0, [.ws .u32 16 (qrF a b c d f)], 0, 0⟩)
      | false => none
    | _ => none
  | _ => none
def GQr : Ctx := ctxL [(51, .pure cRot)]
theorem GQr_ok : CtxOk Try.prog GQr := ctxL_cons okRot ctxL_nil
def GQr' : Ctx := ctxL [(52, .pure cRot)]
theorem GQr'_ok : CtxOk Try.prog GQr' := ctxL_cons okRot' ctxL_nil
theorem okQr : (CallC.mem cQr).Ok Try.prog 41 := by
  intro args h slot pre v h' e hp
  unfold cQr at e
  split at e
  rotate_left
  · cases e
  rename_i p a p1 b p2 c p3 d
  split at e
  rotate_left
  · cases e
  rename_i t0 f hb0
  split at e
  rotate_left
  · cases e
  rename_i hty
  cases e
  simp only [Bool.and_eq_true, Nat.beq_eq] at hty
  obtain ⟨rfl, rfl, rfl⟩ := hty
  have ha : a < 16 := hp (a < 16) (by simp)
  have hb : b < 16 := hp (b < 16) (by simp)
  have hc : c < 16 := hp (c < 16) (by simp)
  have hd : d < 16 := hp (d < 16) (by simp)
  have hl := hget_lt hb0
  refine mem_walk tt_ok Try.func41 (by kernel_rfl) (by kernel_rfl) [p] [] slot [xB t0 f] [xB t0 (qrF a b c d f)] (args' := [.v1 (.sc (.pt 0 a)), .v1 (.sc (.pt 0 b)), .v1 (.sc (.pt 0 c)), .v1 (.sc (.pt 0 d))]) (vK := .tup [])
    (by kernel_rfl) ?_ (by kernel_rfl) ?_ (by kernel_rfl) (fun i hi => ?_) (by kernel_rfl) (by kernel_rfl) (fun i hi => ?_) (by kernel_rfl) ?_ rfl (fun t ht => by simp at ht) (fun i hi _ => ?_) ?_
  · show [pickB _ (hget h p)] = _
    rw [hb0]; rfl
  · show [AV.v1 (.sc (.pt (bk [p] p) a)), AV.v1 (.sc (.pt (bk [p] p) b)), AV.v1 (.sc (.pt (bk [p] p) c)), AV.v1 (.sc (.pt (bk [p] p) d))] = _
    rw [bk_one]
  · have : i = 0 := by simpa using hi
    subst this; exact ⟨_, rfl, by simp⟩
  · have : i = 0 := by simpa using hi
    subst this; exact ⟨_, rfl⟩
  · show [pickB _ (hget (hset h p _) p)] = _
    rw [hget_hset_same hl]; rfl
  · exact hget_hset_ne fun e => hi 0 (by simp) e.symm
  · refine evS_q mixed tt_ok GQr_ok 60 [⟨0,2,.sym⟩,⟨0,5,.sym⟩,⟨0,8,.sym⟩,⟨1,3,.sym⟩,⟨1,6,.sym⟩,⟨1,10,.sym⟩,⟨2,2,.sym⟩,⟨2,5,.sym⟩,⟨2,8,.sym⟩,⟨3,3,.sym⟩,⟨3,6,.sym⟩,⟨3,10,.sym⟩,⟨4,2,.sym⟩,⟨4,5,.sym⟩,⟨4,8,.sym⟩,⟨5,3,.sym⟩,⟨5,6,.sym⟩,⟨5,10,.sym⟩,⟨6,2,.sym⟩,⟨6,5,.sym⟩,⟨6,8,.sym⟩,⟨7,3,.sym⟩,⟨7,6,.sym⟩,⟨7,10,.sym⟩] (same (p := a < 16 ∧ b < 16 ∧ a < 16 ∧ d < 16 ∧ a < 16 ∧ (16 = 16 ∨ 16 = 12 ∨ 16 = 8 ∨ 16 = 7) ∧ d < 16 ∧ c < 16 ∧ d < 16 ∧ c < 16 ∧ b < 16 ∧ c < 16 ∧ (12 = 16 ∨ 12 = 12 ∨ 12 = 8 ∨ 12 = 7) ∧ b < 16 ∧ a < 16 ∧ b < 16 ∧ a < 16 ∧ d < 16 ∧ a < 16 ∧ (8 = 16 ∨ 8 = 12 ∨ 8 = 8 ∨ 8 = 7) ∧ d < 16 ∧ c < 16 ∧ d < 16 ∧ c < 16 ∧ b < 16 ∧ c < 16 ∧ (7 = 16 ∨ 7 = 12 ∨ 7 = 8 ∨ 7 = 7) ∧ b < 16 ∧ endX t0 (qrF a b c d f) (qrF a b c d f)) ?_ (by kernel_rfl))
    exact ⟨ha, hb, ha, hd, ha, by decide, hd, hc, hd, hc, hb, hc, by decide, hb, ha, hb, ha, hd, ha, by decide, hd, hc, hd, hc, hb, hc, by decide, hb, endX_of rfl⟩
def cQr' : List AV → Option (List Prop × AV)
  | [.v1 (.agg [.ws .u32 16 f]), .v1 (.sc (.it (.ofNat a))), .v1 (.sc (.it (.ofNat b))), .v1 (.sc (.it (.ofNat c))), .v1 (.sc (.it (.ofNat d)))] => some ([a < 16, b < 16, c < 16, d < 16], .v1 (.agg [.ws .u32 16 (qrF a b c d f)]))
  | _ => none
theorem okQr' : (CallC.pure cQr').Ok Try.prog 43 := by
  intro args pre v e hp
  unfold cQr' at e
  split at e
  rotate_left
  · cases e
  rename_i f a b c d
  cases e
  have ha : a < 16 := hp (a < 16) (by simp)
  have hb : b < 16 := hp (b < 16) (by simp)
  have hc : c < 16 := hp (c < 16) (by simp)
  have hd : d < 16 := hp (d < 16) (by simp)
  refine pure_walk' tt_ok Try.func43 (by kernel_rfl) (by kernel_rfl) (by rfl) (by rfl) ?_
  refine evS_q mixed tt_ok GQr'_ok 60 [⟨1,2,.sym⟩,⟨1,3,.sym⟩,⟨1,5,.sym⟩,⟨1,6,.sym⟩,⟨1,8,.sym⟩,⟨1,9,.sym⟩,⟨2,2,.sym⟩,⟨2,3,.sym⟩,⟨2,5,.sym⟩,⟨2,6,.sym⟩,⟨2,9,.sym⟩,⟨2,10,.sym⟩,⟨3,2,.sym⟩,⟨3,3,.sym⟩,⟨3,5,.sym⟩,⟨3,6,.sym⟩,⟨3,8,.sym⟩,⟨3,9,.sym⟩,⟨4,2,.sym⟩,⟨4,3,.sym⟩,⟨4,5,.sym⟩,⟨4,6,.sym⟩,⟨4,9,.sym⟩,⟨4,10,.sym⟩,⟨5,2,.sym⟩,⟨5,3,.sym⟩,⟨5,5,.sym⟩,⟨5,6,.sym⟩,⟨5,8,.sym⟩,⟨5,9,.sym⟩,⟨6,2,.sym⟩,⟨6,3,.sym⟩,⟨6,5,.sym⟩,⟨6,6,.sym⟩,⟨6,9,.sym⟩,⟨6,10,.sym⟩,⟨7,2,.sym⟩,⟨7,3,.sym⟩,⟨7,5,.sym⟩,⟨7,6,.sym⟩,⟨7,8,.sym⟩,⟨7,9,.sym⟩,⟨8,2,.sym⟩,⟨8,3,.sym⟩,⟨8,5,.sym⟩,⟨8,6,.sym⟩,⟨8,9,.sym⟩,⟨8,10,.sym⟩] (same (p := ix a 16 (ix b 16 (ix a 16 (ix d 16 (ix a 16 ((16 = 16 ∨ 16 = 12 ∨ 16 = 8 ∨ 16 = 7) ∧ ix d 16 (ix c 16 (ix d 16 (ix c 16 (ix b 16 (ix c 16 ((12 = 16 ∨ 12 = 12 ∨ 12 = 8 ∨ 12 = 7) ∧ ix b 16 (ix a 16 (ix b 16 (ix a 16 (ix d 16 (ix a 16 ((8 = 16 ∨ 8 = 12 ∨ 8 = 8 ∨ 8 = 7) ∧ ix d 16 (ix c 16 (ix d 16 (ix c 16 (ix b 16 (ix c 16 ((7 = 16 ∨ 7 = 12 ∨ 7 = 8 ∨ 7 = 7) ∧ ix b 16 (endN (.v1 (.agg [.ws .u32 16 (qrF a b c d f)])) (.v1 (.agg [.ws .u32 16 (qrF a b c d f)]))))))))))))))))))))))))))) ?_ (by kernel_rfl))
  exact ix_of ha (ix_of hb (ix_of ha (ix_of hd (ix_of ha (⟨by decide, ix_of hd (ix_of hc (ix_of hd (ix_of hc (ix_of hb (ix_of hc (⟨by decide, ix_of hb (ix_of ha (ix_of hb (ix_of ha (ix_of hd (ix_of ha (⟨by decide, ix_of hd (ix_of hc (ix_of hd (ix_of hc (ix_of hb (ix_of hc (⟨by decide, ix_of hb ((⟨_, rfl, fun _ => rfl⟩ : endN (.v1 (.agg [.ws .u32 16 (qrF a b c d f)])) (.v1 (.agg [.ws .u32 16 (qrF a b c d f)]))))⟩))))))⟩))))))⟩))))))⟩)))))
end Go.Proofs.Ytndmoidenbfflaa
