/- A handed slice of bytes, opened; what is told of bytes alone. -/
import Derived.Test.YtndmoidenbfflaaRows
import Derived.Test.YtndmoidenbfflaaC20
import Derived.ProofKit
import Derived.Carry
import Derived.ChangeSlices
import Derived.ChangeMaps5
namespace Go.Proofs.Ytndmoidenbfflaa
open Go.Rq Go Go.ChangeShapes Go.WideShapes Go.ChangeAt Go.RowKit
set_option linter.unusedVariables false
set_option linter.unusedSimpArgs false
set_option maxRecDepth 100000
theorem Try.own : ownKnob Try.prog.godebug = none := by kernel_rfl
theorem u32_lit {z : Int} (h : (Lit.int .u32 z).wf = true) : Int.ofNat (z.toNat % 4294967296) = z := by
  simp only [Lit.wf, IntKind.min, IntKind.max, IntKind.signed, IntKind.bits, Bool.and_eq_true] at h
  simp only [Int.ofNat_eq_natCast]
  simp at h
  omega
theorem row_of_cell {w : World} {a : Addr} {v : Value} (h : w.cell? a = some v) : ∃ arr t fr, w.heap[a.block]? = some (.cells arr t fr) ∧ arr[a.off]? = some v ∧ a.spot = none := by
  unfold World.cell? at h
  split at h
  · rename_i c t fr hc
    split at h
    · cases h
    · rename_i hs
      exact ⟨c, t, fr, hc, h, by simpa using hs⟩
  · cases h
theorem cell_keep {w w' : World} (hs : StepW w w') {a : Addr} {v : Value} (h : w.cell? a = some v) : w'.cell? a = some v := by
  obtain ⟨arr, t, fr, h1, h2, h3⟩ := row_of_cell h
  have hb := (Array.getElem?_eq_some_iff.1 h1).1
  have e := hs.keep _ hb
  unfold World.cell? at h ⊢
  rw [e]; exact h
theorem u8_of {z : Int} (h : (Lit.int .u8 z).wf = true) : Int.ofNat (z.toNat % 256) = z := by
  have := bounds_u8 h
  simp only [Int.ofNat_eq_natCast]; omega
theorem bytes_open {H : Type} {enc : TypeId × Value → H} {Wd : World} {b0 : Nat} {v : Value} {d : DataW H} {p : List MemPlace}
    (h : DataW.Trod enc Try.prog Wd 0 (fun _ => true) true 22 v d p) (hv : Value.okWide Try.prog Wd .any b0 22 v) :
    ∃ n f, (Sh.vs n f).Sem Wd (fun _ => True) v ∧ ∀ (W' : World), StepW Wd W' → ∀ sp : Nat → Bool, (∀ q ∈ p, sp q.block = true) → DataW.Trod enc Try.prog W' 0 sp true 22 v d p := by
  obtain ⟨a1, len, cap, rfl⟩ := okWide_slice Try.underlying22 hv
  obtain ⟨fuel, hf⟩ := h
  have hc5 : Try.prog.cellsOf 5 = 1 := by kernel_rfl
  rcases open_ints Try.underlying22 Try.underlying5 hc5 hf with ⟨hcs, hx⟩ | ⟨a, len', cap', zs, hcs, hb, hl, hm, hz, hx, hcell, hwz⟩
  · simp [Value.cells] at hcs
    obtain ⟨rfl, rfl, rfl⟩ := hcs
    simp only [Prod.mk.injEq] at hx
    obtain ⟨rfl, rfl⟩ := hx
    refine ⟨0, fun _ => 0, .inl ⟨rfl, none, rfl⟩, fun W' hs sp hsp => ⟨1, ?_⟩⟩
    rw [DataW.trod_step]
    unfold DataW.trodStep
    simp [Try.underlying22, Value.cells]
  · simp [Value.cells] at hcs
    obtain ⟨rfl, rfl, rfl⟩ := hcs
    simp only [Prod.mk.injEq] at hx
    obtain ⟨rfl, rfl⟩ := hx
    simp only [if_true] at hz
    have shut : ∀ (W' : World), StepW Wd W' → ∀ sp : Nat → Bool, (∀ q ∈ MemPlace.row a zs.length, sp q.block = true) → DataW.Trod enc Try.prog W' 0 sp true 22 (.slice (some a) len cap) (.slice (lits .u8 (zs.take len)) (lits .u8 (zs.drop len))) (MemPlace.row a zs.length) := by
      intro W' hs sp hsp
      refine ⟨0 + 2, ?_⟩
      have hz' : zs.length = (if sp a.block then cap else len) := by
        by_cases h0 : zs.length = 0
        · have : cap = 0 := by omega
          have : len = 0 := by omega
          split <;> omega
        · have := hsp (.cell a.block (a.off + 0)) (by simp only [MemPlace.row, List.mem_map, List.mem_range]; exact ⟨0, by omega, rfl⟩)
          have hb : sp a.block = true := this
          rw [if_pos hb]; exact hz
      have := shut_ints (enc := enc) (w := W') (base := 0) (spare := sp) (held := true) 0 Try.underlying22 Try.underlying5 hc5 hb hl hm hz' (fun i hi => cell_keep hs (hcell i hi)) hwz
      simpa [Value.cells] using this
    by_cases h0 : cap = 0
    · have : len = 0 := by omega
      subst this; subst h0
      exact ⟨0, fun _ => 0, .inl ⟨rfl, _, rfl⟩, shut⟩
    · obtain ⟨arr, t, fr, h1, _, h3⟩ := row_of_cell (hcell 0 (by omega))
      rw [block_add] at h1
      have hsp : a.spot = none := by
        obtain ⟨_, _, spot⟩ := a
        cases spot with
        | none => rfl
        | some s => simp [Addr.add] at h3
      obtain ⟨B, off, spot⟩ := a
      simp only at hsp h1
      subst hsp
      have hle : len ≤ cap := by omega
      refine ⟨len, fun j => (zs.getD j 0).toNat, .inr ⟨⟨B, t, off, len, cap, len, fun j => (zs.getD j 0).toNat, arr, fr⟩, ⟨h1, fun j hj => ?_⟩, trivial, rfl, rfl, rfl, hle, rfl⟩, shut⟩
      have hj : j < len := hj
      have hc := hcell j (by omega)
      rw [add_plain, cell_of_row Wd B (off + j) arr t fr h1] at hc
      show arr[off + j]? = _
      rw [hc, u8_of (hwz _ (by
        have : zs.getD j 0 = zs[j]'(by omega) := by simp [List.getD, show j < zs.length by omega]
        rw [this]; exact List.getElem_mem _))]

theorem eqStr_of {n : Nat} {f g : Nat → Nat} (h : ∀ j, j < n → f j % 256 = g j % 256) : eqStr n f n g = true := by
  unfold eqStr
  have : Nat.beq n n = true := by simp
  rw [this, cond_true, eqN_iff]
  exact h
theorem lentF_lt {n j : Nat} {f : Nat → Nat} (h : j < n) : lentF n f j = f j := by
  have : Nat.blt j n = true := by rw [Nat.blt_eq]; exact h
  unfold lentF; rw [this, cond_true]
theorem kept_self {n : Nat} {f : Nat → Nat} : eqStr (n + 3) (fun j => lentF n f (addN 0 j)) (n + 3) (lentF n f) = true := eqStr_of fun j _ => by rw [addN_eq, Nat.zero_add]
theorem lx {n : Nat} {f : Nat → Nat} : ∀ j, j < n → (fun j => lentF n f (addN 0 j)) j = f j := fun j hj => by
  show lentF n f (addN 0 j) = f j
  rw [addN_eq, Nat.zero_add, lentF_lt hj]
theorem same0 {n : Nat} {F F' : Nat → Nat} (h : ∀ j, j < n → F j = F' j) : eqStr n (fun j => F (addN 0 j)) n F' = true := eqStr_of fun j hj => by rw [addN_eq, Nat.zero_add, h j hj]
theorem lo32_congr {f g : Nat → Nat} (h : ∀ j, j < 4 → f j = g j) : lo32 f = lo32 g := by
  unfold lo32
  rw [h 0 (by decide), h 1 (by decide), h 2 (by decide), h 3 (by decide)]
theorem lo64_congr {f g : Nat → Nat} (h : ∀ j, j < 8 → f j = g j) : lo64 f = lo64 g := by
  unfold lo64
  rw [lo32_congr (f := f) (g := g) fun j hj => h j (by omega), lo32_congr (f := fun j => f (4 + j)) (g := fun j => g (4 + j)) fun j hj => h (4 + j) (by omega)]
theorem kw_congr {f g : Nat → Nat} {n i : Nat} (h : ∀ j, j < n → f j = g j) (hi : 4 * i + 4 ≤ n) : kw f i = kw g i := lo32_congr fun j hj => h (4 * i + j) (by omega)
theorem iniF_congr {w w' v v' : Nat → Nat} {c : Nat} (h : ∀ i, i < 8 → w i = w' i) (k : ∀ i, i < 3 → v i = v' i) : iniF w v c = iniF w' v' c := by
  unfold iniF
  rw [h 0 (by decide), h 1 (by decide), h 2 (by decide), h 3 (by decide), h 4 (by decide), h 5 (by decide), h 6 (by decide), h 7 (by decide), k 0 (by decide), k 1 (by decide), k 2 (by decide)]
theorem blkF_congr {f f' g g' : Nat → Nat} {c : Nat} (h : ∀ j, j < 32 → f j = f' j) (k : ∀ j, j < 12 → g j = g' j) : blkF f g c = blkF f' g' c := by
  unfold blkF
  rw [iniF_congr (c := c) (fun i hi => kw_congr h (by omega)) (fun i hi => kw_congr k (by omega))]
theorem stF_congr {f f' g g' b b' : Nat → Nat} {c N : Nat} (h : ∀ j, j < 32 → f j = f' j) (k : ∀ j, j < 12 → g j = g' j) (hb : ∀ j, j < N → b j = b' j) : ∀ j, j < N → stF f g c b j = stF f' g' c b' j := fun j hj => by
  unfold stF
  rw [hb j hj, blkF_congr h k]
theorem accN_congr {b b' : Nat → Nat} {m r : Nat} (h : ∀ j, j < m → b j = b' j) : ∀ k, accN b m r k = accN b' m r k
  | 0 => rfl
  | k + 1 => by
    show (accN b m r k + chk1 b m k) * r % pP = (accN b' m r k + chk1 b' m k) * r % pP
    rw [accN_congr h k, show chk1 b m k = chk1 b' m k by
      unfold chk1
      rw [num_congr fun j hj => by rw [h (16 * k + j) (by omega)]]]
theorem tagN_congr {f f' b b' : Nat → Nat} {m : Nat} (h : ∀ j, j < 32 → f j = f' j) (hb : ∀ j, j < m → b j = b' j) : tagN f b m = tagN f' b' m := by
  unfold tagN rN
  rw [show pcL f = pcL f' from lo64_congr fun j hj => h j (by omega), show pcH f = pcH f' from lo64_congr fun j hj => h (8 + j) (by omega), accN_congr hb,
    num_congr (n := 16) (f := fun j => f (16 + j) % 256) (g := fun j => f' (16 + j) % 256) fun j hj => by rw [h (16 + j) (by omega)]]
end Go.Proofs.Ytndmoidenbfflaa
