/- A slice of structs of integers and strings, opened: its cells, told by row and column. -/
import Derived.Test.YtijnahgehahokaaSxOpenB
import Derived.Deep.MidRow
set_option linter.unusedVariables false
namespace Go.Sx
open Go.ChangeShapes Go.WideShapes Go.ChangeAt Go.RowKit
variable {H : Type} {enc : TypeId × Value → H} {P : Program}
theorem open_rows {w : World} {spare : Nat → Bool} {held : Bool} {fuel : Nat} {t e : TypeId} {k0 : CK} {ks : List CK} {Bd : Nat} {a : Option Addr} {len cap : Nat} {x : DataW H × List MemPlace} (ht : P.underlying t = some (.slice e)) (hk : kindsOf P 40 e = some (k0 :: ks)) (hce : P.cellsOf e = (k0 :: ks).length)
    (h : DataW.trod enc P w 0 spare held fuel t [.slice a len cap] = some x) (hw : (x.1.weights P t).all (· ≤ Bd) = true) :
    len ≤ cap ∧ cap ≤ maxLen ∧ (a = none → len = 0) ∧ len * P.bytesOf e ≤ Bd ∧ ∃ us : Nat → List Value, ∀ j, j < len → shapeB Bd (k0 :: ks) (us j) ∧
      ∃ blk off, a = some ⟨blk, off, none⟩ ∧ blk < w.heap.size ∧ ∀ i v, (us j)[i]? = some v → w.cell? ⟨blk, off + j * (k0 :: ks).length + i, none⟩ = some v := by
  rcases Go.Deep.open_slice ht h with ⟨hcs, _⟩ | ⟨x, l, c, m, n, D, Pl, hcs, _, hl, hmx, hmm, rfl, hel⟩
  · obtain ⟨rfl, rfl, rfl⟩ : a = none ∧ len = 0 ∧ cap = 0 := by simpa using hcs
    exact ⟨Nat.le_refl _, Nat.zero_le _, fun _ => rfl, by simp, fun _ => [], fun j hj => absurd hj (Nat.not_lt_zero j)⟩
  · obtain ⟨rfl, rfl, rfl⟩ : a = some x ∧ len = l ∧ cap = c := by simpa using hcs
    have hlm : len ≤ m := by rw [hmm]; split <;> omega
    simp only [DataW.weights, ht, List.all_cons, List.all_append, Bool.and_eq_true, decide_eq_true_eq] at hw
    obtain ⟨hb, hwe, _⟩ := hw
    refine ⟨hl, hmx, fun h => (by cases h), Nat.le_trans (Nat.mul_le_mul_right _ (by simp)) hb, ?_⟩
    rw [hce] at hel
    have each : ∀ j, ∃ cs' : List Value, j < len → shapeB Bd (k0 :: ks) cs' ∧ ∀ i v, cs'[i]? = some v → w.cell? ((x.add (j * (k0 :: ks).length)).add i) = some v := by
      intro j
      by_cases hj : j < len
      · obtain ⟨cs', h1, h3⟩ := hel j (by omega)
        have hwj := weights_all hwe j (D j) (by simp [hj])
        have hs := trod_shapeB 40 hk h3 hwj
        refine ⟨cs', fun _ => ⟨hs, fun i v hv => ?_⟩⟩
        obtain ⟨_, hlen, hcell⟩ := World.cells?_some h1
        have hi : i < (k0 :: ks).length := by have := (List.getElem?_eq_some_iff.1 hv).1; omega
        have := hcell i hi
        rw [hv] at this
        exact this
      · exact ⟨[], fun h => absurd h hj⟩
    obtain ⟨us, hus⟩ : ∃ us : Nat → List Value, ∀ j, j < len → shapeB Bd (k0 :: ks) (us j) ∧ ∀ i v, (us j)[i]? = some v → w.cell? ((x.add (j * (k0 :: ks).length)).add i) = some v := ⟨fun j => (each j).choose, fun j hj => (each j).choose_spec hj⟩
    clear each
    refine ⟨us, fun j hj => ⟨(hus j hj).1, ?_⟩⟩
    have h0 := hus 0 (by omega)
    obtain ⟨v0, r0, e0, _⟩ := h0.1
    have h00 := h0.2 0 v0 (by rw [e0]; rfl)
    obtain ⟨b, off, spot⟩ := x
    have hspot : spot = none := by simpa [Addr.add] using World.cell?_spot h00
    subst hspot
    have hj2 := (hus j hj).2
    simp only [Addr.add_mid] at h00 hj2
    exact ⟨b, off, rfl, World.block_lt_of_cell? _ _ h00, hj2⟩
end Go.Sx
