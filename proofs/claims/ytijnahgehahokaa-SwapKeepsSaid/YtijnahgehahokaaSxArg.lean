/- A call by contract that reads a row of its caller's own, and answers with a row that its caller reads. -/
import Derived.Test.YtijnahgehahokaaSxTop
set_option linter.unusedVariables false
namespace Go.Sx
open Go.RowKit
variable {P : Program} {tab : Tab}
def plainCells (cs : List SV) : Prop := ∀ x, x ∈ cs → ∃ v, x = .v v
theorem relL_cells {E E' : Env} : ∀ {cs : List SV} {us : List Value}, plainCells cs → relL cs E us → relL cs E' us
  | [], _, _, h => by simp only [relL] at h ⊢; exact h
  | x :: xs, _, hp, h => by
    simp only [relL] at h ⊢
    obtain ⟨y, ys, rfl, h1, h2⟩ := h
    obtain ⟨v, rfl⟩ := hp x (by simp)
    simp only [rel] at h1
    exact ⟨y, ys, rfl, by simp only [rel]; exact h1, relL_cells (fun z hz => hp z (by simp [hz])) h2⟩
def under2 (E : Env) (v : Value) : Env := { w := E.w, ρ := fun _ => none, σ := fun _ _ => none, T := fun b => E.T b ∧ v.ownBlock ≠ some b, F := fun b => E.T b ∧ v.ownBlock ≠ some b }
theorem under2_ok {E : Env} {v : Value} (h : ∀ b, E.T b → b < E.w.heap.size) : Ok [] (under2 E v) :=
  ⟨fun i hb h => by simp at h, fun _ _ => ⟨rfl, fun _ => rfl⟩, fun i _ _ _ _ _ h => by simp at h, fun i _ _ _ _ _ h => by simp at h, fun b hb => h b hb.1, fun _ h => h, fun i _ _ h => by simp at h⟩
theorem under2_rel {E : Env} {v : Value} {args : List SV} {vals : List Value} (hs : scopeL 0 args = true) (h : relL args E vals) : relL args (under2 E v) vals :=
  relL_rext args (E := E.pl) (E' := under2 E v) ⟨Nat.le_refl _, fun _ _ h => h, fun _ _ _ h => h, fun b hb => ⟨rfl, fun h => hb.2 h.1⟩⟩ _ (relL_plain hs h)
/-- A row of one's own, read. -/
theorem row_read {w : World} {ty : TypeId} {sz n : Nat} {v : Value} {xs : List Value} {get : Nat → List SV} {F E : Env} (hw : E.w = w) (h : w.ownsRow 0 ty sz v n xs) (hst : ∀ g, v.ownBlock = some g → E.still g) (h1 : ∀ x, x ∈ xs → x.oneCell' = true)
    (hg : ∀ j, j < n → relL (get j) F ((xs.drop (j * sz)).take sz)) (hp : ∀ j, j < n → plainCells (get j)) : rel (.rs sz n get) E v := by
  subst hw
  simp only [rel]
  have hc := h
  obtain ⟨hl, h2⟩ := h
  rcases h2 with ⟨rfl, hn⟩ | ⟨g, cap, cur, rfl, _, hh, hnc, hcm, hcs, ht⟩
  · subst hn
    exact ⟨none, 0, rfl, Nat.le_refl _, Nat.zero_le _, fun _ => rfl, fun j hj => absurd hj (Nat.not_lt_zero j)⟩
  · refine ⟨_, cap, rfl, hnc, hcm, fun h => (by cases h), fun j hj => ?_⟩
    have hjl : j * sz + sz ≤ xs.length := by
      rw [hl]
      calc j * sz + sz = (j + 1) * sz := by rw [Nat.succ_mul]
        _ ≤ n * sz := Nat.mul_le_mul_right sz hj
    refine ⟨g, 0, (xs.drop (j * sz)).take sz, rfl, hst g rfl, relL_cells (hp j hj) (hg j hj), by simp; omega, ?_, fun u hu => h1 u (List.mem_of_mem_drop (List.mem_of_mem_take hu))⟩
    intro k u hu
    have hk : k < sz := by
      have := (List.getElem?_eq_some_iff.1 hu).1
      simp at this; omega
    rw [List.getElem?_take_of_lt hk, List.getElem?_drop] at hu
    have := hc.cells (g := g) rfl _ _ hu
    rw [Addr.add_mid, ← Nat.add_assoc] at this
    exact this
/-- The contract of a function that reads a row of its caller's own and answers with a new row. -/
theorem ownArg_ok {call : CallH} (hcall : CallOk P call) {f : FuncId} {m : List SV → (TypeId → Nat → Nat → (Nat → List SV) → Prop) → Prop} (h : ∀ args κ, m args κ → scopeL 0 args = true ∧ call f args [] (finRow std κ)) :
    CallOk P fun g args H κ => g = f ∧ ∃ x x0 r ver ty sz n g get, args = [x, .o r ver] ∧ (∀ E u, rel x E u → rel x0 E u) ∧ H[r]? = some (.row ty sz n g ver) ∧ (∀ j, j < n → g j = get j) ∧ (∀ j, j < n → plainCells (get j)) ∧
      m [x0, .rs sz n get] fun _ sz' n' get' => (∀ j, j < n' → plainCells (get' j)) ∧ κ (.rs sz' n' get') H := by
  rintro g args H κ ⟨rfl, x, x0, r, ver, ty0, sz0, n0, g0, get0, rfl, hx0, hr0, hg0, hp0, hm⟩
  obtain ⟨hs, hc⟩ := h _ _ hm
  obtain ⟨h1, h2⟩ := hcall g _ [] _ hc
  refine ⟨h1, fun E vals hO hr => ?_⟩
  simp only [relL] at hr
  obtain ⟨u1, us1, rfl, hx1, v, us2, rfl, hv, rfl⟩ := hr
  obtain ⟨v', xs0, q1, q0, q2, q3, q5, q4⟩ := hO.blocks r _ hr0
  simp only [rel] at hv
  rw [hv.1] at q1; cases q1
  have hrel : relL [x0, .rs sz0 n0 get0] (under2 E v) [u1, v] := by
    have hsx : scopeL 0 [x0] = true := by simp only [scopeL, Bool.and_eq_true] at hs ⊢; exact ⟨hs.1, trivial⟩
    have e1 := under2_rel (v := v) hsx (vals := [u1]) (by simp only [relL]; exact ⟨u1, [], rfl, hx0 _ _ hx1, rfl⟩)
    simp only [relL] at e1 ⊢
    obtain ⟨_, _, e2, e3, e4⟩ := e1
    cases e2
    exact ⟨u1, [v], rfl, e3, v, [], rfl, row_read (E := under2 E v) rfl q2 (fun g hg => ⟨hO.tlt g (q3 g hg), fun h => h.2 hg⟩) q5 (fun j hj => by rw [← hg0 j hj]; exact q4 j hj) hp0, rfl⟩
  have := h2 (under2 E v) _ (under2_ok hO.tlt) hrel
  refine this.mono ?_
  rintro e w' ⟨u, E1, r1, H1, rfl, rfl, hx, hO1, _, hrel1, hκ⟩
  unfold finRow at hκ
  split at hκ
  case h_2 => exact hκ.elim
  rename_i i ver1
  split at hκ
  case h_2 => exact hκ.elim
  rename_i ty sz n get ver' hi
  obtain ⟨heq, get1, hget, hpl, hk⟩ := hκ
  simp only [std] at heq
  subst heq
  obtain ⟨v1, xs, p1, p0, p2, p3, p5, p4⟩ := hO1.blocks i _ hi
  simp only [rel] at hrel1
  rw [hrel1.1] at p1; cases p1
  have hB : Below E.w.heap.size E.w E1.w := ⟨hx.os, hx.tape, hx.output, hx.size, fun b hb => by
    by_cases ht : E.T b ∧ v.ownBlock ≠ some b
    · exact (hx.F b ht).1
    · exact (hx.still b ⟨hb, ht⟩).1⟩
  have hnew : ∀ g, u.ownBlock = some g → E.w.heap.size ≤ g := fun g hg => by
    by_cases hlt : g < E.w.heap.size
    · exfalso
      have hf := hO1.fown i _ g hi (by simp [blk, hrel1.1, hg])
      by_cases ht : E.T g ∧ v.ownBlock ≠ some g
      · exact hf (hx.F g ht).2
      · exact (hx.still g ⟨hlt, ht⟩).2 (p3 g hg)
    · omega
  refine ⟨u, E.grow E1.w, .rs sz n get1, H, rfl, rfl, ext_grow hB hO.flt, ok_grow hB hO, Nat.le_refl _, ?_, hk⟩
  refine row_read (E := E.grow E1.w) rfl p2 (fun g hg => ⟨hO1.tlt g (p3 g hg), fun h => ?_⟩) p5 (fun j hj => by rw [← hget j hj]; exact p4 j hj) hpl
  have := hO.tlt g h
  have := hnew g hg
  omega
end Go.Sx
