/- From the runner to calls: what a function comes to from whatever world, its results read by value. -/
import Derived.Test.YtijnahgehahokaaSxSoundH
set_option linter.unusedVariables false
set_option linter.unusedSimpArgs false
namespace Go.Sx
open Go.RowKit
variable {P : Program} {tab : Tab}

/-- A contract, in the runner's own form. -/
def Spec := List SV → (SV → Prop) → Prop
def Spec.con (m : Spec) : List SV → Heap → (SV → Heap → Prop) → Prop := fun args H κ => m args fun r => κ r H
theorem contract_ok {call : CallH} (hcall : CallOk P call) {f : FuncId} {m : Spec} (h : ∀ args κ, m args κ → scopeL 0 args = true ∧ call f args [] (fin std κ)) : CallOk P fun g args H κ => g = f ∧ m.con args H κ := by
  rintro g args H κ ⟨rfl, hm⟩
  obtain ⟨hs, hc⟩ := h args _ hm
  obtain ⟨h1, h2⟩ := contract_calls hcall hs hc
  refine ⟨h1, fun E vals hO hr => (h2 E vals hO.tlt hr).mono ?_⟩
  rintro e w' ⟨u, r, rfl, hB, hrel, hκ⟩
  exact ⟨u, E.grow w', r, H, rfl, rfl, ext_grow hB hO.flt, ok_grow hB hO, Nat.le_refl _, rel_ext r (ext_pl _) u hrel, hκ⟩

/-- The same, where what comes is told up to what is read of it. -/
theorem contract_ok2 {call : CallH} (hcall : CallOk P call) {f : FuncId} {m : Spec} (h : ∀ args κ, m args κ → scopeL 0 args = true ∧ ∃ κ0 c, call f args [] (fin std κ0) ∧ (∀ r E u, κ0 r → rel r E u → rel c E u) ∧ κ c) : CallOk P fun g args H κ => g = f ∧ m.con args H κ := by
  rintro g args H κ ⟨rfl, hm⟩
  obtain ⟨hs, κ0, c, hc, hcan, hκ⟩ := h args _ hm
  obtain ⟨h1, h2⟩ := contract_calls hcall hs hc
  refine ⟨h1, fun E vals hO hr => (h2 E vals hO.tlt hr).mono ?_⟩
  rintro e w' ⟨u, r, rfl, hB, hrel, hκ0⟩
  exact ⟨u, E.grow w', c, H, rfl, rfl, ext_grow hB hO.flt, ok_grow hB hO, Nat.le_refl _, rel_ext c (ext_pl _) u (hcan _ _ _ hκ0 hrel), hκ⟩
theorem rel_rs_congr {sz n : Nat} {g g' : Nat → List SV} (h : ∀ j, j < n → g j = g' j) {E : Env} {u : Value} (hr : rel (.rs sz n g) E u) : rel (.rs sz n g') E u := by
  simp only [rel] at hr ⊢
  obtain ⟨a, cap, rfl, h1, h2, h3, h4⟩ := hr
  refine ⟨a, cap, rfl, h1, h2, h3, fun j hj => ?_⟩
  rw [← h j hj]; exact h4 j hj

/-- A result that is a row of one's own. -/
def finRow (O : Leaf) (κ : TypeId → Nat → Nat → (Nat → List SV) → Prop) (r : SV) (H : Heap) : Prop :=
  match r with
  | .o i ver =>
    match H[i]? with
    | some (.row ty sz n get ver') => O.eqn ver ver' ∧ ∃ get0, (∀ j, j < n → get j = get0 j) ∧ κ ty sz n get0
    | _ => False
  | _ => False
theorem pushRow_ok {E : Env} {H : Heap} (hO : Ok H E) {ty sz n : Nat} {get : Nat → List SV} {v : Value} {E1 : Env} (hB : Below E.w.heap.size E.w E1.w) {xs : List Value} (h2 : E1.w.ownsRow 0 ty sz v n xs)
    (hT : ∀ b, E.T b → E1.T b) (hT' : ∀ b, E1.T b → E.T b ∨ (E.w.heap.size ≤ b ∧ b < E1.w.heap.size)) (hnew : ∀ g, v.ownBlock = some g → E.w.heap.size ≤ g ∧ E1.T g) (h5 : ∀ x, x ∈ xs → x.oneCell' = true) (h4 : ∀ j, j < n → relL (get j) E1.pl ((xs.drop (j * sz)).take sz)) (hsl : ∃ a n c, v = .slice a n c) :
    ∃ E', E'.w = E1.w ∧ Ext E E' ∧ Ok (H ++ [.row ty sz n get 0]) E' ∧ rel (.o H.length 0) E' v := by
  let E' : Env := { w := E1.w, ρ := fun i => if i = H.length then some sz else E.ρ i, σ := fun i k => if i = H.length then (if k = 0 then some v else none) else E.σ i k, T := E1.T, F := E.F }
  have hp : Push E E' H.length (some sz) (some v) :=
    ⟨hB.os, hB.tape, hB.output, hB.size, fun b hb => hB.block b hb, fun i => rfl, fun i k => rfl, hT', hT, rfl⟩
  refine ⟨E', rfl, hp.ext hO rfl, ok_push hO hp ?_ ?_ ?_ ?_, ?_⟩
  · exact ⟨v, xs, by simp [E'], by simp [E'], h2, fun g hg => (hnew g hg).2, h5, fun j hj => relL_rext _ (E := E1.pl) (E' := E'.pl) ⟨Nat.le_refl _, fun _ _ h => (by cases h), fun _ _ _ h => (by cases h), fun b hb => ⟨rfl, hb.2⟩⟩ _ (h4 j hj)⟩
  · intro b hb
    simp [blk, E'] at hb
    exact (hnew b hb).1
  · intro _ _ _ _ _ h; cases h; rfl
  · intro b hb
    rcases hT' b hb with h | h
    · exact Nat.lt_of_lt_of_le (hO.tlt b h) hB.size
    · exact h.2
  · simp only [rel]; exact ⟨by simp [E'], hsl⟩
/-- The contract of a function that answers with a row of its caller's own. -/
theorem rowCon_ok {call : CallH} (hcall : CallOk P call) {f : FuncId} {m : List SV → (TypeId → Nat → Nat → (Nat → List SV) → Prop) → Prop} (h : ∀ args κ, m args κ → scopeL 0 args = true ∧ call f args [] (finRow std κ)) :
    CallOk P fun g args H κ => g = f ∧ m args fun ty sz n get => κ (.o H.length 0) (H ++ [.row ty sz n get 0]) := by
  rintro g args H κ ⟨rfl, hm⟩
  obtain ⟨hs, hc⟩ := h args _ hm
  obtain ⟨h1, h2⟩ := hcall g args [] _ hc
  refine ⟨h1, fun E vals hO hr => ?_⟩
  have := h2 (under E) vals (under_ok hO.tlt) (under_rel hs hr)
  refine this.mono ?_
  rintro e w' ⟨u, E1, r, H1, rfl, rfl, hx, hO1, _, hrel, hκ⟩
  unfold finRow at hκ
  split at hκ
  case h_2 => exact hκ.elim
  rename_i i ver
  split at hκ
  case h_2 => exact hκ.elim
  rename_i ty sz n get ver' hi
  obtain ⟨heq, get0, hget, hk⟩ := hκ
  simp only [std] at heq
  subst heq
  obtain ⟨v, xs, p1, p0, p2, p3, p5, p4⟩ := hO1.blocks i _ hi
  simp only [rel] at hrel
  rw [hrel.1] at p1; cases p1
  have hB : Below E.w.heap.size E.w E1.w := ⟨hx.os, hx.tape, hx.output, hx.size, fun b hb => by
    by_cases ht : E.T b
    · exact (hx.F b ht).1
    · exact (hx.still b ⟨hb, ht⟩).1⟩
  obtain ⟨E', k0, k1, k2, k3⟩ := pushRow_ok (get := get0) hO hB p2 (fun b hb => hO1.fsub b (hx.F b hb).2) (fun b hb => by
      by_cases hlt : b < E.w.heap.size
      · by_cases ht : E.T b
        · exact .inl ht
        · exact absurd hb (hx.still b ⟨hlt, ht⟩).2
      · exact .inr ⟨by omega, hO1.tlt b hb⟩) (fun g hg => ⟨by
      by_cases hlt : g < E.w.heap.size
      · exfalso
        have hf := hO1.fown i _ g hi (by simp [blk, hrel.1, hg])
        by_cases ht : E.T g
        · exact hf (hx.F g ht).2
        · exact (hx.still g ⟨hlt, ht⟩).2 (p3 g hg)
      · omega, p3 g hg⟩) p5 (fun j hj => by rw [← hget j hj]; exact p4 j hj) hrel.2
  exact ⟨u, E', _, _, rfl, k0, k1, k2, by simp, k3, hk⟩

/-- A function that only reckons. -/
theorem known_ok {call : CallH} (hcall : CallOk P call) {f : FuncId} {args : List SV} {x : Value} (h : call f args [] (fin std fun r => r = .v x)) :
    Callable P f ∧ (scopeL 0 args = true → ∀ (E : Env) (vals : List Value), relL args E vals → (∀ b, E.T b → b < E.w.heap.size) → Calls P f vals.toArray E.w fun e w' => e = .returned x ∧ Below E.w.heap.size E.w w') := by
  refine ⟨(hcall f args [] _ h).1, fun hs E vals hr hlt => ((contract_calls hcall hs h).2 E vals hlt hr).mono ?_⟩
  rintro e w' ⟨u, r, rfl, hB, hrel, rfl⟩
  simp only [rel] at hrel
  rw [hrel]; exact ⟨rfl, hB⟩

def start (w : World) : Env := ⟨w, fun _ => none, fun _ _ => none, fun _ => False, fun _ => False⟩
/-- A LAW. -/
theorem law_calls {call : CallH} (hcall : CallOk P call) {f : FuncId} {args : List SV} {x : Value} (hs : scopeL 0 args = true) (h : call f args [] (fin std fun r => r = .v x)) {W : World} {vals : List Value} (hr : relL args (start W) vals) :
    Calls P f vals.toArray W fun e w' => e = .returned x ∧ Below W.heap.size W w' :=
  (known_ok hcall h).2 hs (start W) vals hr (fun _ h => h.elim)
end Go.Sx
