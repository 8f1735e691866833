/- From the runner to calls: what a function comes to from whatever world, its results read by value. -/
import Derived.Test.YtijnahgehahokaaSxSoundH
set_option linter.unusedVariables false
set_option linter.unusedSimpArgs false
namespace Go.Sx
open Go.RowKit
variable {P : Program} {tab : Tab}

/-- A contract, in the runner's own form. -/
def Spec := List SV → (SV → Prop) → Prop
def Spec.con (m : Spec) : List SV → Heap → (SV → Heap → Prop) → Prop := fun args H κ => m args fun r => κ r H
theorem contract_ok {call : CallH} (hcall : CallOk P call) {f : FuncId} {m : Spec} (h : ∀ args κ, m args κ → scopeL 0 args = true ∧ call f args [] (fin std κ)) : CallOk P fun g args H κ => g = f ∧ m.con args H κ := by
  rintro g args H κ ⟨rfl, hm⟩
  obtain ⟨hs, hc⟩ := h args _ hm
  obtain ⟨h1, h2⟩ := contract_calls hcall hs hc
  refine ⟨h1, fun E vals hO hr => (h2 E vals hO.tlt hr).mono ?_⟩
  rintro e w' ⟨u, r, rfl, hB, hrel, hκ⟩
  exact ⟨u, E.grow w', r, H, rfl, rfl, ext_grow hB hO.flt, ok_grow hB hO, Nat.le_refl _, rel_ext r (ext_pl _) u hrel, hκ⟩

/-- The same, where what comes is told up to what is read of it. -/
theorem contract_ok2 {call : CallH} (hcall : CallOk P call) {f : FuncId} {m : Spec} (h : ∀ args κ, m args κ → scopeL 0 args = true ∧ ∃ κ0 c, call f args [] (fin std κ0) ∧ (∀ r E u, κ0 r → rel r E u → rel c E u) ∧ κ c) : CallOk P fun g args H κ => g = f ∧ m.con args H κ := by
  rintro g args H κ ⟨rfl, hm⟩
  obtain ⟨hs, κ0, c, hc, hcan, hκ⟩ := h args _ hm
  obtain ⟨h1, h2⟩ := contract_calls hcall hs hc
  refine ⟨h1, fun E vals hO hr => (h2 E vals hO.tlt hr).mono ?_⟩
  rintro e w' ⟨u, r, rfl, hB, hrel, hκ0⟩
  exact ⟨u, E.grow w', c, H, rfl, rfl, ext_grow hB hO.flt, ok_grow hB hO, Nat.le_refl _, rel_ext c (ext_pl _) u (hcan _ _ _ hκ0 hrel), hκ⟩
theorem rel_rs_congr {sz n : Nat} {g g' : Nat → List SV} (h : ∀ j, j < n → g j = g' j) {E : Env} {u : Value} (hr : rel (.rs sz n g) E u) : rel (.rs sz n g') E u := by
  simp only [rel] at hr ⊢
  obtain ⟨a, cap, rfl, h1, h2, h3, h4⟩ := hr
  refine ⟨a, cap, rfl, h1, h2, h3, fun j hj => ?_⟩
  rw [← h j hj]; exact h4 j hj

/-- A function that only reckons. -/
theorem known_ok {call : CallH} (hcall : CallOk P call) {f : FuncId} {args : List SV} {x : Value} (h : call f args [] (fin std fun r => r = .v x)) :
    Callable P f ∧ (scopeL 0 args = true → ∀ (E : Env) (vals : List Value), relL args E vals → (∀ b, E.T b → b < E.w.heap.size) → Calls P f vals.toArray E.w fun e w' => e = .returned x ∧ Below E.w.heap.size E.w w') := by
  refine ⟨(hcall f args [] _ h).1, fun hs E vals hr hlt => ((contract_calls hcall hs h).2 E vals hlt hr).mono ?_⟩
  rintro e w' ⟨u, r, rfl, hB, hrel, rfl⟩
  simp only [rel] at hrel
  rw [hrel]; exact ⟨rfl, hB⟩

def start (w : World) : Env := ⟨w, fun _ => none, fun _ _ => none, fun _ => False, fun _ => False⟩
/-- A LAW. -/
theorem law_calls {call : CallH} (hcall : CallOk P call) {f : FuncId} {args : List SV} {x : Value} (hs : scopeL 0 args = true) (h : call f args [] (fin std fun r => r = .v x)) {W : World} {vals : List Value} (hr : relL args (start W) vals) :
    Calls P f vals.toArray W fun e w' => e = .returned x ∧ Below W.heap.size W w' :=
  (known_ok hcall h).2 hs (start W) vals hr (fun _ h => h.elim)
end Go.Sx
