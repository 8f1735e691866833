/- From the runner to calls: what a function comes to from whatever world, its results read by value. -/
import Derived.Test.YtijnahgehahokaaSxSoundH
set_option linter.unusedVariables false
set_option linter.unusedSimpArgs false
namespace Go.Sx
open Go.RowKit
variable {P : Program} {tab : Tab}

section
variable (O : Leaf) (H : Heap)
mutual
/-- A result, read by value: what was written will not be written any more. -/
def frz : Nat → SV → Option (SV × Prop)
  | 0, _ => none
  | n + 1, x =>
    match x with
    | .v x => some (.v x, True)
    | .rs sz m get => some (.rs sz m get, True)
    | .rp cs => some (.rp cs, True)
    | .any => some (.any, True)
    | .a cs => match frzL n cs with | some (cs', sc) => some (.a cs', sc) | none => none
    | .t cs => match frzL n cs with | some (cs', sc) => some (.t cs', sc) | none => none
    | .o i ver => match H[i]? with | some (.row _ sz m get ver') => some (.rs sz m get, O.eqn ver ver') | _ => none
    | .p i off =>
      match H[i]? with
      | some (.cells cs _) => match frzL n (cs.drop off) with | some (cs', sc) => some (.rp cs', sc) | none => none
      | _ => none
    | _ => none
def frzL : Nat → List SV → Option (List SV × Prop)
  | 0, _ => none
  | n + 1, xs =>
    match xs with
    | [] => some ([], True)
    | x :: xs =>
      match frz n x, frzL n xs with
      | some (x', sc), some (xs', sc') => some (x' :: xs', sc ∧ sc')
      | _, _ => none
end
end

theorem frz_both {E G : Env} {H : Heap} (hO : Ok H E) (hw : G.w = E.w) (hT : ∀ b, G.T b → E.F b) : ∀ n,
    (∀ x x' sc u, frz std H n x = some (x', sc) → sc → rel x E u → rel x' G.pl u) ∧ (∀ xs xs' sc us, frzL std H n xs = some (xs', sc) → sc → relL xs E us → relL xs' G.pl us) := by
  have hx : RExt E.pl G.pl := ⟨by rw [show G.pl.w = G.w from rfl, hw]; exact Nat.le_refl _, fun _ _ h => (by cases h), fun _ _ _ h => (by cases h), fun b hb => ⟨by rw [show G.pl.w = G.w from rfl, hw]; rfl, fun ht => hb.2 (hO.fsub b (hT b ht))⟩⟩
  intro n
  induction n with
  | zero => exact ⟨fun _ _ _ _ h => by simp [frz] at h, fun _ _ _ _ h => by simp [frzL] at h⟩
  | succ n ih =>
    obtain ⟨ih1, ih2⟩ := ih
    refine ⟨fun x x' sc u h hsc hr => ?_, fun xs xs' sc us h hsc hr => ?_⟩
    · unfold frz at h
      split at h
      · simp only [Option.some.injEq, Prod.mk.injEq] at h; obtain ⟨rfl, rfl⟩ := h; simpa only [rel] using hr
      · simp only [Option.some.injEq, Prod.mk.injEq] at h; obtain ⟨rfl, rfl⟩ := h
        refine rel_rext _ hx _ ?_
        simp only [rel] at hr ⊢; exact hr
      · simp only [Option.some.injEq, Prod.mk.injEq] at h; obtain ⟨rfl, rfl⟩ := h
        refine rel_rext _ hx _ ?_
        simp only [rel] at hr ⊢; exact hr
      · simp only [Option.some.injEq, Prod.mk.injEq] at h; obtain ⟨rfl, rfl⟩ := h; exact rel_any _ _
      · rename_i cs
        split at h
        case h_2 => cases h
        rename_i cs' sc1 hf
        simp only [Option.some.injEq, Prod.mk.injEq] at h; obtain ⟨rfl, rfl⟩ := h
        simp only [rel] at hr ⊢
        obtain ⟨us, rfl, hc⟩ := hr
        exact ⟨us, rfl, ih2 _ _ _ _ hf hsc hc⟩
      · rename_i cs
        split at h
        case h_2 => cases h
        rename_i cs' sc1 hf
        simp only [Option.some.injEq, Prod.mk.injEq] at h; obtain ⟨rfl, rfl⟩ := h
        simp only [rel] at hr ⊢
        obtain ⟨us, rfl, hc⟩ := hr
        exact ⟨us, rfl, ih2 _ _ _ _ hf hsc hc⟩
      · rename_i i ver
        split at h
        case h_2 => cases h
        rename_i ty sz m get ver' hi
        simp only [Option.some.injEq, Prod.mk.injEq] at h; obtain ⟨rfl, rfl⟩ := h
        simp only [std] at hsc
        subst hsc
        simp only [rel] at hr
        obtain ⟨u0, xs, h1, h0, h2, h3, h5, h4⟩ := hO.blocks i _ hi
        rw [hr.1] at h1; cases h1
        simp only [rel]
        rcases h2.2 with ⟨rfl, hm⟩ | ⟨g, cap, cur, rfl, _, hh, hnc, hcm, hcs, ht⟩
        · subst hm
          exact ⟨none, 0, rfl, Nat.le_refl _, by simp [maxLen], by simp, by omega⟩
        · refine ⟨some ⟨g, 0, none⟩, cap, rfl, hnc, hcm, by simp, fun j hj => ?_⟩
          obtain ⟨us, q1, q2, q3, q4, q5⟩ := row_reads (hO.blocks i _ hi) hr.1 j hj
          have hnf : ¬ E.F g := hO.fown i _ g hi (by simp [blk, hr.1, Value.ownBlock])
          refine ⟨g, 0, (xs.drop (j * sz)).take sz, rfl, ⟨?_, fun ht => hnf (hT g ht)⟩, relL_rext _ hx.pl _ ?_, ?_, ?_, fun x hx => h5 x (List.mem_of_mem_drop (List.mem_of_mem_take hx))⟩
          · show g < G.w.heap.size; rw [hw]; exact hO.tlt _ q3
          · exact h4 j hj
          · have := Nat.mul_le_mul_right sz (show j + 1 ≤ m from hj)
            rw [Nat.add_mul, Nat.one_mul] at this
            have hl := h2.1
            simp only [List.length_take, List.length_drop]; omega
          · have hcur : E.w.heap[g]? = some (.cells cur.toList.toArray ty (0, 0)) := hh
            have hr2 : readsAt E.w g (j * sz) ((cur.toList.drop (j * sz)).take sz) := reads_cells hcur
            have he : (xs.drop (j * sz)).take sz = (cur.toList.drop (j * sz)).take sz := by
              rw [← ht, List.drop_take, List.take_take]
              congr 1
              have : (j + 1) * sz ≤ m * sz := Nat.mul_le_mul_right _ hj
              rw [Nat.add_mul, Nat.one_mul] at this
              omega
            rw [Nat.zero_add, he]
            show readsAt G.w g (j * sz) _
            rw [hw]; exact hr2
      · rename_i i off
        split at h
        case h_2 => cases h
        rename_i cs ty hi
        split at h
        case h_2 => cases h
        rename_i cs' sc1 hf
        simp only [Option.some.injEq, Prod.mk.injEq] at h; obtain ⟨rfl, rfl⟩ := h
        simp only [rel] at hr ⊢
        obtain ⟨b, hb, rfl⟩ := hr
        obtain ⟨b', us, h1, h2, h3, h4⟩ := hO.blocks i _ hi
        rw [hb] at h1; cases h1
        have hnf : ¬ E.F b := hO.fown i _ b hi hb
        refine ⟨b, off, us.drop off, rfl, ⟨?_, fun ht => hnf (hT b ht)⟩, ih2 _ _ _ _ hf hsc (relL_drop off h4), ?_⟩
        · show b < G.w.heap.size; rw [hw]; exact hO.tlt _ h2
        · show readsAt G.w b off _
          rw [hw]
          have := reads_cells (off := off) (n := (us.drop off).length) h3
          rwa [List.take_of_length_le (Nat.le_refl _)] at this
      · cases h
    · unfold frzL at h
      split at h
      · simp only [Option.some.injEq, Prod.mk.injEq] at h; obtain ⟨rfl, rfl⟩ := h
        simp only [relL] at hr ⊢; exact hr
      · rename_i x xs
        split at h
        case h_2 => cases h
        rename_i x' sc1 xs' sc2 hf1 hf2
        simp only [Option.some.injEq, Prod.mk.injEq] at h; obtain ⟨rfl, rfl⟩ := h
        simp only [relL] at hr
        obtain ⟨y, ys, rfl, h1, h2⟩ := hr
        exact relL_cons (ih1 _ _ _ _ hf1 hsc.1 h1) (ih2 _ _ _ _ hf2 hsc.2 h2)

/-- A function's result, read by value. -/
def fin (O : Leaf) (κ : SV → Prop) (r : SV) (H : Heap) : Prop :=
  match frz O H 60 r with
  | some (r', sc) => sc ∧ κ r'
  | none => False

/-- A call by contract: the callee runs with no block of the caller's to write. -/
def under (E : Env) : Env := { w := E.w, ρ := fun _ => none, σ := fun _ _ => none, T := E.T, F := E.T }
theorem under_ok {E : Env} (h : ∀ b, E.T b → b < E.w.heap.size) : Ok [] (under E) :=
  ⟨fun i hb h => by simp at h, fun _ _ => ⟨rfl, fun _ => rfl⟩, fun i _ _ _ _ _ h => by simp at h, fun i _ _ _ _ _ h => by simp at h, h, fun _ h => h, fun i _ _ h => by simp at h⟩
theorem under_rel {E : Env} {args : List SV} {vals : List Value} (hs : scopeL 0 args = true) (h : relL args E vals) : relL args (under E) vals :=
  relL_rext args (E := E.pl) (E' := under E) ⟨Nat.le_refl _, fun _ _ h => h, fun _ _ _ h => h, fun b hb => ⟨rfl, hb.2⟩⟩ _ (relL_plain hs h)

/-- WHAT A CONTRACT OWES: of arguments that are read by value, a run from nothing. -/
theorem contract_calls {call : CallH} (hcall : CallOk P call) {f : FuncId} {args : List SV} {κ : SV → Prop} (hs : scopeL 0 args = true) (h : call f args [] (fin std κ)) :
    Callable P f ∧ ∀ (E : Env) vals, (∀ b, E.T b → b < E.w.heap.size) → relL args E vals →
      Calls P f vals.toArray E.w fun e w' => ∃ u r, e = .returned u ∧ Below E.w.heap.size E.w w' ∧ rel r (E.grow w').pl u ∧ κ r := by
  obtain ⟨h1, h2⟩ := hcall f args [] _ h
  refine ⟨h1, fun E vals hlt hr => ?_⟩
  have := h2 (under E) vals (under_ok hlt) (under_rel hs hr)
  refine this.mono ?_
  rintro e w' ⟨u, E', r, H', rfl, rfl, hx, hO, _, hrel, hκ⟩
  unfold fin at hκ
  split at hκ
  case h_2 => exact hκ.elim
  rename_i r' sc hf
  have hB : Below E.w.heap.size E.w E'.w := ⟨hx.os, hx.tape, hx.output, hx.size, fun b hb => by
    by_cases ht : E.T b
    · exact (hx.F b ht).1
    · exact (hx.still b ⟨hb, ht⟩).1⟩
  exact ⟨u, r', rfl, hB, (frz_both hO (G := E.grow E'.w) rfl (fun b hb => (hx.F b hb).2) 60).1 _ _ _ _ hf hκ.1 hrel, hκ.2⟩

/-- A contract, in the runner's own form. -/
def Spec := List SV → (SV → Prop) → Prop
def Spec.con (m : Spec) : List SV → Heap → (SV → Heap → Prop) → Prop := fun args H κ => m args fun r => κ r H
theorem contract_ok {call : CallH} (hcall : CallOk P call) {f : FuncId} {m : Spec} (h : ∀ args κ, m args κ → scopeL 0 args = true ∧ call f args [] (fin std κ)) : CallOk P fun g args H κ => g = f ∧ m.con args H κ := by
  rintro g args H κ ⟨rfl, hm⟩
  obtain ⟨hs, hc⟩ := h args _ hm
  obtain ⟨h1, h2⟩ := contract_calls hcall hs hc
  refine ⟨h1, fun E vals hO hr => (h2 E vals hO.tlt hr).mono ?_⟩
  rintro e w' ⟨u, r, rfl, hB, hrel, hκ⟩
  exact ⟨u, E.grow w', r, H, rfl, rfl, ext_grow hB hO.flt, ok_grow hB hO, Nat.le_refl _, rel_ext r (ext_pl _) u hrel, hκ⟩

/-- A function that only reckons. -/
theorem known_ok {call : CallH} (hcall : CallOk P call) {f : FuncId} {args : List SV} {x : Value} (h : call f args [] (fin std fun r => r = .v x)) :
    Callable P f ∧ (scopeL 0 args = true → ∀ (E : Env) (vals : List Value), relL args E vals → (∀ b, E.T b → b < E.w.heap.size) → Calls P f vals.toArray E.w fun e w' => e = .returned x ∧ Below E.w.heap.size E.w w') := by
  refine ⟨(hcall f args [] _ h).1, fun hs E vals hr hlt => ((contract_calls hcall hs h).2 E vals hlt hr).mono ?_⟩
  rintro e w' ⟨u, r, rfl, hB, hrel, rfl⟩
  simp only [rel] at hrel
  rw [hrel]; exact ⟨rfl, hB⟩

def start (w : World) : Env := ⟨w, fun _ => none, fun _ _ => none, fun _ => False, fun _ => False⟩
/-- A LAW. -/
theorem law_calls {call : CallH} (hcall : CallOk P call) {f : FuncId} {args : List SV} {x : Value} (hs : scopeL 0 args = true) (h : call f args [] (fin std fun r => r = .v x)) {W : World} {vals : List Value} (hr : relL args (start W) vals) :
    Calls P f vals.toArray W fun e w' => e = .returned x ∧ Below W.heap.size W w' :=
  (known_ok hcall h).2 hs (start W) vals hr (fun _ h => h.elim)
end Go.Sx
