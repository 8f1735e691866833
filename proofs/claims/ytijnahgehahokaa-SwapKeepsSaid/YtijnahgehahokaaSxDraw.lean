/- Regions that draw their order, with calls and allocations in them. -/
import Derived.Test.YtijnahgehahokaaSxSoundG
import Derived.OrdersHeld
set_option linter.unusedVariables false
set_option linter.unusedSimpArgs false
namespace Go.Sx
open Go.RowKit
variable {P : Program} {tab : Tab}

theorem frz_both {E G : Env} {H : Heap} (hO : Ok H E) (hw : G.w = E.w) (hT : ∀ b, G.T b → E.F b) : ∀ n,
    (∀ x x' sc u, frz std H n x = some (x', sc) → sc → rel x E u → rel x' G.pl u) ∧ (∀ xs xs' sc us, frzL std H n xs = some (xs', sc) → sc → relL xs E us → relL xs' G.pl us) := by
  have hx : RExt E.pl G.pl := ⟨by rw [show G.pl.w = G.w from rfl, hw]; exact Nat.le_refl _, fun _ _ h => (by cases h), fun _ _ _ h => (by cases h), fun b hb => ⟨by rw [show G.pl.w = G.w from rfl, hw]; rfl, fun ht => hb.2 (hO.fsub b (hT b ht))⟩⟩
  intro n
  induction n with
  | zero => exact ⟨fun _ _ _ _ h => by simp [frz] at h, fun _ _ _ _ h => by simp [frzL] at h⟩
  | succ n ih =>
    obtain ⟨ih1, ih2⟩ := ih
    refine ⟨fun x x' sc u h hsc hr => ?_, fun xs xs' sc us h hsc hr => ?_⟩
    · unfold frz at h
      split at h
      · simp only [Option.some.injEq, Prod.mk.injEq] at h; obtain ⟨rfl, rfl⟩ := h; simpa only [rel] using hr
      · simp only [Option.some.injEq, Prod.mk.injEq] at h; obtain ⟨rfl, rfl⟩ := h
        refine rel_rext _ hx _ ?_
        simp only [rel] at hr ⊢; exact hr
      · simp only [Option.some.injEq, Prod.mk.injEq] at h; obtain ⟨rfl, rfl⟩ := h
        refine rel_rext _ hx _ ?_
        simp only [rel] at hr ⊢; exact hr
      · simp only [Option.some.injEq, Prod.mk.injEq] at h; obtain ⟨rfl, rfl⟩ := h; exact rel_any _ _
      · rename_i cs
        split at h
        case h_2 => cases h
        rename_i cs' sc1 hf
        simp only [Option.some.injEq, Prod.mk.injEq] at h; obtain ⟨rfl, rfl⟩ := h
        simp only [rel] at hr ⊢
        obtain ⟨us, rfl, hc⟩ := hr
        exact ⟨us, rfl, ih2 _ _ _ _ hf hsc hc⟩
      · rename_i cs
        split at h
        case h_2 => cases h
        rename_i cs' sc1 hf
        simp only [Option.some.injEq, Prod.mk.injEq] at h; obtain ⟨rfl, rfl⟩ := h
        simp only [rel] at hr ⊢
        obtain ⟨us, rfl, hc⟩ := hr
        exact ⟨us, rfl, ih2 _ _ _ _ hf hsc hc⟩
      · rename_i i ver
        split at h
        case h_2 => cases h
        rename_i ty sz m get ver' hi
        simp only [Option.some.injEq, Prod.mk.injEq] at h; obtain ⟨rfl, rfl⟩ := h
        simp only [std] at hsc
        subst hsc
        simp only [rel] at hr
        obtain ⟨u0, xs, h1, h0, h2, h3, h5, h4⟩ := hO.blocks i _ hi
        rw [hr.1] at h1; cases h1
        simp only [rel]
        rcases h2.2 with ⟨rfl, hm⟩ | ⟨g, cap, cur, rfl, _, hh, hnc, hcm, hcs, ht⟩
        · subst hm
          exact ⟨none, 0, rfl, Nat.le_refl _, by simp [maxLen], by simp, by omega⟩
        · refine ⟨some ⟨g, 0, none⟩, cap, rfl, hnc, hcm, by simp, fun j hj => ?_⟩
          obtain ⟨us, q1, q2, q3, q4, q5⟩ := row_reads (hO.blocks i _ hi) hr.1 j hj
          have hnf : ¬ E.F g := hO.fown i _ g hi (by simp [blk, hr.1, Value.ownBlock])
          refine ⟨g, 0, (xs.drop (j * sz)).take sz, rfl, ⟨?_, fun ht => hnf (hT g ht)⟩, relL_rext _ hx.pl _ ?_, ?_, ?_, fun x hx => h5 x (List.mem_of_mem_drop (List.mem_of_mem_take hx))⟩
          · show g < G.w.heap.size; rw [hw]; exact hO.tlt _ q3
          · exact h4 j hj
          · have := Nat.mul_le_mul_right sz (show j + 1 ≤ m from hj)
            rw [Nat.add_mul, Nat.one_mul] at this
            have hl := h2.1
            simp only [List.length_take, List.length_drop]; omega
          · have hcur : E.w.heap[g]? = some (.cells cur.toList.toArray ty (0, 0)) := hh
            have hr2 : readsAt E.w g (j * sz) ((cur.toList.drop (j * sz)).take sz) := reads_cells hcur
            have he : (xs.drop (j * sz)).take sz = (cur.toList.drop (j * sz)).take sz := by
              rw [← ht, List.drop_take, List.take_take]
              congr 1
              have : (j + 1) * sz ≤ m * sz := Nat.mul_le_mul_right _ hj
              rw [Nat.add_mul, Nat.one_mul] at this
              omega
            rw [Nat.zero_add, he]
            show readsAt G.w g (j * sz) _
            rw [hw]; exact hr2
      · rename_i i off
        split at h
        case h_2 => cases h
        rename_i cs ty hi
        split at h
        case h_2 => cases h
        rename_i cs' sc1 hf
        simp only [Option.some.injEq, Prod.mk.injEq] at h; obtain ⟨rfl, rfl⟩ := h
        simp only [rel] at hr ⊢
        obtain ⟨b, hb, rfl⟩ := hr
        obtain ⟨b', us, h1, h2, h3, h4⟩ := hO.blocks i _ hi
        rw [hb] at h1; cases h1
        have hnf : ¬ E.F b := hO.fown i _ b hi hb
        refine ⟨b, off, us.drop off, rfl, ⟨?_, fun ht => hnf (hT b ht)⟩, ih2 _ _ _ _ hf hsc (relL_drop off h4), ?_⟩
        · show b < G.w.heap.size; rw [hw]; exact hO.tlt _ h2
        · show readsAt G.w b off _
          rw [hw]
          have := reads_cells (off := off) (n := (us.drop off).length) h3
          rwa [List.take_of_length_le (Nat.le_refl _)] at this
      · cases h
    · unfold frzL at h
      split at h
      · simp only [Option.some.injEq, Prod.mk.injEq] at h; obtain ⟨rfl, rfl⟩ := h
        simp only [relL] at hr ⊢; exact hr
      · rename_i x xs
        split at h
        case h_2 => cases h
        rename_i x' sc1 xs' sc2 hf1 hf2
        simp only [Option.some.injEq, Prod.mk.injEq] at h; obtain ⟨rfl, rfl⟩ := h
        simp only [relL] at hr
        obtain ⟨y, ys, rfl, h1, h2⟩ := hr
        exact relL_cons (ih1 _ _ _ _ hf1 hsc.1 h1) (ih2 _ _ _ _ hf2 hsc.2 h2)

/-- A function's result, read by value. -/
def fin (O : Leaf) (κ : SV → Prop) (r : SV) (H : Heap) : Prop :=
  match frz O H 60 r with
  | some (r', sc) => sc ∧ κ r'
  | none => False

/-- A call by contract: the callee runs with no block of the caller's to write. -/
def under (E : Env) : Env := { w := E.w, ρ := fun _ => none, σ := fun _ _ => none, T := E.T, F := E.T }
theorem under_ok {E : Env} (h : ∀ b, E.T b → b < E.w.heap.size) : Ok [] (under E) :=
  ⟨fun i hb h => by simp at h, fun _ _ => ⟨rfl, fun _ => rfl⟩, fun i _ _ _ _ _ h => by simp at h, fun i _ _ _ _ _ h => by simp at h, h, fun _ h => h, fun i _ _ h => by simp at h⟩
theorem under_rel {E : Env} {args : List SV} {vals : List Value} (hs : scopeL 0 args = true) (h : relL args E vals) : relL args (under E) vals :=
  relL_rext args (E := E.pl) (E' := under E) ⟨Nat.le_refl _, fun _ _ h => h, fun _ _ _ h => h, fun b hb => ⟨rfl, hb.2⟩⟩ _ (relL_plain hs h)

/-- WHAT A CONTRACT OWES: of arguments that are read by value, a run from nothing. -/
theorem contract_calls {call : CallH} (hcall : CallOk P call) {f : FuncId} {args : List SV} {κ : SV → Prop} (hs : scopeL 0 args = true) (h : call f args [] (fin std κ)) :
    Callable P f ∧ ∀ (E : Env) vals, (∀ b, E.T b → b < E.w.heap.size) → relL args E vals →
      Calls P f vals.toArray E.w fun e w' => ∃ u r, e = .returned u ∧ Below E.w.heap.size E.w w' ∧ rel r (E.grow w').pl u ∧ κ r := by
  obtain ⟨h1, h2⟩ := hcall f args [] _ h
  refine ⟨h1, fun E vals hlt hr => ?_⟩
  have := h2 (under E) vals (under_ok hlt) (under_rel hs hr)
  refine this.mono ?_
  rintro e w' ⟨u, E', r, H', rfl, rfl, hx, hO, _, hrel, hκ⟩
  unfold fin at hκ
  split at hκ
  case h_2 => exact hκ.elim
  rename_i r' sc hf
  have hB : Below E.w.heap.size E.w E'.w := ⟨hx.os, hx.tape, hx.output, hx.size, fun b hb => by
    by_cases ht : E.T b
    · exact (hx.F b ht).1
    · exact (hx.still b ⟨hb, ht⟩).1⟩
  exact ⟨u, r', rfl, hB, (frz_both hO (G := E.grow E'.w) rfl (fun b hb => (hx.F b hb).2) 60).1 _ _ _ _ hf hκ.1 hrel, hκ.2⟩


/-! ### The walk over whatever order is drawn -/
section
variable {ops : Array Oper} {Q : Exit → Act → World → Prop} {md : Region.Mode}
theorem wpAnyH_mono {S S' : World → Prop} (hS : ∀ w, S' w → S w) : ∀ (n : Nat) (l : Array Bool) (a : Act) (w : World), wpAnyH P md ops Q S' n l a w → wpAnyH P md ops Q S n l a w
  | 0, _, _, _, h => h
  | n + 1, l, a, w, h => ⟨h.1, fun i hi => wpOp_mono (fun a' w' h' => ⟨hS _ h'.1, wpAnyH_mono hS n _ a' w' h'.2⟩) (h.2 i hi)⟩

def KnownD (ops : Array Oper) (known : List (Nat × Option Bool)) (a : Act) : Prop := ∀ j v, (j, v) ∈ known → yielded ops a.tmps j = v
theorem yielded_put {a : Act} {j : Nat} {d : Option Nat} {u : Value} (h : ∀ d', d = some d' → dstOf ops.toList j ≠ d') : yielded ops (a.put d u).tmps j = yielded ops a.tmps j := by
  cases d with
  | none => rfl
  | some d =>
    have hne := h d rfl
    unfold yielded
    cases ho : ops[j]? with
    | none => rfl
    | some o =>
      cases hd : o.dst with
      | none => simp [hd]
      | some e =>
        have : dstOf ops.toList j = e := by unfold dstOf; rw [Array.getElem?_toList, ho]; simp [hd]
        rw [this] at hne
        simp only [Option.bind_some, hd, Act.put]
        rw [Array.getElem?_setIfInBounds, if_neg (Ne.symm hne)]
theorem freeD_ne {all : List Oper} : ∀ {known : List (Nat × Option Bool)} {d : Nat}, freeD all known (some d) = true → ∀ j v, (j, v) ∈ known → dstOf all j ≠ d
  | [], _, _, _, _, h => by cases h
  | (i, v) :: r, d, h, j, w, hm => by
    simp only [freeD, Bool.and_eq_true, Bool.not_eq_true'] at h
    cases hm with
    | head => intro e; rw [e] at h; have := h.1; rw [Nat.beq_refl] at this; cases this
    | tail _ hm => exact freeD_ne h.2 j w hm
theorem KnownD.put {known : List (Nat × Option Bool)} {a : Act} (hk : KnownD ops known a) {d : Option Nat} (hf : freeD ops.toList known d = true) (u : Value) : KnownD ops known (a.put d u) := by
  intro j v hm
  rw [yielded_put]
  · exact hk j v hm
  · rintro d' rfl
    exact freeD_ne hf j v hm
theorem wanted_D {known : List (Nat × Option Bool)} {a : Act} (hk : KnownD ops known a) {o : Oper} {b : Bool} (h : guardD known o.guard = some b) : Region.wanted o (yielded ops a.tmps) = b := by
  unfold Region.wanted
  cases hg : o.guard with
  | none => rw [hg] at h; simp only [guardD, Option.some.injEq] at h; rw [← h]
  | some g =>
    obtain ⟨j, w⟩ := g
    rw [hg] at h
    simp only [guardD] at h
    split at h
    · rename_i c hl
      simp only [Option.some.injEq] at h
      simp only [hk j _ (lk_mem hl)]
      rw [← h]
      cases c <;> cases w <;> rfl
    · rename_i hl
      simp only [Option.some.injEq] at h
      simp only [hk j _ (lk_mem hl)]
      rw [← h]
      cases w <;> rfl
    · cases h
theorem knownAt_ok {known : List (Nat × Option Bool)} {a : Act} (hk : KnownD ops known a) {u : Nat} {b : Bool} : knownAt ops.toList known u = some b → a.tmps[u]? = some (.bool b) := by
  induction known with
  | nil => intro h; cases h
  | cons x r ih =>
    obtain ⟨j, v⟩ := x
    intro h
    have hr : KnownD ops r a := fun j v hm => hk j v (List.mem_cons_of_mem _ hm)
    simp only [knownAt] at h
    split at h
    · rename_i c hb
      simp only [Option.some.injEq] at h
      subst h
      simp only [Bool.and_eq_true] at hb
      have hj := hk j (some c) List.mem_cons_self
      have he := Nat.eq_of_beq_eq_true hb.2
      have hd := hb.1
      unfold yielded at hj
      unfold hasDst dstOf at *
      rw [Array.getElem?_toList] at hd he
      cases ho : ops[j]? with
      | none => rw [ho] at hd; cases hd
      | some o =>
        rw [ho] at hd he hj
        simp only at hd he
        obtain ⟨d, hd'⟩ := Option.isSome_iff_exists.1 hd
        rw [hd'] at he
        simp only [Option.getD_some] at he
        subst he
        simp only [Option.bind_some, hd'] at hj
        split at hj
        · rename_i c' hc
          simp only [Option.some.injEq] at hj
          rw [hc, hj]
        · cases hj
    · exact ih hr h

theorem evalD_ok (hT : TabOk P tab) {Γ : Known} (hΓ : KnownOk P Γ) {E : Env} {H : Heap} (hO : Ok H E) {s : Slots} {a : Act} (hs : SlotsOk E s a) {o : Oper} {r : SV} {sc : Prop}
    {known : List (Nat × Option Bool)} (hk : KnownD ops known a) (hv : isVC o.op = false) (h : evalD std tab Γ ops.toList known s H o.op = some (r, sc)) (hsc : sc) :
    ∃ u, rel r E u ∧ ∀ w', Below E.w.heap.size E.w w' → (execOp a.eval o).run P w' = .ok (.value u) w' := by
  have plain : ∀ {r sc}, evalQ std tab Γ s H o.op = some (r, sc) → sc → ∃ u, rel r E u ∧ ∀ w', Below E.w.heap.size E.w w' → (execOp a.eval o).run P w' = .ok (.value u) w' := by
    intro r sc h hsc
    obtain ⟨u, h1, h2⟩ := evalQ_ok2 hT hΓ hO hs h hsc
    rcases h2 with h2 | ⟨h2, _⟩
    · exact ⟨u, h1, h2⟩
    · rw [hv] at h2; cases h2
  unfold evalD at h
  split at h
  · rename_i u x y hop
    split at h
    · rename_i hka
      simp only [Option.some.injEq, Prod.mk.injEq] at h
      obtain ⟨rfl, rfl⟩ := h
      have hc := knownAt_ok hk hka
      refine ⟨_, opd_ok hs x, fun w' _ => ?_⟩
      have he : a.eval (.tmp u) = .bool true := by simp [Act.eval, Array.getD_eq_getD_getElem?, hc]
      unfold execOp
      simp only [hop, he, asBool, Sem.run_bind, Sem.run_pure, Result.andThen_ok, if_true]
    · rename_i hka
      simp only [Option.some.injEq, Prod.mk.injEq] at h
      obtain ⟨rfl, rfl⟩ := h
      have hc := knownAt_ok hk hka
      refine ⟨_, opd_ok hs y, fun w' _ => ?_⟩
      have he : a.eval (.tmp u) = .bool false := by simp [Act.eval, Array.getD_eq_getD_getElem?, hc]
      unfold execOp
      simp only [hop, he, asBool, Sem.run_bind, Sem.run_pure, Result.andThen_ok, Bool.false_eq_true, if_false]
    · rename_i hka
      exact plain h hsc
  · exact plain h hsc

theorem firstD_ok {p : Nat → Bool} : ∀ {l : List Nat} {i : Nat}, firstD p l = some i → i ∈ l ∧ p i = true
  | [], _, h => by cases h
  | j :: l, i, h => by
    simp only [firstD] at h
    split at h
    · rename_i hp; simp only [Option.some.injEq] at h; subst h; exact ⟨List.mem_cons_self, hp⟩
    · obtain ⟨h1, h2⟩ := firstD_ok h; exact ⟨List.mem_cons_of_mem _ h1, h2⟩
theorem allD_ok {p : Nat → Prop} : ∀ {l : List Nat}, allD p l → ∀ i ∈ l, p i
  | [], _, _, h => by cases h
  | [j], h, i, hi => by
    simp only [List.mem_singleton] at hi; subst hi; exact h
  | j :: k :: l, h, i, hi => by
    cases hi with
    | head => exact h.1
    | tail _ hi => exact allD_ok (l := k :: l) h.2 i hi

theorem contD_ok {E0 : Env} {N0 nt : Nat} {i : Nat} {o : Oper} (hi : ops[i]? = some o) {known : List (Nat × Option Bool)} {s : Slots} {r : SV} {go : List (Nat × Option Bool) → Slots → Prop} {G : Act → World → Prop} {H : Heap} {a : Act} {w : World} {u : Value}
    (h : contD tab nt ops.toList i o known s r go) (hst : St E0 N0 nt s H a w) (hkn : KnownD ops known a) (hd : dstOk nt o.dst = true) (hf : freeD ops.toList known o.dst = true) (hr : ∀ E, E.w = w → Ok H E → SlotsOk E s a → Ext E0 E → rel r E u)
    (hgo : ∀ known' s', go known' s' → St E0 N0 nt s' H (a.put o.dst u) w → KnownD ops known' (a.put o.dst u) → G (a.put o.dst u) w) : G (a.put o.dst u) w := by
  obtain ⟨⟨E, rfl, hx, hO, hs⟩, hn, hdf, hl⟩ := hst
  have hrel := hr E rfl hO hs hx
  have st : ∀ r', rel r' E u → St E0 N0 nt (putS o.dst r' s) H (a.put o.dst u) E.w := fun r' hr' => ⟨⟨E, rfl, hx, hO, hs.put hr' hn hd⟩, (put_size _ _ _).trans hn, (put_defers _ _ _).trans hdf, hl⟩
  unfold contD at h
  split at h
  · exact hgo _ _ h (st _ hrel) (hkn.put hf u)
  · split at h
    case h_2 => exact h.elim
    rename_i c hhd
    simp only [rel] at hrel
    subst hrel
    have hy : yielded ops (a.put o.dst (.bool c)).tmps i = some c := by
      refine yielded_of hhd ?_
      unfold hasDst at hhd
      unfold dstOf
      rw [Array.getElem?_toList, hi] at hhd ⊢
      simp only at hhd ⊢
      obtain ⟨d, hd'⟩ := Option.isSome_iff_exists.1 hhd
      rw [hd'] at hd ⊢
      simp only [Option.getD_some, Act.put]
      have hlt : d < a.tmps.size := by rw [hn]; exact Nat.blt_eq.mp hd
      rw [Array.getElem?_setIfInBounds, if_pos rfl, if_pos hlt]
    have kn : KnownD ops ((i, some c) :: known) (a.put o.dst (.bool c)) := by
      intro j v hm
      cases hm with
      | head => exact hy
      | tail _ hm => exact hkn.put hf _ j v hm
    have hb : (c = true → go ((i, some true) :: known) (putS o.dst (.v (.bool true)) s)) ∧ (c = false → go ((i, some false) :: known) (putS o.dst (.v (.bool false)) s)) := by
      unfold onBool at h
      split at h
      · exact ⟨h.1, h.2⟩
      · cases c
        · exact ⟨fun hh => (by cases hh), fun _ => h⟩
        · exact ⟨fun _ => h, fun hh => (by cases hh)⟩
    cases c
    · exact hgo _ _ (hb.2 rfl) (st _ (by simp only [rel])) kn
    · exact hgo _ _ (hb.1 rfl) (st _ (by simp only [rel])) kn

theorem effD_ok (hT : TabOk P tab) {Γ : Known} (hΓ : KnownOk P Γ) {call : CallH} (hcall : CallOk P call) {E : Env} {H : Heap} (hO : Ok H E) {s : Slots} {a : Act} (hs : SlotsOk E s a) {o : Oper} {κ : SV → Heap → Prop}
    (h : effD std tab Γ call s H o κ) {K : Act → World → Prop} {Q' : Exit → Act → World → Prop}
    (hK : ∀ E' r H' u, κ r H' → Ext E E' → Ok H' E' → H.length ≤ H'.length → rel r E' u → Below E.w.heap.size E.w E'.w → K (a.put o.dst u) E'.w) : o.wp P a E.w K Q' := by
  have ho := opd_ok hs
  unfold effD at h
  split at h
  · rename_i hvc
    split at h
    · rename_i r sc he
      obtain ⟨u, h1, h2⟩ := evalQ_ok hT hΓ hO hs he h.1
      refine Oper.wp_of_quiet (C := Below E.w.heap.size E.w) (K := fun a' => ∀ w', Below E.w.heap.size E.w w' → K a' w') (Below.refl _ _) (fun a' w' hw hk => hk w' hw) ⟨u, h2, fun w' hw => ?_⟩
      exact hK (E.grow w') r H u h.2 (ext_grow hw hO.flt) (ok_grow hw hO) (Nat.le_refl _) (rel_ext r (ext_grow hw hO.flt) u h1) hw
    · obtain ⟨dst, op, type, pos, after, guard⟩ := o
      simp only at h hK
      split at h
      case h_2 => exact h.elim
      rename_i f args ats _
      split at h
      case h_2 => exact h.elim
      rename_i g fs cs hf
      split at h
      case h_2 => exact h.elim
      rename_i hsc
      have kf := ho f
      rw [hf] at kf
      simp only [rel] at kf
      obtain ⟨us, ws, he, hus, hws⟩ := kf
      obtain ⟨hcb, hc⟩ := contract_calls (κ := fun r => κ r H) hcall hsc h
      have hrel := relL_append (relL_append hus (opds_ok hs args.toList)) hws
      have := hc E _ hO.tlt hrel
      have hrun : (execOp a.eval { dst, op := .call { callee := .value f, args, argTypes := ats }, type, pos, after, guard }).run P E.w = .ok (.enter g (us ++ args.toList.map a.eval ++ ws).toArray) E.w := by
        have e1 : (us.toArray ++ args.map a.eval ++ ws.toArray : Array Value) = (us ++ args.toList.map a.eval ++ ws).toArray := by apply Array.toList_inj.1; simp
        simp only [execOp, resolve, he, Deferred.ofValue, Sem.run_bind, Sem.run_pure, Result.andThen_ok, invoke]
        rw [e1]
        exact run_callFunc hcb _ _
      unfold Oper.wp
      rw [hrun, Oper.upon_enter]
      refine this.mono fun e w' hq => ?_
      obtain ⟨u, r, rfl, hB, hrl, hκ⟩ := hq
      exact hK (E.grow w') r H u hκ (ext_grow hB hO.flt) (ok_grow hB hO) (Nat.le_refl _) (rel_ext r (ext_pl _) u hrl) hB
  · split at h
    case h_2 => exact h.elim
    rename_i hnew
    exact step_ok hT hΓ hcall hO hs h (fun E' r H' u k1 k2 k3 k4 k5 k6 => hK E' r H' u k1 k2 k3 k4 k5 (k6 hnew))

theorem runD_ok (hT : TabOk P tab) {Γ : Known} (hΓ : KnownOk P Γ) {call : CallH} (hcall : CallOk P call) {E0 : Env} {N0 nt : Nat} {κ : Slots → Heap → Prop} (hsel : Region.noSelect ops = true)
    (hQ : ∀ s H a w, κ s H → St E0 N0 nt s H a w → Q .normal a w) (hQp : ∀ c a w, ¬ Q (.panic c) a w) : ∀ (n : Nat) (listed : Array Bool) (known : List (Nat × Option Bool)) (s : Slots) (H : Heap) (a : Act) (w : World),
    runD std tab Γ call nt ops ops.toList n listed known s H κ → St E0 N0 nt s H a w → KnownD ops known a → wpAnyH P .any ops Q (Below w.heap.size w) n listed a w
  | 0, listed, known, s, H, a, w, h, hst, hkn => by
    unfold runD at h
    split at h
    · rename_i hr
      exact ⟨hr, hQ _ _ _ _ h hst⟩
    · exact h.elim
  | n + 1, listed, known, s, H, a, w, h, hst, hkn => by
    unfold runD at h
    split at h
    · rename_i hr
      exact wpAnyH_done hr (hQ _ _ _ _ h hst) _
    · rename_i rs hne
      split at h
      · rename_i i hfi
        obtain ⟨hmem, hct⟩ := firstD_ok hfi
        split at h
        case h_2 => exact h.elim
        rename_i o ho
        have ho' : ops[i]? = some o := by rw [← Array.getElem?_toList]; exact ho
        unfold canTake at hct
        rw [ho] at hct
        simp only at hct
        have hready : (Region.ready .any ops listed).contains i = true := by simpa using hmem
        split at h
        · rename_i hg
          have hwn := wanted_D hkn hg
          rw [hg] at hct
          cases hdf : (dstOk nt o.dst && freeD ops.toList known o.dst) with
          | false => rw [hdf] at hct; cases hct
          | true =>
          rw [hdf] at hct
          simp only [Bool.and_eq_true] at hdf
          refine wpAnyH_take (v := undef) ho' hsel hct hready (fun c a w hq => absurd hq (hQp _ _ _)) (.inr ⟨hwn, rfl⟩) (Below.refl _ _) ?_
          obtain ⟨⟨E, rfl, hx, hO, hs⟩, hn, hdfs, hl⟩ := hst
          refine runD_ok hT hΓ hcall hsel hQ hQp n _ _ _ H _ _ h ⟨⟨E, rfl, hx, hO, hs.put (rel_any _ _) hn hdf.1⟩, (put_size _ _ _).trans hn, (put_defers _ _ _).trans hdfs, hl⟩ ?_
          intro j v hm
          cases hm with
          | head =>
            unfold yielded
            rw [ho']
            cases hd : o.dst with
            | none => simp [hd]
            | some d =>
              simp only [Option.bind_some, hd, Act.put]
              rw [Array.getElem?_setIfInBounds, if_pos rfl]
              split
              · rename_i heq
                split at heq <;> simp [undef] at heq
              · rfl
          | tail _ hm => exact hkn.put hdf.2 _ j v hm
        · rename_i hnf
          split at h
          case h_2 => exact h.elim
          rename_i r sc he
          cases hdf : (dstOk nt o.dst && freeD ops.toList known o.dst) with
          | false => rw [hdf] at hct; cases hct
          | true =>
          rw [hdf] at hct
          simp only [Bool.and_eq_true] at hdf
          cases hg : guardD known o.guard with
          | none => rw [hg] at hct; cases hct
          | some b =>
          cases b with
          | false => exact absurd hg hnf
          | true =>
          rw [hg] at hct
          have hwn := wanted_D hkn hg
          simp only at hct
          cases hvc : isVC o.op with
          | true => rw [hvc] at hct; cases hct
          | false =>
          rw [hvc, he] at hct
          simp only at hct
          have hst0 := hst
          obtain ⟨⟨E, rfl, hx, hO, hs⟩, hn, hdfs, hl⟩ := hst
          obtain ⟨u, h1, h2⟩ := evalD_ok hT hΓ hO hs hkn hvc he h.1
          refine wpAnyH_take (v := u) ho' hsel hct hready (fun c a w hq => absurd hq (hQp _ _ _)) (.inl ⟨hwn, h2⟩) (Below.refl _ _) ?_
          have hst1 : St E N0 nt s H a E.w := ⟨⟨E, rfl, Ext.refl E, hO, hs⟩, hn, hdfs, hl⟩
          refine contD_ok (G := fun a' w' => wpAnyH P .any ops Q (Below w'.heap.size w') n (listed.setIfInBounds i true) a' w') (E0 := E) ho' h.2 hst1 hkn hdf.1 hdf.2 (fun E' hw' hO' hs' hx' => rel_ext r hx' u h1) (fun known' s' hgo hst' hk' => ?_)
          obtain ⟨⟨E', hw', hx', hO', hs'⟩, hn', hdf', hl'⟩ := hst'
          exact runD_ok hT hΓ hcall hsel hQ hQp n _ known' s' H _ _ hgo ⟨⟨E', hw', hx.trans hx', hO', hs'⟩, hn', hdf', hl'⟩ hk'
      · rename_i hnone
        refine wpAnyH_all rfl hne (fun i hi => ?_)
        have hp := allD_ok h i hi
        split at hp
        case h_2 => exact hp.elim
        rename_i o ho
        have ho' : ops[i]? = some o := by rw [← Array.getElem?_toList]; exact ho
        unfold wpOp
        rw [ho']
        simp only
        split at hp
        · rename_i hdf hg
          simp only [Bool.and_eq_true] at hdf
          rw [if_pos (wanted_D hkn hg)]
          left
          obtain ⟨⟨E, rfl, hx, hO, hs⟩, hn, hdfs, hl⟩ := hst
          refine effD_ok hT hΓ hcall hO hs hp (fun E' r H' u hκ hx' hO' hlen hr hB => ?_)
          refine ⟨hB, wpAnyH_mono (S' := Below E'.w.heap.size E'.w) (fun w2 h2 => hB.trans (h2.mono hB.size)) _ _ _ _ ?_⟩
          have hst1 : St E' N0 nt s H' a E'.w := ⟨⟨E', rfl, Ext.refl E', hO', hs.ext hx'⟩, hn, hdfs, Nat.le_trans hl hlen⟩
          refine contD_ok (G := fun a' w' => wpAnyH P .any ops Q (Below w'.heap.size w') n (listed.setIfInBounds i true) a' w') (E0 := E') ho' hκ hst1 hkn hdf.1 hdf.2 (fun E2 hw2 hO2 hs2 hx2 => rel_ext r hx2 u hr) (fun known' s' hgo hst' hk' => ?_)
          obtain ⟨⟨E2, hw2, hx2, hO2, hs2⟩, hn2, hdf2, hl2⟩ := hst'
          exact runD_ok hT hΓ hcall hsel hQ hQp n _ known' s' H' _ _ hgo ⟨⟨E2, hw2, (hx.trans hx').trans hx2, hO2, hs2⟩, hn2, hdf2, hl2⟩ hk'
        · rename_i hdf hg
          simp only [Bool.and_eq_true] at hdf
          rw [wanted_D hkn hg]
          simp only [Bool.false_eq_true, if_false]
          obtain ⟨⟨E, rfl, hx, hO, hs⟩, hn, hdfs, hl⟩ := hst
          refine ⟨Below.refl _ _, runD_ok hT hΓ hcall hsel hQ hQp n _ _ _ H _ _ hp ⟨⟨E, rfl, hx, hO, hs.put (rel_any _ _) hn hdf.1⟩, (put_size _ _ _).trans hn, (put_defers _ _ _).trans hdfs, hl⟩ ?_⟩
          intro j v hm
          cases hm with
          | head =>
            unfold yielded
            rw [ho']
            cases hd : o.dst with
            | none => simp [hd]
            | some d =>
              simp only [Option.bind_some, hd, Act.put]
              rw [Array.getElem?_setIfInBounds, if_pos rfl]
              split
              · rename_i heq
                split at heq <;> simp [undef] at heq
              · rfl
          | tail _ hm => exact hkn.put hdf.2 _ j v hm
        · exact hp.elim
end

/-- A row of one's own that is read alone from now on. -/
theorem freeze_ok {E : Env} {H : Heap} (hO : Ok H E) {i : Nat} {ty : TypeId} {sz n : Nat} {get : Nat → List SV} {ver : Nat} {u : Value} (hi : H[i]? = some (.row ty sz n get ver)) (hu : rel (.o i ver) E u) :
    ∃ E', E'.w = E.w ∧ Ext E E' ∧ Ok (H.set i .gone) E' ∧ rel (.rs sz n get) E' u := by
  obtain ⟨u0, xs, h1, h0, h2, h3, h5, h4⟩ := hO.blocks i _ hi
  simp only [rel] at hu
  rw [hu.1] at h1; cases h1
  have hilt : i < H.length := (List.getElem?_eq_some_iff.1 hi).1
  have hbl : blk E i (.row ty sz n get ver) = u.ownBlock := by simp [blk, hu.1]
  let E' : Env := { E with T := fun b => E.T b ∧ u.ownBlock ≠ some b }
  have hx : Ext E E' := ⟨rfl, rfl, rfl, Nat.le_refl _, fun _ _ h => h, fun _ _ _ h => h, fun b hb => ⟨rfl, fun h => hb.2 h.1⟩, fun b hb => ⟨rfl, hb⟩⟩
  have get' : ∀ j hb, (H.set i .gone)[j]? = some hb → (j = i ∧ hb = .gone) ∨ (j ≠ i ∧ H[j]? = some hb) := by
    intro j hb h
    rw [List.getElem?_set] at h
    by_cases e : i = j
    · subst e
      simp only [if_true, hilt, Option.some.injEq] at h
      exact .inl ⟨rfl, h.symm⟩
    · rw [if_neg e] at h; exact .inr ⟨fun h => e h.symm, h⟩
  refine ⟨E', rfl, hx, ⟨fun j hb hj => ?_, fun j hj => hO.fresh j (by simpa using hj), fun j ty' sz' n' get'' ver' hj => ?_, fun j k x y b hne hj hk q1 q2 => ?_, fun b hb => hO.tlt b hb.1, fun b hb => ⟨hO.fsub b hb, fun e => hO.fown i _ b hi (hbl.trans e) hb⟩, fun j x b hj q1 hf => ?_⟩, ?_⟩
  · rcases get' j hb hj with ⟨rfl, rfl⟩ | ⟨hne, hj'⟩
    · trivial
    · have hsep : ∀ b, blk E j hb = some b → u.ownBlock ≠ some b := fun b hb' e => hO.sep j i hb _ b hne hj' hi hb' (hbl.trans e)
      have := hO.blocks j hb hj'
      cases hb with
      | cells cs ty' =>
        obtain ⟨b, us, k1, k2, k3, k4⟩ := this
        exact ⟨b, us, k1, ⟨k2, hsep b k1⟩, k3, relL_ext _ hx _ k4⟩
      | row ty' sz' n' get'' ver' =>
        obtain ⟨u', xs', k1, k0, k2, k3, k5, k4⟩ := this
        exact ⟨u', xs', k1, k0, k2, fun g hg => ⟨k3 g hg, hsep g (by simp [blk, k1, hg])⟩, k5, fun j' hj'' => relL_ext _ hx.pl _ (k4 j' hj'')⟩
      | buf n get =>
        obtain ⟨b, cs, ty', c, k1, k2, k3, k4, k5, k6⟩ := this
        exact ⟨b, cs, ty', c, k1, ⟨k2, hsep b k1⟩, k3, k4, k5, k6⟩
      | gone => trivial
  · rcases get' j _ hj with ⟨_, h⟩ | ⟨_, hj'⟩
    · cases h
    · exact hO.ver j ty' sz' n' get'' ver' hj'
  · rcases get' j x hj with ⟨rfl, rfl⟩ | ⟨_, hj'⟩
    · cases q1
    · rcases get' k y hk with ⟨rfl, rfl⟩ | ⟨_, hk'⟩
      · cases q2
      · exact hO.sep j k x y b hne hj' hk' q1 q2
  · rcases get' j x hj with ⟨rfl, rfl⟩ | ⟨_, hj'⟩
    · cases q1
    · exact hO.fown j x b hj' q1 hf
  · simp only [rel]
    rcases h2.2 with ⟨rfl, hm⟩ | ⟨g, cap, cur, rfl, _, hh, hnc, hcm, hcs, ht⟩
    · subst hm
      exact ⟨none, 0, rfl, Nat.le_refl _, by simp [maxLen], by simp, by omega⟩
    · refine ⟨some ⟨g, 0, none⟩, cap, rfl, hnc, hcm, by simp, fun j hj => ?_⟩
      have hg : E.T g := h3 g rfl
      refine ⟨g, 0, (xs.drop (j * sz)).take sz, rfl, ⟨hO.tlt g hg, fun h => h.2 rfl⟩, relL_ext _ hx.pl _ (h4 j hj), ?_, ?_, fun x hx' => h5 x (List.mem_of_mem_drop (List.mem_of_mem_take hx'))⟩
      · have := Nat.mul_le_mul_right sz (show j + 1 ≤ n from hj)
        rw [Nat.add_mul, Nat.one_mul] at this
        have hl := h2.1
        simp only [List.length_take, List.length_drop]; omega
      · have hcur : E.w.heap[g]? = some (.cells cur.toList.toArray ty (0, 0)) := hh
        have hr2 : readsAt E.w g (j * sz) ((cur.toList.drop (j * sz)).take sz) := reads_cells hcur
        have he : (xs.drop (j * sz)).take sz = (cur.toList.drop (j * sz)).take sz := by
          rw [← ht, List.drop_take, List.take_take]
          congr 1
          have : (j + 1) * sz ≤ n * sz := Nat.mul_le_mul_right _ hj
          rw [Nat.add_mul, Nat.one_mul] at this
          omega
        rw [Nat.zero_add, he]
        exact hr2
theorem frzAt_ok {js : List Nat} {id : Nat} {s : Slots} {H : Heap} {k : Slots → Heap → Prop} {E0 : Env} {N0 nt : Nat} {a : Act} {w : World} (h : frzAt std js id s H k) (hst : St E0 N0 nt s H a w) :
    ∃ s' H', k s' H' ∧ St E0 N0 nt s' H' a w := by
  unfold frzAt at h
  split at h
  · exact ⟨s, H, h, hst⟩
  · rename_i t ht
    split at h
    case h_2 => exact h.elim
    rename_i i ver hlk
    split at h
    case h_2 => exact h.elim
    rename_i ty sz n get ver' hi
    obtain ⟨heq, hk⟩ := h
    simp only [std] at heq
    subst heq
    obtain ⟨⟨E, rfl, hx, hO, hs⟩, hn, hd, hl⟩ := hst
    have hrt := hs t
    rw [hlk] at hrt
    obtain ⟨E', hw, hx', hO', hr⟩ := freeze_ok hO hi hrt
    refine ⟨_, _, hk, ⟨⟨E', hw, hx.trans hx', hO', fun t' => ?_⟩, hn, hd, by simpa using hl⟩⟩
    simp only [look]
    split
    · rename_i e
      rw [← Nat.eq_of_beq_eq_true e]; exact hr
    · exact rel_ext _ hx' _ (hs t')

theorem isNilV_eq {x : Option SV} (h : isNilV x = true) : x = some (.v (.slice none 0 0)) := by
  unfold isNilV at h
  split at h
  · rfl
  · cases h
theorem relL_ext_get {E : Env} : ∀ {xs : List SV} {us : List Value} (i : Nat) (x : SV) (u : Value), relL xs E us → us[i]? = some u → rel x E u → relL (xs.set i x) E us
  | [], _, _, _, _, h, _, _ => by simpa [relL] using h
  | y :: xs, _, 0, x, u, h, hu, hx => by
    simp only [relL] at h
    obtain ⟨u', us, rfl, h1, h2⟩ := h
    simp at hu; subst hu
    simp only [List.set_cons_zero]
    exact relL_cons hx h2
  | y :: xs, _, i + 1, x, u, h, hu, hx => by
    simp only [relL] at h
    obtain ⟨u', us, rfl, h1, h2⟩ := h
    simp only [List.set_cons_succ]
    exact relL_cons h1 (relL_ext_get i x u h2 (by simpa using hu) hx)
/-- An empty slice in a cell of one's own is a row of one's own. -/
theorem nilRows_ok {tab : Tab} {s : Slots} : ∀ (l : List (Nat × Nat × Nat)) {H H' : Heap} {E0 : Env} {N0 nt : Nat} {a : Act} {w : World}, nilRows tab s l H = some H' → St E0 N0 nt s H a w → St E0 N0 nt s H' a w
  | [], H, H', E0, N0, nt, a, w, h, hst => by simp only [nilRows, Option.some.injEq] at h; subst h; exact hst
  | (slot, cell, ty) :: r, H, H', E0, N0, nt, a, w, h, hst => by
    unfold nilRows at h
    split at h
    case h_2 => cases h
    rename_i i off hlk
    split at h
    case h_2 => cases h
    rename_i cs t ti hi hti
    split at h
    case h_2 => cases h
    rename_i hnil
    have hc := isNilV_eq hnil
    refine nilRows_ok r h ?_
    obtain ⟨⟨E, rfl, hx, hO, hs⟩, hn, hd, hl⟩ := hst
    obtain ⟨k1, k2⟩ := newRow_ok hO ty ti.size (fun _ => [])
    have hilt : i < H.length := (List.getElem?_eq_some_iff.1 hi).1
    have hi' : (H ++ [HB.row ty ti.size 0 (fun _ => []) 0])[i]? = some (.cells cs t) := by rw [List.getElem?_append_left hilt]; exact hi
    obtain ⟨b, us, q1, q2, q3, q4⟩ := k2.blocks i _ hi'
    obtain ⟨u, hu1, hu2⟩ := relL_get q4 (off + cell) _ hc
    simp only [rel] at hu2
    subst hu2
    refine ⟨⟨E.newRow H.length ti.size, rfl, hx.trans k1, ?_, hs.ext k1⟩, hn, hd, by simp; omega⟩
    refine write_ok k2 hi' (Ext.refl _) rfl (fun _ h => h) k2.tlt (fun _ _ _ => rfl) ⟨b, us, q1, q2, q3, ?_⟩ (fun b hb => .inl hb) k2.fresh ?_
    · exact relL_ext_get _ _ _ q4 hu1 (by simp only [rel]; exact ⟨by simp [Env.newRow], _, _, _, rfl⟩)
    · intro j ty' sz n get ver hj
      by_cases e : j = i
      · rw [if_pos e] at hj; cases hj
      · rw [if_neg e] at hj; exact k2.ver j ty' sz n get ver hj
theorem ghostAt_ok {tab : Tab} {js : List (Nat × Nat × Nat × Nat)} {id : Nat} {s : Slots} {H : Heap} {k : Slots → Heap → Prop} {E0 : Env} {N0 nt : Nat} {a : Act} {w : World} (h : ghostAt tab js id s H k) (hst : St E0 N0 nt s H a w) :
    ∃ H', k s H' ∧ St E0 N0 nt s H' a w := by
  unfold ghostAt at h
  split at h
  · exact ⟨H, h, hst⟩
  · split at h
    case h_2 => exact h.elim
    rename_i H' hr
    exact ⟨H', h, nilRows_ok _ hr hst⟩
end Go.Sx
