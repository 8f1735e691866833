/- A region's operations that only look, one behind the other, guarded ones among them. -/
import Derived.Test.YtijnahgehahokaaSxSoundC
set_option linter.unusedVariables false
set_option linter.unusedSimpArgs false
namespace Go.Sx
open Go.RowKit
variable {P : Program} {tab : Tab}

def dsts (l : List Oper) : List Nat := l.filterMap (·.dst)
theorem look_put {d : Option Nat} {x : SV} {s : Slots} {t : Nat} (h : d ≠ some t) : look (putS d x s) t = look s t := by
  cases d with
  | none => rfl
  | some d =>
    simp only [putS, look]
    rw [if_neg (by intro e; exact h (by rw [Nat.eq_of_beq_eq_true e]))]
theorem look_anyS {s : Slots} {t : Nat} : ∀ {l : List Oper}, t ∉ dsts l → look (anyS s l) t = look s t
  | [], _ => rfl
  | o :: l, h => by
    unfold anyS
    cases hd : o.dst with
    | none => exact look_anyS (by simpa [dsts, hd] using h)
    | some d =>
      have hn : t ≠ d ∧ t ∉ dsts l := by simpa [dsts, hd] using h
      simp only [look]
      rw [if_neg (by intro e; exact hn.1 (Nat.eq_of_beq_eq_true e).symm)]
      exact look_anyS hn.2
theorem look_anyS_mem {s : Slots} {t : Nat} : ∀ {l : List Oper}, t ∈ dsts l → look (anyS s l) t = .any
  | [], h => by simp [dsts] at h
  | o :: l, h => by
    unfold anyS
    cases hd : o.dst with
    | none => exact look_anyS_mem (by simpa [dsts, hd] using h)
    | some d =>
      simp only [look]
      by_cases e : t = d
      · subst e; rw [if_pos (Nat.beq_refl t)]
      · rw [if_neg (by intro e'; exact e (Nat.eq_of_beq_eq_true e').symm)]
        have : t = d ∨ t ∈ dsts l := by simpa [dsts, hd] using h
        exact look_anyS_mem (this.resolve_left e)
theorem splitPick_eq (t : Nat) : ∀ l : List Oper, (splitPick t l).1 ++ (splitPick t l).2 = l
  | [] => rfl
  | o :: rest => by
    unfold splitPick
    split
    · split
      · rfl
      · simp [splitPick_eq t rest]
    · simp [splitPick_eq t rest]
theorem splitPick_head (t : Nat) : ∀ (l : List Oper) (p : Oper) (r : List Oper), (splitPick t l).2 = p :: r → ∃ x y, p.op = .pick (.tmp t) x y
  | [], p, r, h => by simp [splitPick] at h
  | o :: rest, p, r, h => by
    unfold splitPick at h
    split at h
    · rename_i u x y hop
      split at h
      · rename_i he
        simp only [List.cons.injEq] at h
        obtain ⟨rfl, rfl⟩ := h
        rw [Nat.eq_of_beq_eq_true he] at hop
        exact ⟨x, y, hop⟩
      · exact splitPick_head t rest p r h
    · exact splitPick_head t rest p r h

/-- A run of operations that only look writes no other slot than theirs. -/
theorem runG_look {O : Leaf} {Γ : Known} {nt : Nat} {all : List Oper} {H : Heap} {t : Nat} : ∀ (n : Nat) (known : List (Nat × Bool)) (s : Slots) (l : List Oper) (s' : Slots) (sc : Prop),
    runG O tab Γ nt all H n known s l = some (s', sc) → t ∉ dsts l → look s' t = look s t
  | 0, _, _, _, _, _, h, _ => by simp [runG] at h
  | n + 1, known, s, [], s', sc, h, _ => by simp only [runG, Option.some.injEq, Prod.mk.injEq] at h; rw [h.1]
  | n + 1, known, s, o :: rest, s', sc, h, ht => by
    have ho : o.dst ≠ some t := by intro e; exact ht (by simp [dsts, e])
    have hrest : t ∉ dsts rest := by
      intro hm; apply ht
      cases hd : o.dst with
      | none => simpa [dsts, hd] using hm
      | some d => simp [dsts, hd]; exact .inr (by simpa [dsts] using hm)
    unfold runG at h
    split at h
    · split at h
      case h_2 => cases h
      rename_i r sc1 hd he
      split at h
      case h_2 => cases h
      rename_i s1 sc2 hr
      simp only [Option.some.injEq, Prod.mk.injEq] at h
      rw [← h.1, runG_look n known _ rest s1 sc2 hr hrest, look_put ho]
    · split at h
      case h_2 => cases h
      rename_i j w hg
      split at h
      case h_2 => cases h
      rename_i c g p rest' hlk hsp
      split at h
      case h_2 => cases h
      rename_i s1 sc1 cc x y hb hr1 hop
      split at h
      case h_2 => cases h
      rename_i bx byy hx hy hc
      split at h
      case h_2 => cases h
      rename_i s2 sc2 hr2
      simp only [Option.some.injEq, Prod.mk.injEq] at h
      have heq := splitPick_eq (dstOf all j) (o :: rest)
      rw [hsp] at heq
      simp only at heq
      rw [← heq] at ht
      have ht' : t ∉ dsts g ∧ p.dst ≠ some t ∧ t ∉ dsts rest' := by
        refine ⟨fun hm => ht ?_, fun e => ht ?_, fun hm => ht ?_⟩
        · unfold dsts at *; rw [List.filterMap_append]; exact List.mem_append.2 (.inl hm)
        · unfold dsts at *; rw [List.filterMap_append]; exact List.mem_append.2 (.inr (by rw [List.filterMap_cons, e]; simp))
        · unfold dsts at *; rw [List.filterMap_append]; refine List.mem_append.2 (.inr ?_)
          rw [List.filterMap_cons]; split
          · exact hm
          · exact List.mem_cons_of_mem _ hm
      rw [← h.1, runG_look n known _ rest' s2 sc2 hr2 ht'.2.2, look_put ht'.2.1, look_anyS ht'.1]
/-- The guards that are taken as known have yielded so. -/
def KnownG (ops : Array Oper) (known : List (Nat × Bool)) (a : Act) : Prop :=
  ∀ j w, (j, w) ∈ known → hasDst ops.toList j = true ∧ a.tmps[dstOf ops.toList j]? = some (.bool w)
theorem yielded_of {ops : Array Oper} {a : Act} {j : Nat} {w : Bool} (hd : hasDst ops.toList j = true) (h : a.tmps[dstOf ops.toList j]? = some (.bool w)) : yielded ops a.tmps j = some w := by
  unfold yielded
  unfold hasDst dstOf at *
  rw [Array.getElem?_toList] at hd h
  cases ho : ops[j]? with
  | none => rw [ho] at hd; cases hd
  | some o =>
    rw [ho] at hd h
    simp only at hd h
    obtain ⟨d, hd'⟩ := Option.isSome_iff_exists.1 hd
    rw [hd'] at h
    simp only [Option.getD_some] at h
    simp [hd', h]
theorem lk_mem {α : Type} : ∀ {l : List (Nat × α)} {j : Nat} {x : α}, lk l j = some x → (j, x) ∈ l
  | [], _, _, h => by cases h
  | (d, y) :: l, j, x, h => by
    unfold lk at h
    split at h
    · rename_i he
      cases h
      rw [Nat.eq_of_beq_eq_true he]
      exact List.mem_cons_self
    · exact List.mem_cons_of_mem _ (lk_mem h)
theorem wanted_known {ops : Array Oper} {known : List (Nat × Bool)} {a : Act} (hk : KnownG ops known a) {o : Oper} (h : isKnown known o.guard = true) : Region.wanted o (yielded ops a.tmps) = true := by
  unfold Region.wanted
  unfold isKnown at h
  cases hg : o.guard with
  | none => rfl
  | some g =>
    obtain ⟨j, w⟩ := g
    rw [hg] at h
    simp only at h
    split at h
    · rename_i w' hl
      obtain ⟨h1, h2⟩ := hk j w' (lk_mem hl)
      simp only [yielded_of h1 h2]
      simp only [beq_iff_eq] at h
      rw [h]; exact beq_self_eq_true _
    · cases h
theorem free_ne {all : List Oper} : ∀ {known : List (Nat × Bool)} {d : Nat}, freeOf all known (some d) = true → ∀ j w, (j, w) ∈ known → dstOf all j ≠ d
  | [], _, _, _, _, h => by cases h
  | (i, v) :: r, d, h, j, w, hm => by
    simp only [freeOf, Bool.and_eq_true, Bool.not_eq_true'] at h
    cases hm with
    | head => intro e; rw [e] at h; have := h.1; rw [Nat.beq_refl] at this; cases this
    | tail _ hm => exact free_ne h.2 j w hm
theorem KnownG.put {ops : Array Oper} {known : List (Nat × Bool)} {a : Act} (hk : KnownG ops known a) {d : Option Nat} (hf : freeOf ops.toList known d = true) (u : Value) : KnownG ops known (a.put d u) := by
  intro j w hm
  obtain ⟨h1, h2⟩ := hk j w hm
  refine ⟨h1, ?_⟩
  cases d with
  | none => exact h2
  | some d =>
    simp only [Act.put]
    rw [Array.getElem?_setIfInBounds, if_neg (Ne.symm (free_ne hf j w hm))]
    exact h2

/-- A group whose guard says no: each of its operations is passed over. -/
theorem skip_ok {ops : Array Oper} {C : World → Prop} {Q : Act → Prop} {j : Nat} {w c : Bool} (hcw : c ≠ w) (hd : hasDst ops.toList j = true) {known : List (Nat × Bool)} {rest : List Oper} :
    ∀ (g : List Oper) (seen : List Nat) (a : Act), inGroup ops.toList j w (dstOf ops.toList j) seen g = true → freeAll ops.toList known g = true → KnownG ops known a → a.tmps[dstOf ops.toList j]? = some (.bool c) →
      (∀ d ∈ seen, a.tmps.getD d undef = undef) →
      (∀ a', KnownG ops known a' → a'.tmps[dstOf ops.toList j]? = some (.bool c) → (∀ t, t ∉ dsts g → a'.tmps.getD t undef = a.tmps.getD t undef) → a'.tmps.size = a.tmps.size → a'.defers = a.defers → wpQuiet P ops C Q rest a') → wpQuiet P ops C Q (g ++ rest) a
  | [], _, a, _, _, hk, hc, _, h => h a hk hc (fun _ _ => rfl) rfl rfl
  | o :: g, seen, a, hg, hf, hk, hc, hsn, h => by
    simp only [inGroup, Bool.and_eq_true] at hg
    simp only [freeAll, Bool.and_eq_true] at hf
    obtain ⟨hg1, hg2⟩ := hg
    have hw : Region.wanted o (yielded ops a.tmps) = false := by
      unfold Region.wanted
      cases hgd : o.guard with
      | none => rw [hgd] at hg1; cases hg1
      | some q =>
        obtain ⟨i, v⟩ := q
        rw [hgd] at hg1
        simp only [Bool.or_eq_true, Bool.and_eq_true, beq_iff_eq] at hg1
        simp only
        rcases hg1 with ⟨hi, hv⟩ | hseen
        · have hi' := Nat.eq_of_beq_eq_true hi
          subst hi'
          rw [yielded_of hd hc, hv]
          cases c <;> cases w <;> first | rfl | exact absurd rfl hcw
        · have := hsn _ (by simpa using hseen)
          have hy : yielded ops a.tmps i = none := by
            unfold yielded
            unfold dstOf at this
            rw [Array.getElem?_toList] at this
            cases ho : ops[i]? with
            | none => rfl
            | some oi =>
              rw [ho] at this
              simp only at this
              cases hdi : oi.dst with
              | none => simp [hdi]
              | some d =>
                rw [hdi] at this
                simp only [Option.getD_some, Array.getD_eq_getD_getElem?] at this
                simp only [Option.bind_some, hdi]
                cases ht : a.tmps[d]? with
                | none => rfl
                | some u => rw [ht] at this; simp only [Option.getD_some] at this; subst this; rfl
          rw [hy]; cases v <;> rfl
    show wpQuiet P ops C Q (o :: (g ++ rest)) a
    unfold wpQuiet
    rw [hw]
    simp only [Bool.false_eq_true, if_false]
    cases hdo : o.dst with
    | none =>
      rw [hdo] at hg2 hf
      simp only at hg2
      have hae : dsts (o :: g) = dsts g := by simp [dsts, hdo]
      exact skip_ok hcw hd g seen a hg2 hf.2 hk hc hsn (fun a' h1 h2 h3 => h a' h1 h2 (by rw [hae]; exact h3))
    | some d =>
      rw [hdo] at hg2 hf
      simp only [Bool.and_eq_true, Bool.not_eq_true'] at hg2
      have hne : d ≠ dstOf ops.toList j := by intro e; rw [e, Nat.beq_refl] at hg2; cases hg2.1
      have hae : dsts (o :: g) = d :: dsts g := by simp [dsts, hdo]
      refine skip_ok hcw hd g (d :: seen) (a.put (some d) undef) hg2.2 hf.2 (hk.put hf.1 _) ?_ ?_ (fun a' h1 h2 h3 h4 h5 => h a' h1 h2 (fun t ht => ?_) (h4.trans (put_size _ _ _)) h5)
      · simp only [Act.put]; rw [Array.getElem?_setIfInBounds, if_neg hne]; exact hc
      · intro d' hd'
        simp only [Act.put, Array.getD_eq_getD_getElem?, Array.getElem?_setIfInBounds]
        by_cases e : d = d'
        · subst e
          by_cases hlt : d < a.tmps.size
          · simp [hlt]
          · simp [hlt]
        · rw [if_neg e]
          cases hd' with
          | head => exact absurd rfl e
          | tail _ hm => simpa [Array.getD_eq_getD_getElem?] using hsn d' hm
      · rw [hae] at ht
        simp only [List.mem_cons, not_or] at ht
        rw [h3 t ht.2]
        simp only [Act.put, Array.getD_eq_getD_getElem?, Array.getElem?_setIfInBounds]
        rw [if_neg (Ne.symm ht.1)]

theorem slots_any {E : Env} {s s' : Slots} {a a' : Act} {g : List Oper} (hs : SlotsOk E s a) (h : ∀ t, t ∉ dsts g → a'.tmps.getD t undef = a.tmps.getD t undef) : SlotsOk E (anyS s g) a' := by
  intro t
  by_cases ht : t ∈ dsts g
  · rw [look_anyS_mem ht]; exact rel_any _ _
  · rw [look_anyS ht, h t ht]; exact hs t
theorem slots_any' {E : Env} {s s' : Slots} {a' : Act} {g : List Oper} (hs : SlotsOk E s' a') (h : ∀ t, t ∉ dsts g → look s' t = look s t) : SlotsOk E (anyS s g) a' := by
  intro t
  by_cases ht : t ∈ dsts g
  · rw [look_anyS_mem ht]; exact rel_any _ _
  · rw [look_anyS ht, ← h t ht]; exact hs t
theorem pick_quiet {o : Oper} {a : Act} {C : World → Prop} {w' : World} {c : Bool} {t : Nat} {x y : Operand} {v : Value} (ho : o.op = .pick (.tmp t) x y) (hc : a.tmps[t]? = some (.bool c)) (hv : (if c then a.eval x else a.eval y) = v) : o.quietAt P a C w' v := by
  refine quiet_value ?_
  have he : a.eval (.tmp t) = .bool c := by simp [Act.eval, Array.getD_eq_getD_getElem?, hc]
  unfold execOp
  simp only [ho, he, asBool, Sem.run_bind, Sem.run_pure, Result.andThen_ok]
  cases c <;> simp at hv <;> simp [hv]

/-- THE RUN OVER OPERATIONS THAT ONLY LOOK: whatever order the region draws, what stands behind it is asked of what the runner says. -/
theorem runG_ok (hT : TabOk P tab) {Γ : Known} (hΓ : KnownOk P Γ) {E : Env} {H : Heap} (hO : Ok H E) {ops : Array Oper} {nt : Nat} {Q : Act → Prop} :
    ∀ (n : Nat) (known : List (Nat × Bool)) (s : Slots) (l rest : List Oper) (s' : Slots) (sc : Prop) (a : Act), runG std tab Γ nt ops.toList H n known s l = some (s', sc) → sc → SlotsOk E s a → a.tmps.size = nt → KnownG ops known a →
      (∀ a', SlotsOk E s' a' → a'.tmps.size = nt → a'.defers = a.defers → KnownG ops known a' → wpQuiet P ops (Below E.w.heap.size E.w) Q rest a') →
      wpQuiet P ops (Below E.w.heap.size E.w) Q (l ++ rest) a
  | 0, _, _, _, _, _, _, _, h, _, _, _, _, _ => by simp [runG] at h
  | n + 1, known, s, [], rest, s', sc, a, h, _, hs, hn, hk, k => by
    simp only [runG, Option.some.injEq, Prod.mk.injEq] at h
    rw [← h.1] at k
    exact k a hs hn rfl hk
  | n + 1, known, s, o :: l, rest, s', sc, a, h, hsc, hs, hn, hk, k => by
    unfold runG at h
    split at h
    · rename_i hknown
      split at h
      case h_2 => cases h
      rename_i r sc1 hd he
      simp only [Bool.and_eq_true] at hd
      split at h
      case h_2 => cases h
      rename_i s1 sc2 hr
      simp only [Option.some.injEq, Prod.mk.injEq] at h
      obtain ⟨rfl, rfl⟩ := h
      obtain ⟨u, h1, h2⟩ := evalQ_ok hT hΓ hO hs he hsc.1
      show wpQuiet P ops _ Q (o :: (l ++ rest)) a
      unfold wpQuiet
      rw [wanted_known hk hknown]
      simp only [if_true]
      refine ⟨u, fun w' hw' => h2 w' hw', ?_⟩
      exact runG_ok hT hΓ hO n known _ l rest s1 sc2 _ hr hsc.2 (hs.put h1 hn hd.1) ((put_size _ _ _).trans hn) (hk.put hd.2 u) (fun a' h3 h4 h5 h6 => k a' h3 h4 (h5.trans (put_defers _ _ _)) h6)
    · rename_i hnk
      split at h
      case h_2 => cases h
      rename_i j w hg
      split at h
      case h_2 => cases h
      rename_i c g p rest' hlk hsp
      split at h
      case h_2 => cases h
      rename_i s1 sc1 cc x y hb hr1 hop
      split at h
      case h_2 => cases h
      rename_i bx byy hx hy hconst
      split at h
      case h_2 => cases h
      rename_i s2 sc2 hr2
      simp only [Option.some.injEq, Prod.mk.injEq] at h
      obtain ⟨rfl, rfl⟩ := h
      simp only [Bool.and_eq_true] at hb
      obtain ⟨⟨⟨⟨⟨hb1, hb2⟩, hb3⟩, hb4⟩, hb5⟩, hb6⟩ := hb
      have heq := splitPick_eq (dstOf ops.toList j) (o :: l)
      rw [hsp] at heq
      simp only at heq
      obtain ⟨x', y', hop'⟩ := splitPick_head (dstOf ops.toList j) (o :: l) p rest' (by rw [hsp])
      rw [hop'] at hop
      simp only [Op.pick.injEq] at hop
      obtain ⟨_, rfl, rfl⟩ := hop
      have hslot : a.tmps[dstOf ops.toList j]? = some (.bool c) := by
        have := hs (dstOf ops.toList j)
        rw [hlk] at this
        simp only [rel, Array.getD_eq_getD_getElem?] at this
        cases ht : a.tmps[dstOf ops.toList j]? with
        | none => rw [ht] at this; simp [undef] at this
        | some u => rw [ht] at this; simpa using this
      rw [← heq, List.append_assoc, List.cons_append]
      have fin : ∀ a1 : Act, SlotsOk E (anyS s g) a1 → a1.tmps.size = nt → a1.defers = a.defers → KnownG ops known a1 → a1.tmps[dstOf ops.toList j]? = some (.bool c) → (if c then a1.eval x' else a1.eval y') = .bool (std.ite c bx byy) →
          wpQuiet P ops (Below E.w.heap.size E.w) Q (p :: (rest' ++ rest)) a1 := by
        intro a1 k1 k2 k3 k4 k5 k6
        unfold wpQuiet
        rw [wanted_known k4 hb2]
        simp only [if_true]
        refine ⟨_, fun w' _ => pick_quiet hop' k5 k6, ?_⟩
        exact runG_ok hT hΓ hO n known _ rest' rest s2 sc2 _ hr2 hsc.2 (k1.put (by simp only [rel]) k2 hb3) ((put_size _ _ _).trans k2) (k4.put hb6 _)
          (fun a' h3 h4 h5 h6 => k a' h3 h4 (h5.trans ((put_defers _ _ _).trans k3)) h6)
      by_cases hcw : c = w
      · subst hcw
        have hk' : KnownG ops ((j, c) :: known) a := by
          intro i v hm
          cases hm with
          | head => exact ⟨hb4, hslot⟩
          | tail _ hm => exact hk i v hm
        refine runG_ok hT hΓ hO n ((j, c) :: known) s g (p :: (rest' ++ rest)) s1 sc1 a hr1 (hsc.1 rfl) hs hn hk' (fun a1 k1 k2 k3 k4 => ?_)
        have hsl := (k4 j c List.mem_cons_self).2
        refine fin a1 (slots_any' k1 (fun t ht => runG_look n _ s g s1 sc1 hr1 ht)) k2 k3 (fun i v hm => k4 i v (List.mem_cons_of_mem _ hm)) hsl ?_
        have e1 := opd_ok k1 x'
        have e2 := opd_ok k1 y'
        rw [hx] at e1
        rw [hy] at e2
        simp only [rel] at e1 e2
        rw [e1, e2]
        cases c <;> simp [std]
      · refine skip_ok hcw hb4 g [] a hb1 hb5 hk hslot (by simp) (fun a1 k1 k2 k3 k4 k5 => ?_)
        refine fin a1 (slots_any hs k3 (s' := s)) (k4.trans hn) k5 k1 k2 ?_
        cases w with
        | true =>
          have hc : c = false := by cases c <;> simp_all
          subst hc
          simp only [Bool.false_eq_true, if_false]
          unfold constB at hconst
          simp only at hconst
          split at hconst
          · rename_i b
            simp only [opd, SV.v.injEq, Value.bool.injEq] at hy
            subst hy
            simp [Act.eval, std]
          · cases hconst
        | false =>
          have hc : c = true := by cases c <;> simp_all
          subst hc
          simp only [if_true]
          unfold constB at hconst
          simp only at hconst
          split at hconst
          · rename_i b
            simp only [opd, SV.v.injEq, Value.bool.injEq] at hx
            subst hx
            simp [Act.eval, std]
          · cases hconst
end Go.Sx
