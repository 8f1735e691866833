/- The runner is right: a function's code comes to what the runner says of it. -/
import Derived.Test.YtijnahgehahokaaSxTail
import Derived.Deep.LoopGhost
set_option linter.unusedVariables false
set_option linter.unusedSimpArgs false
namespace Go.Sx
open Go.RowKit
variable {P : Program} {tab : Tab}

def XT.ex : XT → Exit
  | .normal => .normal
  | .exit id => .exit id
  | .ret => .ret

def Fresh (E0 : Env) (N0 : Nat) : Prop := ∀ i, N0 ≤ i → E0.ρ i = none ∧ ∀ k, E0.σ i k = none

theorem leH_get : ∀ {H H' : Heap}, leH H H' → ∀ (i : Nat) (hb' : HB), H'[i]? = some hb' → ∃ hb : HB, H[i]? = some hb ∧ leB hb hb'
  | _, [], _, i, _, h => by simp at h
  | [], _ :: _, h, _, _, _ => h.elim
  | x :: H, y :: H', h, 0, hb', hi => by simp at hi; subst hi; exact ⟨x, rfl, h.1⟩
  | x :: H, y :: H', h, i + 1, hb', hi => by
    obtain ⟨hb, h1, h2⟩ := leH_get h.2 i hb' (by simpa using hi)
    exact ⟨hb, by simpa using h1, h2⟩
theorem leH_length : ∀ {H H' : Heap}, leH H H' → H'.length ≤ H.length
  | _, [], _ => by simp
  | [], _ :: _, h => h.elim
  | x :: H, y :: H', h => by have := leH_length h.2; simp; omega
theorem scopeH_get {N : Nat} : ∀ {H : Heap}, scopeH N H = true → ∀ (i : Nat) cs ty, H[i]? = some (.cells cs ty) → scopeL N cs = true
  | [], _, i, _, _, h => by simp at h
  | hb :: H, h, 0, cs, ty, hi => by
    simp at hi; subst hi
    simp only [scopeH, Bool.and_eq_true] at h
    exact h.1
  | hb :: H, h, i + 1, cs, ty, hi => by
    have h' : scopeH N H = true := by
      cases hb <;> simp only [scopeH, Bool.and_eq_true] at h
      · exact h.2
      · exact h
      · exact h
      · exact h
    exact scopeH_get h' i cs ty (by simpa using hi)
theorem leS_look {s : Slots} : ∀ {s' : Slots} {t : Nat}, leS s s' → look s' t = .any ∨ (look s' t = look s t ∧ (t, look s' t) ∈ s')
  | [], t, _ => .inl rfl
  | (d, x) :: r, t, h => by
    simp only [look]
    by_cases e : Nat.beq d t = true
    · rw [if_pos e]
      have e' := Nat.eq_of_beq_eq_true e
      subst e'
      exact .inr ⟨h.1.symm, List.mem_cons_self⟩
    · rw [if_neg e]
      rcases leS_look h.2 (t := t) with h1 | ⟨h1, h2⟩
      · exact .inl h1
      · exact .inr ⟨h1, List.mem_cons_of_mem _ h2⟩
theorem scopeS_mem {N : Nat} : ∀ {s : Slots}, scopeS N s = true → ∀ t x, (t, x) ∈ s → scope N x = true
  | [], _, _, _, h => by cases h
  | (d, y) :: r, h, t, x, hm => by
    simp only [scopeS, Bool.and_eq_true] at h
    cases hm with
    | head => exact h.1
    | tail _ hm => exact scopeS_mem h.2 t x hm

theorem ext_cut {E0 E : Env} {N0 N : Nat} (hF : Fresh E0 N0) (hN : N0 ≤ N) (hx : Ext E0 E) : Ext E0 (E.cut N) := by
  refine ⟨hx.os, hx.tape, hx.output, hx.size, fun i b hb => ?_, fun i k u hu => ?_, hx.still, hx.F⟩
  · have hlt : i < N := by
      rcases Nat.lt_or_ge i N0 with h | h
      · omega
      · rw [(hF i h).1] at hb; cases hb
    simp only [Env.cut]; rw [if_pos hlt]; exact hx.ρ i b hb
  · have hlt : i < N := by
      rcases Nat.lt_or_ge i N0 with h | h
      · omega
      · rw [(hF i h).2 k] at hu; cases hu
    simp only [Env.cut]; rw [if_pos hlt]; exact hx.σ i k u hu

/-- Less is known, and of fewer blocks. -/
theorem le_heap {E : Env} {H H' : Heap} (hO : Ok H E) (h : leH H H') (hsc : scopeH H'.length H' = true) : Ok H' (E.cut H'.length) := by
  have blkeq : ∀ i hb hb', i < H'.length → leB hb hb' → blk (E.cut H'.length) i hb' = none ∨ blk (E.cut H'.length) i hb' = blk E i hb := by
    intro i hb hb' hi hle
    cases hb <;> cases hb' <;> simp only [leB] at hle <;> first
      | exact .inl rfl
      | (obtain ⟨rfl, rfl, rfl, rfl, _⟩ := hle; right; simp only [blk, Env.cut, if_pos hi])
      | (right; simp only [blk, Env.cut, if_pos hi])
  refine ⟨fun i hb' hi => ?_, fun i hi => ?_, fun i ty sz n get ver hi k hk => ?_, fun i j x y b hne hi hj h1 h2 => ?_, hO.tlt, hO.fsub, fun i hb' b hi hbk => ?_⟩
  · obtain ⟨hb, h1, h2⟩ := leH_get h i hb' hi
    have hlt : i < H'.length := (List.getElem?_eq_some_iff.1 hi).1
    have hb1 := hO.blocks i hb h1
    cases hb <;> cases hb' <;> simp only [leB] at h2 <;> try trivial
    · obtain ⟨rfl, rfl⟩ := h2
      obtain ⟨b, us, k1, k2, k3, k4⟩ := hb1
      exact ⟨b, us, by simp only [Env.cut, if_pos hlt]; exact k1, k2, k3, relL_cut _ _ _ (scopeH_get hsc i _ _ hi) k4⟩
    · obtain ⟨rfl, rfl, rfl, rfl, hg⟩ := h2
      obtain ⟨u, xs, k1, k0, k2, k3, k5, k4⟩ := hb1
      exact ⟨u, xs, by simp only [Env.cut, if_pos hlt]; exact k1, by simp only [Env.cut, if_pos hlt]; exact k0, k2, k3, k5, fun j hj => by rw [cut_pl, ← hg j hj]; exact k4 j hj⟩
    · obtain ⟨rfl, hg⟩ := h2
      obtain ⟨b, cs, ty, c, k1, k2, k3, k4, k5, k6⟩ := hb1
      exact ⟨b, cs, ty, c, by simp only [Env.cut, if_pos hlt]; exact k1, k2, k3, k4, by simp only [Env.cut, if_pos hlt]; exact k5, fun j hj => by rw [← hg j hj]; exact k6 j hj⟩
  · simp only [Env.cut]
    rw [if_neg (by omega)]
    exact ⟨rfl, fun k => by rw [if_neg (by omega)]⟩
  · obtain ⟨hb, h1, h2⟩ := leH_get h i _ hi
    have hlt : i < H'.length := (List.getElem?_eq_some_iff.1 hi).1
    simp only [Env.cut, if_pos hlt]
    cases hb <;> simp only [leB] at h2
    obtain ⟨rfl, rfl, rfl, rfl, _⟩ := h2
    exact hO.ver i _ _ _ _ _ h1 k hk
  · obtain ⟨hb, q1, q2⟩ := leH_get h i x hi
    obtain ⟨hc, q3, q4⟩ := leH_get h j y hj
    rcases blkeq i hb x (List.getElem?_eq_some_iff.1 hi).1 q2 with e | e
    · rw [e] at h1; cases h1
    · rcases blkeq j hc y (List.getElem?_eq_some_iff.1 hj).1 q4 with e' | e'
      · rw [e'] at h2; cases h2
      · rw [e] at h1; rw [e'] at h2
        exact hO.sep i j hb hc b hne q1 q3 h1 h2
  · obtain ⟨hb, q1, q2⟩ := leH_get h i hb' hi
    rcases blkeq i hb hb' (List.getElem?_eq_some_iff.1 hi).1 q2 with e | e
    · rw [e] at hbk; cases hbk
    · rw [e] at hbk; exact hO.fown i hb b q1 hbk
theorem le_st {E0 : Env} {N0 nt : Nat} (hF : Fresh E0 N0) {s s' : Slots} {H H' : Heap} {a : Act} {w : World} (k : St E0 N0 nt s H a w) (h1 : leS s s') (h2 : leH H H') (hN : N0 ≤ H'.length)
    (h3 : scopeS H'.length s' = true) (h4 : scopeH H'.length H' = true) : St E0 N0 nt s' H' a w := by
  obtain ⟨⟨E, rfl, hx, hO, hs⟩, hn, hd, hl⟩ := k
  refine ⟨⟨E.cut H'.length, rfl, ext_cut hF hN hx, le_heap hO h2 h4, fun t => ?_⟩, hn, hd, hN⟩
  rcases leS_look h1 (t := t) with h | ⟨h, hm⟩
  · rw [h]; exact rel_any _ _
  · refine rel_cut _ _ _ (scopeS_mem h3 t _ hm) ?_
    rw [h]; exact hs t

theorem lexAll_nil : ∀ c : Code, lexAll [] [] c = true
  | .region _ _ true => by simp [lexAll, mem, lk]
  | .seq a b => by simp [lexAll, lexAll_nil a, lexAll_nil b]
  | .block _ c => by simp [lexAll, lexAll_nil c]
  | .cond _ a b => by simp [lexAll, lexAll_nil a, lexAll_nil b]
  | .loop c => by simp [lexAll, lexAll_nil c]
  | .region _ _ false | .skip | .exit _ | .ret | .rangeFunc _ _ _ _ | .scope _ | .label _ | .goto _ | .refuse _ => by simp [lexAll]
/-- THE CODE. -/
theorem runC_ok (hT : TabOk P tab) {Γ : Known} (hΓ : KnownOk P Γ) {call : CallH} (hcall : CallOk P call) {E0 : Env} {N0 nt : Nat} {js : Cf} (hF : Fresh E0 N0) :
    ∀ (c : Code) (_ : lexAll js.lx js.tl c = true) (s : Slots) (H : Heap) (κ : XT → Slots → Heap → Prop) (a : Act) (w : World), runC std tab Γ call nt N0 js c s H κ → St E0 N0 nt s H a w →
      c.wp P (fun e a' w' => ∃ x s' H', e = x.ex ∧ κ x s' H' ∧ St E0 N0 nt s' H' a' w') a w
  | .skip, hlx, s, H, κ, a, w, h, k => wp_skip ⟨.normal, s, H, rfl, by simpa [runC] using h, k⟩
  | .exit id, hlx, s, H, κ, a, w, h, k => wp_exit ⟨.exit id, s, H, rfl, by simpa [runC] using h, k⟩
  | .ret, hlx, s, H, κ, a, w, h, k => wp_ret ⟨.ret, s, H, rfl, by simpa [runC] using h, k⟩
  | .region id ops false, hlx, s, H, κ, a, w, h, k => by
    simp only [runC] at h
    obtain ⟨s, H, h, k⟩ := frzAt_ok h k
    obtain ⟨H, h, k⟩ := ghostAt_ok h k
    have := runOps_ok (ops := ops) hT hΓ hcall (Q' := fun e a' w' => ∃ x s' H', e = x.ex ∧ κ x s' H' ∧ St E0 N0 nt s' H' a' w') (4 * ops.toList.length + 9) [] ops.toList [] (κ .normal) s H a w (fun s' H' a' w' h1 h2 _ => ⟨.normal, s', H', rfl, h1, h2⟩) h k (fun _ _ hm => by cases hm)
    rw [List.append_nil] at this
    exact wp_region_list this
  | .region id ops true, hlx, s, H, κ, a, w, h, k => by
    simp only [runC] at h
    obtain ⟨s, H, h, k⟩ := frzAt_ok h k
    obtain ⟨H, h, k⟩ := ghostAt_ok h k
    split at h
    case h_2 =>
      split at h
      case h_1 =>
        rename_i stop pre lh hstop
        split at h
        case h_2 => exact h.elim
        rename_i s1 hpre
        have htl : tailOk ops stop pre = true := by simp only [lexAll, hstop, Bool.and_eq_true] at hlx; exact hlx.2.1
        have htl' := htl
        simp only [tailOk, Bool.and_eq_true] at htl'
        obtain ⟨⟨⟨⟨⟨⟨⟨t1, t2⟩, t0⟩, t3⟩, t4⟩, t5⟩, t6⟩, t7⟩ := htl'
        obtain ⟨⟨E, rfl, hx, hO, hs⟩, hn, hd, hl⟩ := k
        have hB : Below E.w.heap.size E.w { E.w with drawn := E.w.drawn + 1 } := ⟨rfl, rfl, rfl, Nat.le_refl _, fun _ _ => rfl⟩
        have hst1 : St E0 N0 nt s H a { E.w with drawn := E.w.drawn + 1 } := ⟨⟨E.grow { E.w with drawn := E.w.drawn + 1 }, rfl, hx.trans (ext_grow hB hO.flt), ok_grow hB hO, hs.ext (ext_grow hB hO.flt)⟩, hn, hd, hl⟩
        refine region_tail (E0 := E0) (N0 := N0) (stop := stop) (Tl := fun a' w' => ∃ s' H', runOps std tab Γ call nt ops.toList (4 * ops.toList.length + 9) [] (ops.toList.drop stop) s' H' (κ .normal) ∧ St E0 N0 nt s' H' a' w') hT.mixed htl ?_ (by rintro c a' w' ⟨x, s', H', hx, _⟩; cases x <;> cases hx) hpre hst1 ?_
        · rintro a' w' ⟨s', H', h1, h2⟩
          have := runOps_ok (ops := ops) hT hΓ hcall (Q' := fun e a' w' => ∃ x s' H', e = x.ex ∧ κ x s' H' ∧ St E0 N0 nt s' H' a' w') (4 * ops.toList.length + 9) [] (ops.toList.drop stop) [] (κ .normal) s' H' a' w' (fun s' H' a' w' h1 h2 _ => ⟨.normal, s', H', rfl, h1, h2⟩) h1 h2 (fun _ _ hm => by cases hm)
          rwa [List.append_nil] at this
        · intro a' hst' inv
          split at h
          · split at h
            case h_2 => exact h.elim
            rename_i s2 sc hr
            have hlh : lexHeadP ops (headIx stop pre) (preArr ops pre) = true ∧ Nat.beq ((headIx stop pre).length + pre.length) stop = true := by
              simp only [lexAll, hstop, Bool.and_eq_true, Bool.not_true, Bool.false_or] at hlx; exact hlx.2.2
            obtain ⟨hlh, hlb⟩ := hlh
            have hlen0 := Nat.eq_of_beq_eq_true hlb
            obtain ⟨⟨E1, hE1, hx1, hO1, hs1⟩, hn1, hd1, hl1⟩ := hst'
            have hq := runG_ok (ops := ops) (Q := fun a' => SlotsOk E1 s2 a' ∧ a'.tmps.size = nt ∧ a'.defers = []) hT hΓ hO1 (4 * ops.toList.length + 9) [] s1 (opsAt ops (headIx stop pre)) [] s2 sc a' hr h.1 hs1 hn1 (fun _ _ hm => by cases hm)
              (fun a' h1 h2 h3 _ => wpQuiet_nil ⟨h1, h2, h3.trans hd1⟩)
            rw [List.append_nil] at hq
            have hQT := wpQT_lex (P := P) (stop := stop) (ops := ops) (pre := pre) t1 t3 t4 (Nat.blt_eq.mp t2) (headIx stop pre) (preArr ops pre) a' hlh (fun i hi => by simp [headIx] at hi; exact hi.1) (fun i hi hni => by
              have : mem pre i = true := by
                cases hm : mem pre i with
                | true => rfl
                | false => exact absurd (by simp [headIx, hi, hm]) hni
              exact inv.pre i this) inv hq
            have hlen : (headIx stop pre).length = stop - pre.length := by omega
            rw [← hlen]
            have hBw : Below E.w.heap.size { E.w with drawn := E.w.drawn + 1 } = Below E1.w.heap.size E1.w := by rw [hE1]
            rw [hBw, ← hE1]
            refine wpHT_of_QT (fun a2 w2 hC2 hL2 => ⟨s2, H, h.2, ?_⟩) _ _ _ _ (Below.refl _ _) hQT
            exact ⟨⟨E1.grow w2, rfl, hx1.trans (ext_grow hC2 hO1.flt), ok_grow hC2 hO1, hL2.1.ext (ext_grow hC2 hO1.flt)⟩, hL2.2.1, hL2.2.2, hl1⟩
          exact runDT_ok (Q := fun e a' w' => ∃ x s' H', e = x.ex ∧ κ x s' H' ∧ St E0 N0 nt s' H' a' w') hT hΓ hcall t1 t3 t4 (Nat.blt_eq.mp t2) (Tl := fun a' w' => ∃ s' H', runOps std tab Γ call nt ops.toList (4 * ops.toList.length + 9) [] (ops.toList.drop stop) s' H' (κ .normal) ∧ St E0 N0 nt s' H' a' w') (κ := fun s H => runOps std tab Γ call nt ops.toList (4 * ops.toList.length + 9) [] (ops.toList.drop stop) s H (κ .normal)) (fun s' H' a' w' h1 h2 => ⟨s', H', h1, h2⟩) (by rintro c a' w' ⟨x, s', H', hx, _⟩; cases x <;> cases hx) _ (preArr ops pre) [] s1 H a' { E.w with drawn := E.w.drawn + 1 } h
            hst' (fun _ _ hm => by cases hm) inv
      split at h
      case h_2 => exact h.elim
      rename_i hsel
      refine wp_region_held (S := Below w.heap.size { w with drawn := w.drawn + 1 }) hT.mixed ?_
      obtain ⟨⟨E, rfl, hx, hO, hs⟩, hn, hd, hl⟩ := k
      have hB : Below E.w.heap.size E.w { E.w with drawn := E.w.drawn + 1 } := ⟨rfl, rfl, rfl, Nat.le_refl _, fun _ _ => rfl⟩
      exact runD_ok (Q := fun e a' w' => ∃ x s' H', e = x.ex ∧ κ x s' H' ∧ St E0 N0 nt s' H' a' w') hT hΓ hcall hsel (κ := κ .normal) (fun s' H' a' w' h1 h2 => ⟨.normal, s', H', rfl, h1, h2⟩) (by rintro c a' w' ⟨x, s', H', hx, _⟩; cases x <;> cases hx) _ _ [] s H a _ h
        ⟨⟨E.grow { E.w with drawn := E.w.drawn + 1 }, rfl, hx.trans (ext_grow hB hO.flt), ok_grow hB hO, hs.ext (ext_grow hB hO.flt)⟩, hn, hd, hl⟩ (fun _ _ hm => by cases hm)
    rename_i s' sc hmem hr
    have hlex : Region.lexB .any ops = true := by simp only [lexAll, hmem, Bool.not_true, Bool.false_or, Bool.and_eq_true] at hlx; exact hlx.1
    obtain ⟨⟨E, rfl, hx, hO, hs⟩, hn, hd, hl⟩ := k
    refine wp_region_quiet (C := Below E.w.heap.size E.w) hT.mixed hlex ⟨rfl, rfl, rfl, Nat.le_refl _, fun _ _ => rfl⟩ ?_
    have hq := runG_ok (ops := ops) (Q := fun a' => SlotsOk E s' a' ∧ a'.tmps.size = nt ∧ a'.defers = []) hT hΓ hO (4 * ops.toList.length + 9) [] s ops.toList [] s' sc a hr h.1 hs hn (fun _ _ hm => by cases hm)
        (fun a' h1 h2 h3 _ => wpQuiet_nil ⟨h1, h2, h3.trans hd⟩)
    rw [List.append_nil] at hq
    have mono : ∀ (Q1 Q2 : Act → Prop), (∀ a', Q1 a' → Q2 a') → ∀ (l : List Oper) (a : Act), wpQuiet P ops (Below E.w.heap.size E.w) Q1 l a → wpQuiet P ops (Below E.w.heap.size E.w) Q2 l a := by
      intro Q1 Q2 hqq l
      induction l with
      | nil => intro a h; exact hqq a h
      | cons o l ih =>
        intro a h
        unfold wpQuiet at h ⊢
        split
        · rename_i hw; rw [if_pos hw] at h; exact Oper.quiet_mono (fun a' => ih a') h
        · rename_i hw; rw [if_neg hw] at h; exact ih _ h
    refine mono _ _ (fun a' hh w' hw' => ?_) _ _ hq
    exact ⟨.normal, s', H, rfl, h.2, ⟨⟨E.grow w', rfl, hx.trans (ext_grow hw' hO.flt), ok_grow hw' hO, hh.1.ext (ext_grow hw' hO.flt)⟩, hh.2.1, hh.2.2, hl⟩⟩
  | .seq x y, hlx, s, H, κ, a, w, h, k => by
    simp only [runC] at h
    split at h
    case h_2 =>
      obtain ⟨ι, S, hh, hsc, h1, h2⟩ := h
      refine wp_seq (wp_mono (runC_ok hT hΓ hcall hF x (by simp only [lexAll, Bool.and_eq_true] at hlx; exact hlx.1) s H _ a w h1 k) ?_)
      rintro e a' w' ⟨xt, s', H', rfl, hk, hst⟩
      cases xt with
      | normal =>
        obtain ⟨j, q1, q2⟩ := hk
        exact runC_ok hT hΓ hcall hF y (by simp only [lexAll, Bool.and_eq_true] at hlx; exact hlx.2) _ _ κ a' w' (h2 j) (le_st hF hst q1 q2 (hsc j).1 (hsc j).2.1 (hsc j).2.2)
      | exit id => exact ⟨.exit id, s', H', rfl, hk, hst⟩
      | ret => exact ⟨.ret, s', H', rfl, hk, hst⟩
    refine wp_seq (wp_mono (runC_ok hT hΓ hcall hF x (by simp only [lexAll, Bool.and_eq_true] at hlx; exact hlx.1) s H _ a w h k) ?_)
    rintro e a' w' ⟨xt, s', H', rfl, hk, hst⟩
    cases xt with
    | normal => exact runC_ok hT hΓ hcall hF y (by simp only [lexAll, Bool.and_eq_true] at hlx; exact hlx.2) s' H' κ a' w' hk hst
    | exit id => exact ⟨.exit id, s', H', rfl, hk, hst⟩
    | ret => exact ⟨.ret, s', H', rfl, hk, hst⟩
  | .block id c, hlx, s, H, κ, a, w, h, k => by
    simp only [runC] at h
    refine wp_block (wp_mono (runC_ok hT hΓ hcall hF c hlx s H _ a w h k) ?_)
    rintro e a' w' ⟨xt, s', H', rfl, hk, hst⟩
    cases xt with
    | normal => exact ⟨.normal, s', H', rfl, hk, hst⟩
    | exit j =>
      simp only at hk
      simp only [XT.ex, Exit.inBlock]
      split at hk
      · rename_i he
        rw [if_pos (Nat.eq_of_beq_eq_true he)]
        exact ⟨.normal, s', H', rfl, hk, hst⟩
      · rename_i he
        rw [if_neg (by intro e; rw [e, Nat.beq_refl] at he; cases he)]
        exact ⟨.exit j, s', H', rfl, hk, hst⟩
    | ret => exact ⟨.ret, s', H', rfl, hk, hst⟩
  | .cond c x y, hlx, s, H, κ, a, w, h, k => by
    simp only [runC] at h
    split at h
    case h_2 => exact h.elim
    rename_i b hb
    have hc : a.eval c = .bool b := by
      obtain ⟨E, rfl, hx, hO, hs⟩ := k.ex
      have := opd_ok hs c
      rw [hb] at this
      simpa only [rel] using this
    refine wp_cond_split hc (fun hbt => ?_) (fun hbf => ?_)
    · refine runC_ok (js := js) hT hΓ hcall hF x (by simp only [lexAll, Bool.and_eq_true] at hlx; exact hlx.1) s H κ a w ?_ k
      subst hbt
      split at h
      · exact h.1 rfl
      · exact h
    · refine runC_ok (js := js) hT hΓ hcall hF y (by simp only [lexAll, Bool.and_eq_true] at hlx; exact hlx.2) s H κ a w ?_ k
      subst hbf
      split at h
      · exact h.2 rfl
      · exact h
  | .loop c, hlx, s, H, κ, a, w, h, k => by
    simp only [runC, Loop] at h
    obtain ⟨ι, S, hh, μ, i0, hsc, h1, h2, hr⟩ := h
    refine wp_loop_ghost (fun n a w => ∃ i, μ i = n ∧ St E0 N0 nt (S i) (hh i) a w) (μ i0) ⟨i0, rfl, le_st hF k h1 h2 (hsc i0).1 (hsc i0).2.1 (hsc i0).2.2⟩ ?_
    rintro n a w ⟨i, rfl, hst⟩
    refine wp_mono (runC_ok hT hΓ hcall hF c hlx _ _ _ a w (hr i) hst) ?_
    rintro e a' w' ⟨xt, s', H', rfl, hk, hst'⟩
    cases xt with
    | normal =>
      obtain ⟨j, q1, q2, q3⟩ := hk
      exact ⟨μ j, q3, j, rfl, le_st hF hst' q1 q2 (hsc j).1 (hsc j).2.1 (hsc j).2.2⟩
    | exit id => exact ⟨.exit id, s', H', rfl, hk, hst'⟩
    | ret => exact ⟨.ret, s', H', rfl, hk, hst'⟩
  | .rangeFunc _ _ _ _, _, _, _, _, _, _, h, _ => by simp [runC] at h
  | .scope _, _, _, _, _, _, _, h, _ => by simp [runC] at h
  | .label _, _, _, _, _, _, _, h, _ => by simp [runC] at h
  | .goto _, _, _, _, _, _, _, h, _ => by simp [runC] at h
  | .refuse _, _, _, _, _, _, _, h, _ => by simp [runC] at h
theorem look_numb : ∀ (args : List SV) (i t : Nat), look (numb i args) t = if i ≤ t then (args[t - i]?).getD .any else .any
  | [], i, t => by simp [numb, look]
  | x :: xs, i, t => by
    simp only [numb, look]
    by_cases e : Nat.beq i t = true
    · have e' := Nat.eq_of_beq_eq_true e
      subst e'
      rw [if_pos e, if_pos (Nat.le_refl _), Nat.sub_self]; rfl
    · have hne : i ≠ t := by intro h; subst h; exact e (Nat.beq_refl i)
      rw [if_neg e, look_numb xs (i + 1) t]
      by_cases hlt : i + 1 ≤ t
      · rw [if_pos hlt, if_pos (by omega)]
        have : t - i = (t - (i + 1)) + 1 := by omega
        rw [this, List.getElem?_cons_succ]
      · rw [if_neg hlt, if_neg (by omega)]
theorem slots_args {E : Env} {args : List SV} {vals : List Value} (h : relL args E vals) (n : Nat) : SlotsOk E (numb 0 args) { tmps := vals.toArray ++ Array.replicate n undef, defers := [] } := by
  intro t
  rw [look_numb, if_pos (Nat.zero_le _), Nat.sub_zero]
  cases ha : args[t]? with
  | none => exact rel_any _ _
  | some x =>
    obtain ⟨u, hu, hr⟩ := relL_get h t x ha
    simp only [Option.getD_some]
    have hlt : t < vals.length := (List.getElem?_eq_some_iff.1 hu).1
    have : (vals.toArray ++ Array.replicate n undef).getD t undef = u := by
      rw [Array.getD_eq_getD_getElem?, Array.getElem?_append_left (by simpa using hlt)]
      simp [hu]
    rw [this]; exact hr

def resVal (tmps : Array Value) (r : ResultVar) : Sem Value :=
  match r with
  | .tmp t => pure (tmps.getD t undef)
  | .cell c t => do loadVar t (← asAddr (tmps.getD c undef))
theorem results_eq (fn : Func) (tmps : Array Value) : results fn tmps = (do let vs ← fn.results.mapM (resVal tmps); pure (if h : vs.size = 1 then vs[0] else .tuple vs)) := rfl
theorem res1_ok (hT : TabOk P tab) {E : Env} {H : Heap} (hO : Ok H E) {s : Slots} {a : Act} (hs : SlotsOk E s a) {r : ResultVar} {x : SV} (h : res1 tab s H r = some x) :
    ∃ u, rel x E u ∧ (resVal a.tmps r).run P E.w = .ok u E.w := by
  cases r with
  | tmp t =>
    simp only [res1, Option.some.injEq] at h
    subst h
    exact ⟨_, hs t, by simp [resVal]⟩
  | cell c t =>
    simp only [res1] at h
    unfold loadR at h
    split at h
    case h_2 => cases h
    rename_i ti i off hti hlk
    split at h
    case h_2 => cases h
    rename_i cs ty hi
    split at h
    case isFalse => cases h
    rename_i hle
    have hle' := Nat.le_of_ble_eq_true hle
    have hx := hs c
    rw [hlk] at hx
    simp only [rel] at hx
    obtain ⟨b, hb, hxe⟩ := hx
    obtain ⟨b', us, h1, h2, h3, h4⟩ := hO.blocks i _ hi
    rw [hb] at h1; cases h1
    have hlen := relL_length h4
    obtain ⟨k1, k2⟩ := load_of (E := E) (hT.ty t ti hti) (relL_sub h4 off ti.size) (by simp only [List.length_take, List.length_drop]; omega) h (hO.tlt b h2) (reads_cells h3)
    refine ⟨_, k1, ?_⟩
    have := k2 E.w (Below.refl _ _)
    simp only [Instr.loadAt, Instr.sureAddr, Sem.run_bind, Sem.run_pure, Result.andThen_ok] at this
    simp only [resVal, hxe, asAddr, Sem.run_bind, Sem.run_pure, Result.andThen_ok]
    exact this
theorem resOf_ok (hT : TabOk P tab) {E : Env} {H : Heap} (hO : Ok H E) {s : Slots} {a : Act} (hs : SlotsOk E s a) {fn : Func} {x : SV} (h : resOf tab s H fn.results.toList = some x) :
    ∃ u, rel x E u ∧ (results fn a.tmps).run P E.w = .ok u E.w := by
  unfold resOf at h
  have hr : ∀ l, fn.results.toList = l → fn.results = l.toArray := fun l hl => by rw [← hl]
  generalize hl : fn.results.toList = l at h
  have hfn := hr l hl
  match l with
  | [] =>
    simp only [resL, Option.some.injEq] at h
    subst h
    exact ⟨.tuple #[], by simp only [rel]; exact ⟨[], rfl, by simp [relL]⟩, by simp [results_eq, hfn]⟩
  | [a1] =>
    simp only [resL] at h
    cases h1 : res1 tab s H a1 with
    | none => rw [h1] at h; simp at h
    | some x1 =>
      rw [h1] at h; simp only [Option.some.injEq] at h; subst h
      obtain ⟨u1, k1, q1⟩ := res1_ok hT hO hs h1
      refine ⟨u1, k1, ?_⟩
      simp only [results_eq, hfn, List.mapM_toArray, List.mapM_cons, List.mapM_nil, Sem.run_bind, Sem.run_map, q1, Result.andThen_ok, Sem.run_pure]
      simp
  | [a1, a2] =>
    simp only [resL] at h
    cases h1 : res1 tab s H a1 with
    | none => rw [h1] at h; simp at h
    | some x1 =>
    cases h2 : res1 tab s H a2 with
    | none => rw [h1, h2] at h; simp at h
    | some x2 =>
      rw [h1, h2] at h; simp only [Option.some.injEq] at h; subst h
      obtain ⟨u1, k1, q1⟩ := res1_ok hT hO hs h1
      obtain ⟨u2, k2, q2⟩ := res1_ok hT hO hs h2
      refine ⟨.tuple #[u1, u2], by simp only [rel]; exact ⟨[u1, u2], rfl, relL_cons k1 (relL_cons k2 (relL_nil E))⟩, ?_⟩
      simp only [results_eq, hfn, List.mapM_toArray, List.mapM_cons, List.mapM_nil, Sem.run_bind, Sem.run_map, q1, q2, Result.andThen_ok, Sem.run_pure]
      simp
  | [a1, a2, a3] =>
    simp only [resL] at h
    cases h1 : res1 tab s H a1 with
    | none => rw [h1] at h; simp at h
    | some x1 =>
    cases h2 : res1 tab s H a2 with
    | none => rw [h1, h2] at h; simp at h
    | some x2 =>
    cases h3 : res1 tab s H a3 with
    | none => rw [h1, h2, h3] at h; simp at h
    | some x3 =>
      rw [h1, h2, h3] at h; simp only [Option.some.injEq] at h; subst h
      obtain ⟨u1, k1, q1⟩ := res1_ok hT hO hs h1
      obtain ⟨u2, k2, q2⟩ := res1_ok hT hO hs h2
      obtain ⟨u3, k3, q3⟩ := res1_ok hT hO hs h3
      refine ⟨.tuple #[u1, u2, u3], by simp only [rel]; exact ⟨[u1, u2, u3], rfl, relL_cons k1 (relL_cons k2 (relL_cons k3 (relL_nil E)))⟩, ?_⟩
      simp only [results_eq, hfn, List.mapM_toArray, List.mapM_cons, List.mapM_nil, Sem.run_bind, Sem.run_map, q1, q2, q3, Result.andThen_ok, Sem.run_pure]
      simp
  | [a1, a2, a3, a4] =>
    simp only [resL] at h
    cases h1 : res1 tab s H a1 with
    | none => rw [h1] at h; simp at h
    | some x1 =>
    cases h2 : res1 tab s H a2 with
    | none => rw [h1, h2] at h; simp at h
    | some x2 =>
    cases h3 : res1 tab s H a3 with
    | none => rw [h1, h2, h3] at h; simp at h
    | some x3 =>
    cases h4 : res1 tab s H a4 with
    | none => rw [h1, h2, h3, h4] at h; simp at h
    | some x4 =>
      rw [h1, h2, h3, h4] at h; simp only [Option.some.injEq] at h; subst h
      obtain ⟨u1, k1, q1⟩ := res1_ok hT hO hs h1
      obtain ⟨u2, k2, q2⟩ := res1_ok hT hO hs h2
      obtain ⟨u3, k3, q3⟩ := res1_ok hT hO hs h3
      obtain ⟨u4, k4, q4⟩ := res1_ok hT hO hs h4
      refine ⟨.tuple #[u1, u2, u3, u4], by simp only [rel]; exact ⟨[u1, u2, u3, u4], rfl, relL_cons k1 (relL_cons k2 (relL_cons k3 (relL_cons k4 (relL_nil E))))⟩, ?_⟩
      simp only [results_eq, hfn, List.mapM_toArray, List.mapM_cons, List.mapM_nil, Sem.run_bind, Sem.run_map, q1, q2, q3, q4, Result.andThen_ok, Sem.run_pure]
      simp
  | a1 :: a2 :: a3 :: a4 :: a5 :: l =>
    exfalso
    simp only [resL] at h
    cases h1 : res1 tab s H a1 <;> cases h2 : res1 tab s H a2 <;> cases h3 : res1 tab s H a3 <;> cases h4 : res1 tab s H a4 <;> cases h5 : res1 tab s H a5 <;> cases h6 : resL tab s H l <;>
      rw [h1, h2, h3, h4, h5, h6] at h <;> simp at h

theorem fresh_of {H : Heap} {E : Env} (hO : Ok H E) : Fresh E H.length := hO.fresh

/-- THE FUNCTION. -/
theorem runBody_ok (hT : TabOk P tab) {Γ : Known} (hΓ : KnownOk P Γ) {call : CallH} (hcall : CallOk P call) {js : Cf} {f : FuncId} {fn : Func} (hf : P.funcs[f]? = some fn) (hlx : ∀ c, fn.body = some c → lexAll js.lx js.tl c = true) {args : List SV} {H : Heap} {κ : SV → Heap → Prop}
    (h : runBody std tab Γ call js fn args H κ) {E : Env} {vals : List Value} (hO : Ok H E) (hr : relL args E vals) : CallsTo P f args H κ E vals := by
  unfold runBody at h
  split at h
  case h_2 => exact h.elim
  rename_i c hc
  split at h
  case isFalse => exact h.elim
  rename_i hle
  have hle' := Nat.le_of_ble_eq_true hle
  have hlen := relL_length hr
  refine calls_of_wp hf hc ?_
  have hst : St E H.length fn.ntmps (numb 0 args) H { tmps := vals.toArray ++ Array.replicate (fn.ntmps - vals.toArray.size) undef, defers := [] } E.w :=
    ⟨⟨E, rfl, Ext.refl E, hO, slots_args hr _⟩, by simp; omega, rfl, Nat.le_refl _⟩
  refine wp_mono (runC_ok hT hΓ hcall (fresh_of hO) c (hlx c ‹_›) _ _ _ _ _ h hst) ?_
  rintro e a' w' ⟨x, s', H', rfl, hk, hst'⟩
  have fin : ∀ r, resOf tab s' H' fn.results.toList = some r → (match scope H.length r && scopeH H.length (H'.take H.length) with | true => κ r (H'.take H.length) | false => κ r H') →
      a'.defers = [] ∧ ∃ v, (results fn a'.tmps).run P w' = .ok v w' ∧ ∃ u E' r H', (Ending.returned v) = .returned u ∧ E'.w = w' ∧ Ext E E' ∧ Ok H' E' ∧ H.length ≤ H'.length ∧ rel r E' u ∧ κ r H' := by
    intro r hres hκ
    obtain ⟨⟨E', rfl, hx, hO', hs'⟩, hn, hd, hl⟩ := hst'
    obtain ⟨u, hu, hrun⟩ := resOf_ok hT hO' hs' hres
    refine ⟨hd, u, hrun, ?_⟩
    split at hκ
    · rename_i hb
      simp only [Bool.and_eq_true] at hb
      have htl : (H'.take H.length).length = H.length := by rw [List.length_take]; omega
      have hleH : ∀ (n : Nat) (H : Heap), leH H (H.take n) := by
        intro n
        induction n with
        | zero => intro H; simp [leH]
        | succ n ih => intro H; cases H with
          | nil => simp [leH]
          | cons x H =>
            simp only [List.take_succ_cons, leH]
            refine ⟨?_, ih H⟩
            cases x <;> simp [leB]
      have hb2 : scopeH (H'.take H.length).length (H'.take H.length) = true := by rw [htl]; exact hb.2
      have hO2 := le_heap hO' (hleH H.length H') hb2
      rw [htl] at hO2
      exact ⟨u, E'.cut H.length, r, H'.take H.length, rfl, rfl, ext_cut (fresh_of hO) (Nat.le_refl _) hx, hO2, Nat.le_of_eq htl.symm, rel_cut _ _ _ hb.1 hu, hκ⟩
    · exact ⟨u, E', r, H', rfl, rfl, hx, hO', hl, hu, hκ⟩
  cases x with
  | exit id => exact hk.elim
  | normal =>
    simp only at hk
    split at hk
    case h_2 => exact hk.elim
    rename_i r hres
    exact fin r hres hk
  | ret =>
    simp only at hk
    split at hk
    case h_2 => exact hk.elim
    rename_i r hres
    exact fin r hres hk

structure ContractsOk (P : Program) (Δ : Contracts) : Prop where
  ok : ∀ f m, Δ f = some m → CallOk P fun g args H κ => g = f ∧ m args H κ

theorem runF_ok (hT : TabOk P tab) {Γ : Known} (hΓ : KnownOk P Γ) {Δ : Contracts} (hΔ : ContractsOk P Δ) : ∀ n, CallOk P (runF std tab Γ Δ n)
  | 0 => fun _ _ _ _ h => by simp [runF] at h
  | n + 1 => by
    intro f args H κ h
    unfold runF at h
    split at h
    · rename_i m hm
      exact hΔ.ok f m hm f args H κ ⟨rfl, h⟩
    · split at h
      case h_2 => exact h.elim
      rename_i fn hfn
      obtain ⟨h1, h2⟩ := hT.fn f fn hfn
      refine ⟨⟨fn, h1, h2, ?_⟩, fun E vals hO hr => runBody_ok hT hΓ (runF_ok hT hΓ hΔ n) h1 (fun c hc => by
        exact hT.lexs f fn c hfn hc) h hO hr⟩
      unfold runBody at h
      split at h
      · rename_i c hc; rw [hc]; rfl
      · exact h.elim
end Go.Sx
