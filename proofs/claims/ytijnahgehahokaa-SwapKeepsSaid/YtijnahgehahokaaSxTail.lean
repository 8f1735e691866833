/- Regions that draw the order of all but their last operations. -/
import Derived.Test.YtijnahgehahokaaSxDraw
import Derived.StillTail
set_option linter.unusedVariables false
set_option linter.unusedSimpArgs false
namespace Go.Sx
open Go.RowKit
variable {P : Program} {tab : Tab}
section
variable {ops : Array Oper} {Q : Exit → Act → World → Prop} {md : Region.Mode} {S : World → Prop} {Tl : Act → World → Prop} {stop : Nat}
structure Inv (md : Region.Mode) (ops : Array Oper) (stop : Nat) (pre : List Nat) (listed : Array Bool) : Prop where
  head : HeadInv md ops stop listed
  pre : ∀ i, mem pre i = true → listed.getD i false = true
theorem Inv.set {pre : List Nat} {i : Nat} {listed : Array Bool} (inv : Inv md ops stop pre listed) (hi : i ∈ Region.ready md ops listed) (hin : i < stop) : Inv md ops stop pre (listed.setIfInBounds i true) :=
  ⟨inv.head.set hi hin, fun k hk => getD_set_true (inv.pre k hk)⟩
theorem waits_tail {pre : List Nat} {n : Nat} {listed : Array Bool} (hs : sinkP ops n pre = true) (hc : Region.chainB .any ops n = true) (hn : n < ops.size) (inv : Inv .any ops n pre listed) :
    ∀ (d i : Nat), n - i = d → i < n → listed.getD i true = false → ∀ t, n ≤ t → t ∉ Region.ready .any ops listed := by
  intro d
  induction d using Nat.strongRecOn with
  | _ d ih =>
    intro i hd hi hun t ht hr
    obtain ⟨_, ot, hot, hall⟩ := mem_ready.1 hr
    have htlt : t < ops.size := (Array.getElem?_eq_some_iff.1 hot).1
    by_cases htn : t = n
    · subst htn
      have h1 := List.all_eq_true.1 hs i (List.mem_range.2 hi)
      rw [Bool.or_eq_true] at h1
      rcases h1 with h1 | h1
      · have := inv.pre i h1
        rw [getD_both hun] at this; cases this
      obtain ⟨j, hj, hj2⟩ := List.any_eq_true.1 h1
      simp only [Bool.and_eq_true, decide_eq_true_eq] at hj2
      obtain ⟨oj, hoj, e, he, hb, hon⟩ := Region.waitsFor_spec hj2.2
      have hjle : j ≤ t := by have := List.mem_range.1 hj; omega
      by_cases hjt : j = t
      · subst hjt
        have : oj = ot := Option.some.inj (hoj.symm.trans hot)
        subst this
        have h2 := hall e he hb
        rw [hon, getD_both hun] at h2
        cases h2
      · cases hl : listed.getD j false with
        | true =>
          have h2 := inv.head.closed j oj hoj hl e he hb
          rw [hon, getD_both hun] at h2
          cases h2
        | false => exact ih (t - j) (by omega) j rfl (by omega) (getD_in (by rw [inv.head.size]; omega) hl) t (Nat.le_refl _) hr
    · have h1 := List.all_eq_true.1 hc t (List.mem_range.2 htlt)
      simp only [Bool.or_eq_true, decide_eq_true_eq] at h1
      rcases h1 with h1 | h1
      · omega
      · obtain ⟨o', ho', e, he, hb, hon⟩ := Region.waitsFor_spec h1
        have : o' = ot := Option.some.inj (ho'.symm.trans hot)
        subst this
        have h2 := hall e he hb
        rw [hon, getD_both (inv.head.tail (t - 1) (by omega) (by omega))] at h2
        cases h2
def AllHead (stop : Nat) (listed : Array Bool) : Prop := ∀ i, i < stop → listed.getD i false = true
theorem headDone_all {listed : Array Bool} (h : headDone stop listed = true) : AllHead stop listed := fun i hi => by
  simp only [headDone, List.all_eq_true] at h
  exact h i (List.mem_range.2 hi)
theorem all_headDone {listed : Array Bool} (h : AllHead stop listed) : headDone stop listed = true := by
  simp only [headDone, List.all_eq_true]
  exact fun i hi => h i (List.mem_range.1 hi)
theorem head_lt {pre : List Nat} (hsk : sinkP ops stop pre = true) (hch : Region.chainB .any ops stop = true) (hst : stop < ops.size) {listed : Array Bool} (inv : Inv .any ops stop pre listed) (hn : ¬ AllHead stop listed) : ∀ i, i ∈ Region.ready .any ops listed → i < stop := by
  intro i hi
  rcases Nat.lt_or_ge i stop with h | h
  · exact h
  · exfalso
    apply hn
    intro k hk
    cases hl : listed.getD k false with
    | true => rfl
    | false => exact absurd hi (waits_tail hsk hch hst inv _ k rfl hk (getD_in (by rw [inv.head.size]; omega) hl) i h)
/-- Whatever order is picked till the last operations are left. -/
def wpHT (P : Program) (md : Region.Mode) (ops : Array Oper) (Q : Exit → Act → World → Prop) (Tl : Act → World → Prop) (stop : Nat) (S : World → Prop) : Nat → Array Bool → Act → World → Prop
  | 0, listed, a, w => AllHead stop listed ∧ Tl a w
  | f + 1, listed, a, w => (AllHead stop listed → Tl a w) ∧ (¬ AllHead stop listed → Region.ready md ops listed ≠ [] ∧ ∀ i ∈ Region.ready md ops listed, wpOp P ops Q i (fun a' w' => S w' ∧ wpHT P md ops Q Tl stop S f (listed.setIfInBounds i true) a' w') a w)
theorem wpHT_mono {S S' : World → Prop} (hS : ∀ w, S' w → S w) : ∀ (n : Nat) (l : Array Bool) (a : Act) (w : World), wpHT P md ops Q Tl stop S' n l a w → wpHT P md ops Q Tl stop S n l a w
  | 0, _, _, _, h => h
  | n + 1, l, a, w, h => ⟨h.1, fun hn => ⟨(h.2 hn).1, fun i hi => wpOp_mono (fun a' w' h' => ⟨hS _ h'.1, wpHT_mono hS n _ a' w' h'.2⟩) ((h.2 hn).2 i hi)⟩⟩
theorem wpHT_take {pre : List Nat} {i : Nat} {oi : Oper} {v : Value} (hi : ops[i]? = some oi) (hsel : Region.noSelect ops = true) : ∀ {fuel : Nat} {listed : Array Bool} {a : Act} {w : World}, Region.free .any ops listed i = true →
    i ∈ Region.ready .any ops listed → (∀ c a w, Q (.panic c) (a.put oi.dst v) w → Q (.panic c) a w) → YieldsIf P ops S oi v a → S w →
    sinkP ops stop pre = true → Region.chainB .any ops stop = true → stop < ops.size → Inv .any ops stop pre listed → i < stop →
    wpHT P .any ops Q Tl stop S fuel (listed.setIfInBounds i true) (a.put oi.dst v) w → wpHT P .any ops Q Tl stop S (fuel + 1) listed a w := by
  intro fuel listed a w hf hr hQ hy hS hsk hch hst inv hin H
  have main : ∀ (fuel : Nat) (listed : Array Bool) (a : Act) (w : World),
      (∀ j oj, ops[j]? = some oj → j ≠ i → listed.getD j true = false → (∀ e ∈ oj.after, Region.binds .any e = true → e.on ≠ i) → oi.apart ops oj = true) →
      i ∈ Region.ready .any ops listed → YieldsIf P ops S oi v a → S w → Inv .any ops stop pre listed →
      wpHT P .any ops Q Tl stop S fuel (listed.setIfInBounds i true) (a.put oi.dst v) w → wpHT P .any ops Q Tl stop S (fuel + 1) listed a w := by
    intro fuel
    induction fuel with
    | zero =>
      intro listed a w _ hr hy hS inv H
      have hun := (mem_ready.1 hr).1
      have hnall : ¬ AllHead stop listed := fun h => by have := h i hin; rw [getD_both hun] at this; cases this
      have hlt := head_lt hsk hch hst inv hnall
      refine ⟨fun h => absurd h hnall, fun _ => ⟨fun h => (by rw [h] at hr; cases hr), fun j hj => ?_⟩⟩
      by_cases hji : j = i
      · subst hji; exact hy.wpOp hi hS ⟨hS, H⟩
      · have h1 := H.1 j (hlt j hj)
        rw [getD_set_ne false (Ne.symm hji), getD_both (mem_ready.1 hj).1] at h1
        cases h1
    | succ fuel ih =>
      intro listed a w hfree hr hy hS inv H
      have hun := (mem_ready.1 hr).1
      have hnall : ¬ AllHead stop listed := fun h => by have := h i hin; rw [getD_both hun] at this; cases this
      have hlt := head_lt hsk hch hst inv hnall
      refine ⟨fun h => absurd h hnall, fun _ => ⟨fun h => (by rw [h] at hr; cases hr), fun j hj => ?_⟩⟩
      by_cases hji : j = i
      · subst hji; exact hy.wpOp hi hS ⟨hS, H⟩
      · have hnall2 : ¬ AllHead stop (listed.setIfInBounds i true) := fun h => by
          have h1 := h j (hlt j hj)
          rw [getD_set_ne false (Ne.symm hji), getD_both (mem_ready.1 hj).1] at h1
          cases h1
        have h1 := (H.2 hnall2).2 j (ready_mono hj hji)
        obtain ⟨hjun, oj, hoj, hall⟩ := mem_ready.1 hj
        have hnot : ∀ e ∈ oj.after, Region.binds .any e = true → e.on ≠ i := fun e he hb heq => by
          have h1 := hall e he hb
          rw [heq, getD_both hun] at h1
          cases h1
        have h2 := wpOp_putIf hoj (hfree j oj hoj hji hjun hnot) (fun cs b => Region.noSelect_spec hsel i oi cs b hi) (fun cs b => Region.noSelect_spec hsel j oj cs b hoj) hQ hy h1
        have hfree' : ∀ k ok, ops[k]? = some ok → k ≠ i → (listed.setIfInBounds j true).getD k true = false →
            (∀ e ∈ ok.after, Region.binds .any e = true → e.on ≠ i) → oi.apart ops ok = true := fun k ok hk hki hun hno => by
          refine hfree k ok hk hki ?_ hno
          by_cases hjk : j = k
          · subst hjk; exact hjun
          · rw [getD_set_ne true hjk] at hun; exact hun
        refine wpOp_mono (fun a' w' h3 => ⟨h3.2.1, ih (listed.setIfInBounds j true) a' w' hfree' (ready_mono hr (Ne.symm hji)) h3.1 h3.2.1 (inv.set hj (hlt j hj)) ?_⟩) h2
        rw [Array.setIfInBounds_comm _ _ hji]
        exact h3.2.2
  exact main fuel listed a w (Region.free_spec hi hf) hr hy hS inv H
theorem wpAny_more : ∀ (n : Nat) (listed : Array Bool) (a : Act) (w : World), wpAny P .any ops Q n listed a w → wpAny P .any ops Q (n + 1) listed a w
  | 0, _, _, _, h => ⟨fun _ => h.2, fun i hi => (by rw [h.1] at hi; cases hi)⟩
  | n + 1, _, _, _, h => ⟨h.1, fun i hi => wpOp_mono (fun a' w' h' => wpAny_more n _ a' w' h') (h.2 i hi)⟩
theorem wpAny_more' (k : Nat) {n : Nat} {listed : Array Bool} {a : Act} {w : World} (h : wpAny P .any ops Q n listed a w) : wpAny P .any ops Q (k + n) listed a w := by
  induction k with
  | zero => rwa [Nat.zero_add]
  | succ k ih => rw [show k + 1 + n = (k + n) + 1 by omega]; exact wpAny_more _ _ _ _ ih
theorem listed_eq {pre : List Nat} {listed : Array Bool} (inv : Inv .any ops stop pre listed) (h : AllHead stop listed) (hst : stop < ops.size) : listed = headArr stop ops.size := by
  apply Array.ext
  · simp [headArr, inv.head.size]
  · intro i h1 h2
    have hi : i < ops.size := by rw [← inv.head.size]; exact h1
    have e : (headArr stop ops.size)[i] = Nat.blt i stop := by simp [headArr]
    rw [e]
    by_cases hlt : i < stop
    · have := h i hlt
      rw [Nat.blt_eq.mpr hlt]
      simpa [h1] using this
    · have hb : Nat.blt i stop = false := by cases hq : Nat.blt i stop with | false => rfl | true => exact absurd (Nat.blt_eq.mp hq) hlt
      rw [hb]
      have := inv.head.tail i (by omega) hi
      simpa [h1] using this
theorem wpAny_of_HT {pre : List Nat} (hsk : sinkP ops stop pre = true) (hch : Region.chainB .any ops stop = true) (hst : stop < ops.size) (hseq : Region.seqB .any ops (ops.size - stop) stop (headArr stop ops.size) = true)
    (hTl : ∀ a w, Tl a w → wpList P ops Q (ops.toList.drop stop) a w) : ∀ (n : Nat) (listed : Array Bool) (a : Act) (w : World), Inv .any ops stop pre listed → wpHT P .any ops Q Tl stop S n listed a w → wpAny P .any ops Q (n + (ops.size - stop)) listed a w := by
  have tail : ∀ (listed : Array Bool) (a : Act) (w : World), Inv .any ops stop pre listed → AllHead stop listed → Tl a w → wpAny P .any ops Q (ops.size - stop) listed a w := by
    intro listed a w inv hall ht
    have hl : (ops.toList.drop stop).length = ops.size - stop := by simp
    have := wpAny_of_seq (md := .any) (Q' := Q) (ops := ops) (ops.toList.drop stop) stop listed a w (fun j => by rw [List.getElem?_drop, Array.getElem?_toList]) (by rw [hl, listed_eq inv hall hst]; exact hseq) (hTl a w ht)
    rwa [hl] at this
  intro n
  induction n with
  | zero => intro listed a w inv h; rw [Nat.zero_add]; exact tail listed a w inv h.1 h.2
  | succ n ih =>
    intro listed a w inv h
    by_cases hall : AllHead stop listed
    · exact wpAny_more' (n + 1) (tail listed a w inv hall (h.1 hall))
    · rw [show n + 1 + (ops.size - stop) = (n + (ops.size - stop)) + 1 by omega]
      obtain ⟨hne, h2⟩ := h.2 hall
      exact ⟨fun h0 => absurd h0 hne, fun i hi => wpOp_mono (fun a' w' h' => ih _ a' w' (inv.set hi (head_lt hsk hch hst inv hall i hi)) h'.2) (h2 i hi)⟩
theorem runDT_ok {pre : List Nat} (hT : TabOk P tab) {Γ : Known} (hΓ : KnownOk P Γ) {call : CallH} (hcall : CallOk P call) {E0 : Env} {N0 nt : Nat} {κ : Slots → Heap → Prop} (hsel : Region.noSelect ops = true) (hsk : sinkP ops stop pre = true) (hch : Region.chainB .any ops stop = true) (hstp : stop < ops.size)
    (hQ : ∀ s H a w, κ s H → St E0 N0 nt s H a w → Tl a w) (hQp : ∀ c a w, ¬ Q (.panic c) a w) : ∀ (n : Nat) (listed : Array Bool) (known : List (Nat × Option Bool)) (s : Slots) (H : Heap) (a : Act) (w : World),
    runDT std tab stop Γ call nt ops ops.toList n listed known s H κ → St E0 N0 nt s H a w → KnownD ops known a → Inv .any ops stop pre listed → wpHT P .any ops Q Tl stop (Below w.heap.size w) n listed a w
  | 0, listed, known, s, H, a, w, h, hst, hkn, inv => by
    unfold runDT at h
    split at h
    · rename_i hr
      exact ⟨headDone_all hr, hQ _ _ _ _ h hst⟩
    · exact h.elim
  | n + 1, listed, known, s, H, a, w, h, hst, hkn, inv => by
    unfold runDT at h
    split at h
    · rename_i hr
      exact ⟨fun _ => hQ _ _ _ _ h hst, fun hn => absurd (headDone_all hr) hn⟩
    rename_i hnd
    have hnall : ¬ AllHead stop listed := fun hall => by rw [all_headDone hall] at hnd; cases hnd
    have hlt : ∀ i, i ∈ Region.ready .any ops listed → i < stop := head_lt hsk hch hstp inv hnall
    split at h
    · exact h.elim
    · rename_i rs hne
      split at h
      · rename_i i hfi
        obtain ⟨hmem, hct⟩ := firstD_ok hfi
        split at h
        case h_2 => exact h.elim
        rename_i o ho
        have ho' : ops[i]? = some o := by rw [← Array.getElem?_toList]; exact ho
        unfold canTake at hct
        rw [ho] at hct
        simp only at hct
        have hready : (Region.ready .any ops listed).contains i = true := by simpa using hmem
        split at h
        · rename_i hg
          have hwn := wanted_D hkn hg
          rw [hg] at hct
          cases hdf : (dstOk nt o.dst && freeD ops.toList known o.dst) with
          | false => rw [hdf] at hct; cases hct
          | true =>
          rw [hdf] at hct
          simp only [Bool.and_eq_true] at hdf
          have hmem' : i ∈ Region.ready .any ops listed := hmem
          refine wpHT_take (v := undef) ho' hsel hct hmem' (fun c a w hq => absurd hq (hQp _ _ _)) (.inr ⟨hwn, rfl⟩) (Below.refl _ _) hsk hch hstp inv (hlt i hmem') ?_
          obtain ⟨⟨E, rfl, hx, hO, hs⟩, hn, hdfs, hl⟩ := hst
          refine runDT_ok hT hΓ hcall hsel hsk hch hstp hQ hQp n _ _ _ H _ _ h ⟨⟨E, rfl, hx, hO, hs.put (rel_any _ _) hn hdf.1⟩, (put_size _ _ _).trans hn, (put_defers _ _ _).trans hdfs, hl⟩ ?_ (inv.set hmem' (hlt i hmem'))
          intro j v hm
          cases hm with
          | head =>
            unfold yielded
            rw [ho']
            cases hd : o.dst with
            | none => simp [hd]
            | some d =>
              simp only [Option.bind_some, hd, Act.put]
              rw [Array.getElem?_setIfInBounds, if_pos rfl]
              split
              · rename_i heq
                split at heq <;> simp [undef] at heq
              · rfl
          | tail _ hm => exact hkn.put hdf.2 _ j v hm
        · rename_i hnf
          split at h
          case h_2 => exact h.elim
          rename_i r sc he
          cases hdf : (dstOk nt o.dst && freeD ops.toList known o.dst) with
          | false => rw [hdf] at hct; cases hct
          | true =>
          rw [hdf] at hct
          simp only [Bool.and_eq_true] at hdf
          cases hg : guardD known o.guard with
          | none => rw [hg] at hct; cases hct
          | some b =>
          cases b with
          | false => exact absurd hg hnf
          | true =>
          rw [hg] at hct
          have hwn := wanted_D hkn hg
          simp only at hct
          cases hvc : isVC o.op with
          | true => rw [hvc] at hct; cases hct
          | false =>
          rw [hvc, he] at hct
          simp only at hct
          obtain ⟨⟨E, rfl, hx, hO, hs⟩, hn, hdfs, hl⟩ := hst
          obtain ⟨u, h1, h2⟩ := evalD_ok hT hΓ hO hs hkn hvc he h.1
          have hmem' : i ∈ Region.ready .any ops listed := hmem
          refine wpHT_take (v := u) ho' hsel hct hmem' (fun c a w hq => absurd hq (hQp _ _ _)) (.inl ⟨hwn, h2⟩) (Below.refl _ _) hsk hch hstp inv (hlt i hmem') ?_
          have hst1 : St E N0 nt s H a E.w := ⟨⟨E, rfl, Ext.refl E, hO, hs⟩, hn, hdfs, hl⟩
          refine contD_ok (G := fun a' w' => wpHT P .any ops Q Tl stop (Below w'.heap.size w') n (listed.setIfInBounds i true) a' w') (E0 := E) ho' h.2 hst1 hkn hdf.1 hdf.2 (fun E' hw' hO' hs' hx' => rel_ext r hx' u h1) (fun known' s' hgo hst' hk' => ?_)
          obtain ⟨⟨E', hw', hx', hO', hs'⟩, hn', hdf', hl'⟩ := hst'
          exact runDT_ok hT hΓ hcall hsel hsk hch hstp hQ hQp n _ known' s' H _ _ hgo ⟨⟨E', hw', hx.trans hx', hO', hs'⟩, hn', hdf', hl'⟩ hk' (inv.set hmem' (hlt i hmem'))
      · rename_i hnone
        refine ⟨fun hall => absurd hall hnall, fun _ => ⟨hne, fun i hi => ?_⟩⟩
        have inv' : Inv .any ops stop pre (listed.setIfInBounds i true) := inv.set hi (hlt i hi)
        have hp := allD_ok h i hi
        split at hp
        case h_2 => exact hp.elim
        rename_i o ho
        have ho' : ops[i]? = some o := by rw [← Array.getElem?_toList]; exact ho
        unfold wpOp
        rw [ho']
        simp only
        split at hp
        · rename_i hdf hg
          simp only [Bool.and_eq_true] at hdf
          rw [if_pos (wanted_D hkn hg)]
          left
          obtain ⟨⟨E, rfl, hx, hO, hs⟩, hn, hdfs, hl⟩ := hst
          refine effD_ok hT hΓ hcall hO hs hp (fun E' r H' u hκ hx' hO' hlen hr hB => ?_)
          refine ⟨hB, wpHT_mono (S' := Below E'.w.heap.size E'.w) (fun w2 h2 => hB.trans (h2.mono hB.size)) _ _ _ _ ?_⟩
          have hst1 : St E' N0 nt s H' a E'.w := ⟨⟨E', rfl, Ext.refl E', hO', hs.ext hx'⟩, hn, hdfs, Nat.le_trans hl hlen⟩
          refine contD_ok (G := fun a' w' => wpHT P .any ops Q Tl stop (Below w'.heap.size w') n (listed.setIfInBounds i true) a' w') (E0 := E') ho' hκ hst1 hkn hdf.1 hdf.2 (fun E2 hw2 hO2 hs2 hx2 => rel_ext r hx2 u hr) (fun known' s' hgo hst' hk' => ?_)
          obtain ⟨⟨E2, hw2, hx2, hO2, hs2⟩, hn2, hdf2, hl2⟩ := hst'
          exact runDT_ok hT hΓ hcall hsel hsk hch hstp hQ hQp n _ known' s' H' _ _ hgo ⟨⟨E2, hw2, (hx.trans hx').trans hx2, hO2, hs2⟩, hn2, hdf2, hl2⟩ hk' inv'
        · rename_i hdf hg
          simp only [Bool.and_eq_true] at hdf
          rw [wanted_D hkn hg]
          simp only [Bool.false_eq_true, if_false]
          obtain ⟨⟨E, rfl, hx, hO, hs⟩, hn, hdfs, hl⟩ := hst
          refine ⟨Below.refl _ _, runDT_ok hT hΓ hcall hsel hsk hch hstp hQ hQp n _ _ _ H _ _ hp ⟨⟨E, rfl, hx, hO, hs.put (rel_any _ _) hn hdf.1⟩, (put_size _ _ _).trans hn, (put_defers _ _ _).trans hdfs, hl⟩ ?_ inv'⟩
          intro j v hm
          cases hm with
          | head =>
            unfold yielded
            rw [ho']
            cases hd : o.dst with
            | none => simp [hd]
            | some d =>
              simp only [Option.bind_some, hd, Act.put]
              rw [Array.getElem?_setIfInBounds, if_pos rfl]
              split
              · rename_i heq
                split at heq <;> simp [undef] at heq
              · rfl
          | tail _ hm => exact hkn.put hdf.2 _ j v hm
        · exact hp.elim


/-- Copies ahead of all. -/
theorem runPre_ok {E0 : Env} {N0 nt : Nat} (hsel : Region.noSelect ops = true) (hstop : stop < ops.size) (hQp : ∀ c a w, ¬ Q (.panic c) a w) : ∀ (pre : List Nat) (done : List Nat) (s : Slots) (listed : Array Bool) (s' : Slots) (a : Act) (w : World) (H : Heap) (n : Nat),
    runPre nt ops.toList pre s = some s' → lexHeadP ops pre listed = true → (∀ i ∈ pre, i < stop) → St E0 N0 nt s H a w → HeadInv .any ops stop listed → (∀ i, i ∈ done → listed.getD i false = true) →
    (∀ a', St E0 N0 nt s' H a' w → HeadInv .any ops stop (pre.foldl (fun l i => l.setIfInBounds i true) listed) → (∀ i, i ∈ done ++ pre → (pre.foldl (fun l i => l.setIfInBounds i true) listed).getD i false = true) → wpAny P .any ops Q n (pre.foldl (fun l i => l.setIfInBounds i true) listed) a' w) → wpAny P .any ops Q (pre.length + n) listed a w
  | [], done, s, listed, s', a, w, H, n, h, _, _, hst, inv, hd, k => by
    simp only [runPre, Option.some.injEq] at h
    subst h
    rw [List.length_nil, Nat.zero_add]
    exact k a hst inv (fun i hi => hd i (by simpa using hi))
  | i :: pre, done, s, listed, s', a, w, H, n, h, hB, hlt, hst, inv, hd, k => by
    unfold runPre at h
    split at h
    case h_2 => cases h
    rename_i d x _ _ _ ho
    split at h
    case h_2 => cases h
    rename_i hc1
    simp only [lexHeadP, Bool.and_eq_true] at hB
    obtain ⟨⟨hc3, hc2⟩, hB'⟩ := hB
    rw [Array.getElem?_toList] at ho
    have ho' := ho
    have hmem : i ∈ Region.ready .any ops listed := by simpa using hc3
    rw [show (i :: pre).length + n = (pre.length + n) + 1 by simp; omega]
    refine wpAny_take (v := a.eval x) ho' hsel hc2 hc3 (fun c a w hq => absurd hq (hQp _ _ _)) (.inl ⟨rfl, fun w => by simp [execOp]⟩) ?_
    obtain ⟨⟨E, rfl, hx, hO, hs⟩, hn, hdf, hl⟩ := hst
    refine runPre_ok hsel hstop hQp pre (done ++ [i]) _ _ s' _ _ H n h hB' (fun j hj => hlt j (by simp [hj])) ⟨⟨E, rfl, hx, hO, hs.put (d := some d) (opd_ok hs x) hn (by simpa [dstOk] using hc1)⟩, (put_size _ _ _).trans hn, (put_defers _ _ _).trans hdf, hl⟩ (inv.set hmem (hlt i (by simp))) (fun j hj => ?_) (fun a' h1 h2 h3 => k a' h1 h2 (fun j hj => h3 j (by simpa using hj)))
    rcases List.mem_append.1 hj with hj | hj
    · exact getD_set_true (hd j hj)
    · have : j = i := by simpa using hj
      subst this
      have hsz : j < listed.size := by rw [inv.size]; have := hlt j (by simp); omega
      simp [hsz]
theorem mem_of : ∀ {l : List Nat} {i : Nat}, mem l i = true → i ∈ l
  | [], _, h => by simp [mem] at h
  | x :: l, i, h => by
    unfold mem at h
    split at h
    · rename_i e; simp [Nat.eq_of_beq_eq_true e]
    · exact List.mem_cons_of_mem _ (mem_of h)
/-- THE REGION. -/
theorem region_tail {E0 : Env} {N0 nt id : Nat} {pre : List Nat} {s s' : Slots} {H : Heap} {a : Act} {w : World} (hm : P.follows .mixedOrders = true) (hB : tailOk ops stop pre = true) (hTl : ∀ a w, Tl a w → wpList P ops Q (ops.toList.drop stop) a w) (hQp : ∀ c a w, ¬ Q (.panic c) a w)
    (hp : runPre nt ops.toList pre s = some s') (hst : St E0 N0 nt s H a { w with drawn := w.drawn + 1 })
    (h : ∀ a', St E0 N0 nt s' H a' { w with drawn := w.drawn + 1 } → Inv .any ops stop pre (preArr ops pre) → wpHT P .any ops Q Tl stop (Below w.heap.size { w with drawn := w.drawn + 1 }) (stop - pre.length) (preArr ops pre) a' { w with drawn := w.drawn + 1 }) : (Code.region id ops true).wp P Q a w := by
  simp only [tailOk, Bool.and_eq_true] at hB
  obtain ⟨⟨⟨⟨⟨⟨⟨h1, h2⟩, h0⟩, h3⟩, h4⟩, h5⟩, h6⟩, h7⟩ := hB
  have h2' := Nat.blt_eq.mp h2
  have h7' := Nat.le_of_ble_eq_true h7
  have hlt : ∀ i ∈ pre, i < stop := fun i hi => Nat.blt_eq.mp (List.all_eq_true.1 h6 i hi)
  have inv0 : HeadInv .any ops stop (Array.replicate ops.size false) :=
    ⟨by simp, fun j oj _ hl => (by rw [getD_replicate_false] at hl; cases hl), fun t _ ht => getD_in (by simpa using ht) (getD_replicate_false _ _)⟩
  refine wp_region_any hm ?_
  have := runPre_ok (Q := Q) (n := (stop - pre.length) + (ops.size - stop)) h1 h2' hQp pre [] s _ s' a _ H hp h0 hlt hst inv0 (fun i hi => by cases hi) (fun a' k1 k2 k3 => by
    have inv : Inv .any ops stop pre (preArr ops pre) := ⟨k2, fun i hi => k3 i (by simpa using mem_of hi)⟩
    exact wpAny_of_HT h3 h4 h2' h5 hTl _ _ _ _ inv (h a' k1 inv))
  rw [show pre.length + (stop - pre.length + (ops.size - stop)) = ops.size by omega] at this
  exact this

/-! ### The head in the order of the text -/
def wpQT (P : Program) (ops : Array Oper) (C : World → Prop) (Lq : Act → Prop) (stop : Nat) : Nat → Array Bool → Act → Prop
  | 0, listed, a => AllHead stop listed ∧ Lq a
  | f + 1, listed, a => (AllHead stop listed → Lq a) ∧ (¬ AllHead stop listed → Region.ready .any ops listed ≠ [] ∧ ∀ i ∈ Region.ready .any ops listed, qOp P ops C i (wpQT P ops C Lq stop f (listed.setIfInBounds i true)) a)
theorem wpQT_take {C : World → Prop} {Lq : Act → Prop} {pre : List Nat} {i : Nat} {oi : Oper} {v : Value} (hi : ops[i]? = some oi) (hsel : Region.noSelect ops = true) {fuel : Nat} {listed : Array Bool} {a : Act} (hf : Region.free .any ops listed i = true)
    (hr : i ∈ Region.ready .any ops listed) (hy : YieldsIn P ops C oi v a) (hsk : sinkP ops stop pre = true) (hch : Region.chainB .any ops stop = true) (hst : stop < ops.size) (inv : Inv .any ops stop pre listed) (hin : i < stop)
    (H : wpQT P ops C Lq stop fuel (listed.setIfInBounds i true) (a.put oi.dst v)) : wpQT P ops C Lq stop (fuel + 1) listed a := by
  have main : ∀ (fuel : Nat) (listed : Array Bool) (a : Act),
      (∀ j oj, ops[j]? = some oj → j ≠ i → listed.getD j true = false → (∀ e ∈ oj.after, Region.binds .any e = true → e.on ≠ i) → oi.apart ops oj = true) →
      i ∈ Region.ready .any ops listed → YieldsIn P ops C oi v a → Inv .any ops stop pre listed →
      wpQT P ops C Lq stop fuel (listed.setIfInBounds i true) (a.put oi.dst v) → wpQT P ops C Lq stop (fuel + 1) listed a := by
    intro fuel
    induction fuel with
    | zero =>
      intro listed a _ hr hy inv H
      have hun := (mem_ready.1 hr).1
      have hnall : ¬ AllHead stop listed := fun h => by have := h i hin; rw [getD_both hun] at this; cases this
      have hlt := head_lt hsk hch hst inv hnall
      refine ⟨fun h => absurd h hnall, fun _ => ⟨fun h => (by rw [h] at hr; cases hr), fun j hj => ?_⟩⟩
      by_cases hji : j = i
      · subst hji; exact hy.qOp hi H
      · have h1 := H.1 j (hlt j hj)
        rw [getD_set_ne false (Ne.symm hji), getD_both (mem_ready.1 hj).1] at h1
        cases h1
    | succ fuel ih =>
      intro listed a hfree hr hy inv H
      have hun := (mem_ready.1 hr).1
      have hnall : ¬ AllHead stop listed := fun h => by have := h i hin; rw [getD_both hun] at this; cases this
      have hlt := head_lt hsk hch hst inv hnall
      refine ⟨fun h => absurd h hnall, fun _ => ⟨fun h => (by rw [h] at hr; cases hr), fun j hj => ?_⟩⟩
      by_cases hji : j = i
      · subst hji; exact hy.qOp hi H
      · have hnall2 : ¬ AllHead stop (listed.setIfInBounds i true) := fun h => by
          have h1 := h j (hlt j hj)
          rw [getD_set_ne false (Ne.symm hji), getD_both (mem_ready.1 hj).1] at h1
          cases h1
        have h1 := (H.2 hnall2).2 j (ready_mono hj hji)
        obtain ⟨hjun, oj, hoj, hall⟩ := mem_ready.1 hj
        have hnot : ∀ e ∈ oj.after, Region.binds .any e = true → e.on ≠ i := fun e he hb heq => by
          have h1 := hall e he hb
          rw [heq, getD_both hun] at h1
          cases h1
        have h2 := qOp_put hoj (hfree j oj hoj hji hjun hnot) (fun cs b => Region.noSelect_spec hsel i oi cs b hi) (fun cs b => Region.noSelect_spec hsel j oj cs b hoj) hy h1
        have hfree' : ∀ k ok, ops[k]? = some ok → k ≠ i → (listed.setIfInBounds j true).getD k true = false →
            (∀ e ∈ ok.after, Region.binds .any e = true → e.on ≠ i) → oi.apart ops ok = true := fun k ok hk hki hun hno => by
          refine hfree k ok hk hki ?_ hno
          by_cases hjk : j = k
          · subst hjk; exact hjun
          · rw [getD_set_ne true hjk] at hun; exact hun
        refine qOp_mono (fun a' h3 => ih (listed.setIfInBounds j true) a' hfree' (ready_mono hr (Ne.symm hji)) h3.1 (inv.set hj (hlt j hj)) ?_) h2
        rw [Array.setIfInBounds_comm _ _ hji]
        exact h3.2
  exact main fuel listed a (Region.free_spec hi hf) hr hy inv H
theorem wpHT_of_QT {C : World → Prop} {Lq : Act → Prop} (hL : ∀ a w, C w → Lq a → Tl a w) : ∀ (f : Nat) (listed : Array Bool) (a : Act) (w : World), C w → wpQT P ops C Lq stop f listed a → wpHT P .any ops Q Tl stop C f listed a w
  | 0, _, _, _, hC, h => ⟨h.1, hL _ _ hC h.2⟩
  | f + 1, _, _, _, hC, h => ⟨fun hall => hL _ _ hC (h.1 hall), fun hn => ⟨(h.2 hn).1, fun i hi => wpOp_of_qOp hC (fun a' w' hC' h' => ⟨hC', wpHT_of_QT hL f _ a' w' hC' h'⟩) ((h.2 hn).2 i hi)⟩⟩
theorem wpQT_lex {C : World → Prop} {Lq : Act → Prop} {pre : List Nat} (hsel : Region.noSelect ops = true) (hsk : sinkP ops stop pre = true) (hch : Region.chainB .any ops stop = true) (hst : stop < ops.size) : ∀ (l : List Nat) (listed : Array Bool) (a : Act),
    lexHeadP ops l listed = true → (∀ i ∈ l, i < stop) → (∀ i, i < stop → i ∉ l → listed.getD i false = true) → Inv .any ops stop pre listed → wpQuiet P ops C Lq (opsAt ops l) a → wpQT P ops C Lq stop l.length listed a
  | [], listed, a, _, _, hall, _, h => ⟨fun i hi => hall i hi (by simp), h⟩
  | k :: l, listed, a, hB, hlt, hall, inv, h => by
    simp only [lexHeadP, Bool.and_eq_true] at hB
    obtain ⟨⟨hr, hf⟩, hB'⟩ := hB
    have hk : k < stop := hlt k (by simp)
    have hks : k < ops.size := by omega
    have ho : ops.toList[k]? = some ops[k] := by simp [hks]
    have ho' : ops[k]? = some ops[k] := by simp [hks]
    have hr' : k ∈ Region.ready .any ops listed := by simpa using hr
    simp only [opsAt, ho] at h
    have hst' : qOp P ops C k (wpQuiet P ops C Lq (opsAt ops l)) a := by unfold qOp; simp only [ho']; exact h
    obtain ⟨v, hy, hK⟩ := yieldsIn_of_qOp ho' hst'
    refine wpQT_take ho' hsel hf hr' hy hsk hch hst inv hk (wpQT_lex hsel hsk hch hst l _ _ hB' (fun i hi => hlt i (by simp [hi])) (fun i hi hni => ?_) (inv.set hr' hk) hK)
    by_cases e : i = k
    · subst e; have hsz : i < listed.size := by rw [inv.head.size]; exact hks
      simp [hsz]
    · exact getD_set_true (hall i hi (by simp [e, hni]))
theorem mem_iff {l : List Nat} {i : Nat} (h : i ∈ l) : mem l i = true := by
  induction l with
  | nil => cases h
  | cons x l ih =>
    unfold mem
    cases e : Nat.beq x i with
    | true => rfl
    | false =>
      rcases List.mem_cons.1 h with h | h
      · subst h; rw [Nat.beq_refl] at e; cases e
      · exact ih h
end
end Go.Sx
