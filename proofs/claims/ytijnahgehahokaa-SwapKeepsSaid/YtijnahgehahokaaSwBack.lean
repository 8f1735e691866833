/- Swap, the plain law: swaps keep the frames, and the swaps back bring the events back. -/
import Derived.Test.YtijnahgehahokaaSwRep
set_option linter.unusedVariables false
set_option linter.unusedSimpArgs false
namespace Go.Sx.Sw
open Go.Sx Go.Proofs Go.Sx.Bn
/-- Is a place in the body of a frame that asks? -/
def inB (S : ByteArray) (q : Nat) : Prop := ∃ j, j < nf S ∧ asks (fk S j) = true ∧ pos S j + 4 ≤ q ∧ q < pos S j + 4 + (fb S j).size
/-- Bytes that differ in bodies that ask alone. -/
def Sim (S R : ByteArray) : Prop := R.size = S.size ∧ ∀ q, ¬ inB S q → gb R q = gb S q
theorem Sim.refl (S : ByteArray) : Sim S S := ⟨rfl, fun _ _ => rfl⟩
theorem gb_rst (S : ByteArray) {i : Nat} (hi : i ≤ nf S) (z : Nat) : gb (rst S i) z = gb S (pos S i + z) := by
  obtain ⟨h1, h2, _⟩ := rst_eq S i hi
  by_cases hz : pos S i + z < S.size
  · rw [h2, gb_extract _ _ _ _ (by omega)]
  · rw [gb_out S _ (by omega), gb_out _ _ (by rw [h2, ByteArray.size_extract]; omega)]
theorem pos_mono (S : ByteArray) : ∀ j i, i ≤ j → pos S i ≤ pos S j
  | 0, i, h => by have : i = 0 := by omega
                  subst this; exact Nat.le_refl _
  | j + 1, i, h => by
    by_cases h2 : i = j + 1
    · subst h2; exact Nat.le_refl _
    · have := pos_mono S j i (by omega); rw [pos]; omega
theorem head_out (S : ByteArray) {i : Nat} (hi : i ≤ nf S) (z : Nat) (hz : z < 4) : ¬ inB S (pos S i + z) := by
  rintro ⟨j, hj, _, h1, h2⟩
  have hp := pos_succ S hj
  rcases Nat.lt_or_ge j i with h | h
  · have := pos_mono S i (j + 1) (by omega); omega
  · have := pos_mono S j i h; omega
theorem err_congr {a b : ByteArray} (hs : a.size = b.size) (h : ∀ z, z < 4 → gb a z = gb b z) : err a = err b ∧ ln a = ln b ∧ bt a 0 = bt b 0 ∧ bt a 1 = bt b 1 ∧ stp a = stp b := by
  have e : ∀ z, z < 4 → bt a z = bt b z := fun z hz => by unfold bt; rw [h z hz]
  have el : ln a = ln b := by unfold ln; rw [e 2 (by omega), e 3 (by omega)]
  have eh : herr a = herr b := by unfold herr; rw [hs, e 0 (by omega), el]
  exact ⟨by unfold err; rw [eh, hs, el], el, e 0 (by omega), e 1 (by omega), by unfold stp; rw [el]⟩
theorem heads (S R : ByteArray) (hs : R.size = S.size) (hh : ∀ i, i ≤ nf S → ∀ z, z < 4 → gb R (pos S i + z) = gb S (pos S i + z)) :
    ∀ i, i ≤ nf S → i ≤ nf R ∧ pos R i = pos S i ∧ err (rst R i) = err (rst S i) ∧ ln (rst R i) = ln (rst S i) ∧ bt (rst R i) 0 = bt (rst S i) 0 ∧ bt (rst R i) 1 = bt (rst S i) 1
  | 0, h0 => by
    have := err_congr (a := rst R 0) (b := rst S 0) hs (fun z hz => by have := hh 0 h0 z hz; rwa [show pos S 0 = 0 from rfl, Nat.zero_add] at this)
    exact ⟨Nat.zero_le _, rfl, this.1, this.2.1, this.2.2.1, this.2.2.2.1⟩
  | i + 1, hi => by
    obtain ⟨h1, h2, h3, h4, h5, h6⟩ := heads S R hs hh i (by omega)
    have he : err (rst R i) = 0 := by rw [h3]; exact nf_ok S (by omega)
    have hlt : i + 1 ≤ nf R := by
      rcases Nat.lt_or_ge i (nf R) with h | h
      · exact h
      · have : i = nf R := by omega
        rw [this] at he
        exact absurd he (nf_end R)
    have hp : pos R (i + 1) = pos S (i + 1) := by rw [pos, pos, h2, stp, stp, h4]
    have hsz : (rst R (i + 1)).size = (rst S (i + 1)).size := by rw [rst_size R hlt, rst_size S hi, hs, hp]
    have := err_congr (a := rst R (i + 1)) (b := rst S (i + 1)) hsz (fun z hz => by rw [gb_rst R hlt, gb_rst S hi, hp]; exact hh (i + 1) hi z hz)
    exact ⟨hlt, hp, this.1, this.2.1, this.2.2.1, this.2.2.2.1⟩
theorem fb_gb (S : ByteArray) {i : Nat} (hi : i < nf S) (z : Nat) (hz : z < (fb S i).size) : gb (fb S i) z = gb S (pos S i + 4 + z) := by
  have hz' := hz
  unfold fb bdy at hz' ⊢
  rw [ByteArray.size_extract] at hz'
  rw [gb_extract _ _ _ _ hz', gb_rst S (by omega)]
  congr 1; omega
/-- What such bytes have alike. -/
theorem Sim.frames {S R : ByteArray} (h : Sim S R) : nf R = nf S ∧ ∀ i, i ≤ nf S → pos R i = pos S i ∧ (i < nf S → fk R i = fk S i ∧ ff R i = ff S i ∧ (fb R i).size = (fb S i).size ∧ (asks (fk S i) = false → fb R i = fb S i)) := by
  have hd := heads S R h.1 (fun i hi z hz => h.2 _ (head_out S hi z hz))
  have hn : nf R = nf S := by
    obtain ⟨h1, _, h3, _⟩ := hd (nf S) (Nat.le_refl _)
    rcases Nat.lt_or_ge (nf S) (nf R) with hl | hl
    · have := nf_ok R hl
      rw [h3] at this
      exact absurd this (nf_end S)
    · omega
  refine ⟨hn, fun i hi => ⟨(hd i hi).2.1, fun hil => ?_⟩⟩
  obtain ⟨h1, h2, h3, h4, h5, h6⟩ := hd i hi
  have hsz : (fb R i).size = (fb S i).size := by
    have := (fb_size R (i := i) (by omega)).1
    have := (fb_size S hil).1
    omega
  refine ⟨h5, h6, hsz, fun ha => gb_ext hsz fun z hz => ?_⟩
  rw [fb_gb R (by omega) z hz, fb_gb S hil z (by omega), h2]
  refine h.2 _ ?_
  rintro ⟨j, hj, haj, g1, g2⟩
  have hp := pos_succ S hj
  have hpi := pos_succ S hil
  rcases Nat.lt_trichotomy j i with hl | hl | hl
  · have := pos_mono S i (j + 1) (by omega); omega
  · subst hl; rw [ha] at haj; cases haj
  · have := pos_mono S j (i + 1) (by omega); omega
/-- One body replaced. -/
theorem rep_frames {R : ByteArray} {j : Nat} (hj : j < nf R) {y : ByteArray} (hy : y.size = (fb R j).size) (ha : asks (fk R j) = true) :
    Sim R (rep R (pos R j + 4) y) ∧ fb (rep R (pos R j + 4) y) j = y ∧ ∀ i, i < nf R → i ≠ j → fb (rep R (pos R j + 4) y) i = fb R i := by
  have hr := pos_room R j hj
  have hr' : pos R j + 4 + y.size ≤ R.size := by omega
  have hg : ∀ q, gb (rep R (pos R j + 4) y) q = if pos R j + 4 ≤ q ∧ q < pos R j + 4 + y.size then gb y (q - (pos R j + 4)) else gb R q := by
    intro q
    by_cases hq : q < R.size
    · exact rep_gb R _ y hr' q hq
    · rw [if_neg (by omega), gb_out R _ (by omega), gb_out _ _ (by rw [rep_size R _ y hr']; omega)]
  have hs : Sim R (rep R (pos R j + 4) y) := by
    refine ⟨rep_size R _ y hr', fun q hq => ?_⟩
    rw [hg, if_neg]
    intro h
    exact hq ⟨j, hj, ha, h.1, by omega⟩
  have hf := hs.frames
  refine ⟨hs, ?_, fun i hi hij => ?_⟩
  · obtain ⟨hp, hh⟩ := hf.2 j (by omega)
    have hsz := (hh hj).2.2.1
    refine gb_ext (by omega) fun z hz => ?_
    rw [fb_gb _ (by rw [hf.1]; exact hj) z hz, hp, hg, if_pos ⟨by omega, by omega⟩]
    congr 1; omega
  · obtain ⟨hp, hh⟩ := hf.2 i (by omega)
    have hsz := (hh hi).2.2.1
    refine gb_ext hsz fun z hz => ?_
    rw [fb_gb _ (by rw [hf.1]; exact hi) z hz, fb_gb R hi z (by omega), hp, hg, if_neg]
    have hpj := pos_succ R hj
    have hpi := pos_succ R hi
    rcases Nat.lt_or_ge j i with hl | hl
    · have := pos_mono R i (j + 1) (by omega); omega
    · have := pos_mono R j (i + 1) (by omega); omega
theorem inB_congr {S R : ByteArray} (h : Sim S R) (q : Nat) : inB R q → inB S q := by
  rintro ⟨j, hj, ha, h1, h2⟩
  obtain ⟨hn, hf⟩ := h.frames
  have hj' : j < nf S := by omega
  obtain ⟨hp, hh⟩ := hf j (by omega)
  obtain ⟨hk, _, hz, _⟩ := hh hj'
  exact ⟨j, hj', by rw [← hk]; exact ha, by omega, by omega⟩
theorem Sim.trans {S R T : ByteArray} (h : Sim S R) (k : Sim R T) : Sim S T :=
  ⟨k.1.trans h.1, fun q hq => (k.2 q fun hi => hq (inB_congr h q hi)).trans (h.2 q hq)⟩
theorem sim_eq {S R : ByteArray} (h : Sim S R) (hb : ∀ j, j < nf S → fb R j = fb S j) : R = S := by
  refine gb_ext h.1 fun q _ => ?_
  by_cases hq : inB S q
  · obtain ⟨j, hj, _, h1, h2⟩ := hq
    obtain ⟨hn, hf⟩ := h.frames
    obtain ⟨hp, _⟩ := hf j (by omega)
    have e1 := fb_gb S hj (q - (pos S j + 4)) (by omega)
    have e2 := fb_gb R (i := j) (by omega) (q - (pos S j + 4)) (by rw [hb j hj]; omega)
    rw [hb j hj, e1, hp] at e2
    rw [show pos S j + 4 + (q - (pos S j + 4)) = q by omega] at e2
    exact e2.symm
  · exact h.2 q hq

/-! ### Events -/
theorem sm_congr (K C : Nat → Int) {B B' : FB} (c : Int) : ∀ n, (∀ i, i < n → hr K C c i = true → B' i = B i) → sm K C B' c n = sm K C B c n
  | 0, _ => rfl
  | n + 1, h => by
    rw [sm, sm, sm_congr K C c n (fun i hi => h i (by omega))]
    by_cases hh : hr K C c n = true
    · rw [if_pos hh, if_pos hh, h n (by omega) hh]
    · rw [if_neg hh, if_neg hh]
theorem hs_sizes (K C : Nat → Int) {B B' : FB} (c : Int) (n : Nat) (h : ∀ i, (B' i).size = (B i).size) : ∀ k, (hs K C B' c n k).size = (hs K C B c n k).size
  | 0 => rfl
  | k + 1 => by rw [hs, hs, ByteArray.size_append, ByteArray.size_append, hs_sizes K C c n h k, h]
theorem hr_conn {K C : Nat → Int} {c : Int} {i : Nat} (h : hr K C c i = true) : C i = c ∧ 0 ≤ c ∧ c ≤ 15 := by
  unfold hr at h; rw [decide_eq_true_eq] at h; exact ⟨h.2.1, h.2.2.1, h.2.2.2.1⟩
theorem sm_swp (K C : Nat → Int) (n : Nat) (B : FB) (c0 nth : Int) (y : ByteArray) (hc : can (sm K C B c0 n) nth y = true) (hle : pos (sm K C B c0 n) nth.toNat + 4 + y.size ≤ (sm K C B c0 n).size) :
    sm K C (swp K C n B c0 nth y) c0 n = rep (sm K C B c0 n) (pos (sm K C B c0 n) nth.toNat + 4) y := by
  have hsz : ∀ i, (swp K C n B c0 nth y i).size = (B i).size := fun i => swp_size K C n B c0 nth y i
  have key : ∀ k, k ≤ hn K C c0 n → hs K C (swp K C n B c0 nth y) c0 n k = (rep (sm K C B c0 n) (pos (sm K C B c0 n) nth.toNat + 4) y).extract 0 (hs K C B c0 n k).size := by
    intro k
    induction k with
    | zero =>
      intro _
      refine gb_ext ?_ (fun z hz => absurd hz (Nat.not_lt_zero z))
      rw [ByteArray.size_extract]; show 0 = min 0 _ - 0; omega
    | succ k ih =>
      intro hk
      have hk' : k < hn K C c0 n := by omega
      have hp := rep_piece K C B c0 n hk' (pos (sm K C B c0 n) nth.toNat + 4) y hle
      have h1 := hs_at K C B c0 n hk'
      have hrr := rep_size _ _ y hle
      rw [hs, ih (by omega), swp_yes K C n B c0 nth y hc]
      simp only [(hg_lt hk').2, if_true]
      rw [← hp, ← h1.1, ByteArray.extract_append_extract]
      congr 1 <;> omega
  rw [← hs_all, key _ (Nat.le_refl _), hs_all, ← rep_size _ _ y hle]
  simp
/-- What swaps leave as it was. -/
structure Inv (K C : Nat → Int) (n : Nat) (B B' : FB) : Prop where
  size : ∀ i, (B' i).size = (B i).size
  sim : ∀ c, Sim (sm K C B c n) (sm K C B' c n)
  out : ∀ i, (∀ c, hr K C c i = false) → B' i = B i
theorem Inv.refl (K C : Nat → Int) (n : Nat) (B : FB) : Inv K C n B B := ⟨fun _ => rfl, fun _ => Sim.refl _, fun _ _ => rfl⟩
theorem can_facts {S : ByteArray} {nth : Int} {y : ByteArray} (h : can S nth y = true) : nth.toNat < nf S ∧ asks (fk S nth.toNat) = true ∧ y.size = (fb S nth.toNat).size := by
  unfold can at h
  simp only [Bool.and_eq_true, decide_eq_true_eq, beq_iff_eq] at h
  exact ⟨by omega, h.1.2, h.2.symm⟩
theorem can_mk {S : ByteArray} {j : Nat} {y : ByteArray} (h1 : j < nf S) (h2 : asks (fk S j) = true) (h3 : y.size = (fb S j).size) : can S (j : Int) y = true := by
  unfold can
  simp only [Bool.and_eq_true, decide_eq_true_eq, beq_iff_eq, Int.toNat_natCast]
  exact ⟨⟨⟨by omega, by omega⟩, h2⟩, h3.symm⟩
/-- One swap: the streams behind it. -/
theorem swp_streams (K C : Nat → Int) (n : Nat) (B : FB) (c0 nth : Int) (y : ByteArray) :
    (can (sm K C B c0 n) nth y = false ∧ swp K C n B c0 nth y = B) ∨
    (can (sm K C B c0 n) nth y = true ∧ sm K C (swp K C n B c0 nth y) c0 n = rep (sm K C B c0 n) (pos (sm K C B c0 n) nth.toNat + 4) y ∧ ∀ c, c ≠ c0 → sm K C (swp K C n B c0 nth y) c n = sm K C B c n) := by
  cases hc : can (sm K C B c0 n) nth y with
  | false => exact .inl ⟨rfl, swp_no K C n B c0 nth y hc⟩
  | true =>
    obtain ⟨h1, h2, h3⟩ := can_facts hc
    have hr1 := pos_room (sm K C B c0 n) _ h1
    refine .inr ⟨rfl, sm_swp K C n B c0 nth y hc (by omega), fun c hcc => sm_congr K C c n fun i hi hh => ?_⟩
    rw [swp_yes K C n B c0 nth y hc]
    have : ¬ hr K C c0 i = true := fun h0 => hcc ((hr_conn hh).1.symm.trans (hr_conn h0).1)
    simp only [this, if_false]; rfl
theorem Inv.swp {K C : Nat → Int} {n : Nat} {B B' : FB} (h : Inv K C n B B') (c0 nth : Int) (y : ByteArray) : Inv K C n B (swp K C n B' c0 nth y) := by
  refine ⟨fun i => (swp_size K C n B' c0 nth y i).trans (h.size i), fun c => ?_, fun i hi => ?_⟩
  · rcases swp_streams K C n B' c0 nth y with ⟨_, h2⟩ | ⟨h1, h2, h3⟩
    · rw [h2]; exact h.sim c
    · by_cases hc : c = c0
      · subst hc
        rw [h2]
        obtain ⟨g1, g2, g3⟩ := can_facts h1
        exact (h.sim c).trans (rep_frames g1 g3 g2).1
      · rw [h3 c hc]; exact h.sim c
  · have : Sw.swp K C n B' c0 nth y i = B' i := by unfold Sw.swp; rw [if_neg (by simp [hi c0])]
    rw [this]; exact h.out i hi
theorem inv_swps (K C : Nat → Int) (n : Nat) (cs ns : Nat → Int) (ys : FB) {B0 B : FB} (h : Inv K C n B0 B) : ∀ m, Inv K C n B0 (swps K C n cs ns ys B m)
  | 0 => h
  | m + 1 => (inv_swps K C n cs ns ys h m).swp _ _ _
/-- Is the body the one of old? -/
def good (K C : Nat → Int) (n : Nat) (B B' : FB) (c : Int) (j : Nat) : Prop := fb (sm K C B' c n) j = fb (sm K C B c n) j
theorem back_step {K C : Nat → Int} {n : Nat} {B B' : FB} (h : Inv K C n B B') (c0 : Int) (j0 : Nat) (hj0 : j0 < nf (sm K C B c0 n)) :
    good K C n B (swp K C n B' c0 (j0 : Int) (fb (sm K C B c0 n) j0)) c0 j0 ∧ ∀ c j, j < nf (sm K C B c n) → good K C n B B' c j → good K C n B (swp K C n B' c0 (j0 : Int) (fb (sm K C B c0 n) j0)) c j := by
  have hf := fun c => (h.sim c).frames
  rcases swp_streams K C n B' c0 (j0 : Int) (fb (sm K C B c0 n) j0) with ⟨h1, h2⟩ | ⟨h1, h2, h3⟩
  · rw [h2]
    refine ⟨?_, fun c j _ hg => hg⟩
    obtain ⟨hp, hh⟩ := (hf c0).2 j0 (by omega)
    obtain ⟨hk, _, hz, hbb⟩ := hh hj0
    cases ha : asks (fk (sm K C B c0 n) j0) with
    | false => exact hbb ha
    | true =>
      rw [can_mk (by rw [(hf c0).1]; exact hj0) (by rw [hk]; exact ha) hz.symm] at h1
      cases h1
  · obtain ⟨g1, g2, g3⟩ := can_facts h1
    simp only [Int.toNat_natCast] at h2 g1 g2 g3
    have hr3 := rep_frames g1 g3 g2
    refine ⟨by unfold good; rw [h2]; exact hr3.2.1, fun c j hj hg => ?_⟩
    unfold good at hg ⊢
    by_cases hc : c = c0
    · subst hc
      rw [h2]
      by_cases hjj : j = j0
      · subst hjj; exact hr3.2.1
      · rw [hr3.2.2 j (by rw [(hf c).1]; exact hj) hjj]; exact hg
    · rw [h3 c hc]; exact hg
/-- All the swaps back. -/
theorem back_all {K C : Nat → Int} {n : Nat} {B : FB} (cs : Nat → Int) (js : Nat → Nat) (ys : FB) (m : Nat) (hl : ∀ k, k < m → js k < nf (sm K C B (cs k) n) ∧ ys k = fb (sm K C B (cs k) n) (js k)) {B1 : FB} (h : Inv K C n B B1) :
    ∀ k, k ≤ m → ∀ k', k' < k → good K C n B (swps K C n cs (fun k => (js k : Int)) ys B1 k) (cs k') (js k')
  | 0, _, k', hk' => absurd hk' (Nat.not_lt_zero k')
  | k + 1, hk, k', hk' => by
    have hi := inv_swps K C n cs (fun k => (js k : Int)) ys h k
    obtain ⟨h1, h2⟩ := hl k (by omega)
    have hb := back_step hi (cs k) (js k) h1
    rw [swps, h2]
    by_cases hkk : k' = k
    · subst hkk; exact hb.1
    · exact hb.2 _ _ (hl k' (by omega)).1 (back_all cs js ys m hl h k (by omega) k' (by omega))
/-- THE PLAIN LAW: the swaps back bring every event back. -/
theorem back_home {K C : Nat → Int} {n : Nat} {B B' : FB} (h : Inv K C n B B') (hg : ∀ c, 0 ≤ c → c ≤ 15 → ∀ j, j < nf (sm K C B c n) → good K C n B B' c j) : ∀ i, i < n → B' i = B i := by
  intro i hi
  by_cases hh : ∃ c, hr K C c i = true
  · obtain ⟨c, hc⟩ := hh
    obtain ⟨_, c0, c1⟩ := hr_conn hc
    have hs := sim_eq (h.sim c) (hg c c0 c1)
    obtain ⟨k, hk, rfl⟩ := hr_hg K C c n i hi hc
    have e1 := hs_at K C B c n hk
    have e2 := hs_at K C B' c n hk
    refine gb_ext (h.size _) fun z hz => ?_
    rw [← e2.2.2 z hz, ← e1.2.2 z (by rw [← h.size]; exact hz), hs, hs_sizes K C c n h.size]
  · refine h.out i fun c => ?_
    cases hc : hr K C c i with
    | false => rfl
    | true => exact absurd ⟨c, hc⟩ hh
end Go.Sx.Sw
