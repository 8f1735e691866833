/- What each operation that changes something does to the state: new blocks, stores, appends. -/
import Derived.Test.YtijnahgehahokaaSxSoundD
set_option linter.unusedVariables false
set_option linter.unusedSimpArgs false
namespace Go.Sx
open Go.RowKit
variable {P : Program} {tab : Tab}

theorem blk_lt {H : Heap} {E : Env} (hO : Ok H E) {i : Nat} {hb : HB} (h : H[i]? = some hb) {b : Nat} (hbk : blk E i hb = some b) : E.T b ∧ b < E.w.heap.size := by
  have := hO.blocks i hb h
  cases hb with
  | cells cs ty =>
    obtain ⟨b', us, h1, h2, _⟩ := this
    simp only [blk] at hbk
    rw [h1] at hbk; cases hbk
    exact ⟨h2, hO.tlt _ h2⟩
  | row ty sz n get ver =>
    obtain ⟨u, xs, h1, _, _, h3, _⟩ := this
    simp only [blk, h1, Option.bind_some] at hbk
    exact ⟨h3 b hbk, hO.tlt _ (h3 b hbk)⟩
  | buf n get =>
    obtain ⟨b', cs, ty, c, h1, h2, _⟩ := this
    simp only [blk] at hbk
    rw [h1] at hbk; cases hbk
    exact ⟨h2, hO.tlt _ h2⟩
  | gone => cases hbk

/-- A block more. -/
structure Push (E E' : Env) (N : Nat) (rb : Option Nat) (ub : Option Value) : Prop where
  os : E'.w.os = E.w.os
  tape : E'.w.tape = E.w.tape
  output : E'.w.output = E.w.output
  size : E.w.heap.size ≤ E'.w.heap.size
  block : ∀ b, b < E.w.heap.size → E'.w.heap[b]? = E.w.heap[b]?
  ρ : ∀ i, E'.ρ i = if i = N then rb else E.ρ i
  σ : ∀ i k, E'.σ i k = if i = N then (if k = 0 then ub else none) else E.σ i k
  T : ∀ b, E'.T b → E.T b ∨ (E.w.heap.size ≤ b ∧ b < E'.w.heap.size)
  T' : ∀ b, E.T b → E'.T b
  F : E'.F = E.F

theorem Push.ext {E E' : Env} {N : Nat} {rb : Option Nat} {ub : Option Value} (h : Push E E' N rb ub) {H : Heap} (hO : Ok H E) (hN : H.length = N) : Ext E E' := by
  refine ⟨h.os, h.tape, h.output, h.size, fun i b hb => ?_, fun i k u hu => ?_, fun b hb => ⟨h.block b hb.1, fun ht => ?_⟩, fun b hb => ⟨h.block b (hO.flt b hb), by rw [h.F]; exact hb⟩⟩
  · rw [h.ρ, if_neg]; · exact hb
    intro e; subst e; rw [(hO.fresh i (by omega)).1] at hb; cases hb
  · rw [h.σ, if_neg]; · exact hu
    intro e; subst e; rw [(hO.fresh i (by omega)).2 k] at hu; cases hu
  · rcases h.T b ht with h1 | h1
    · exact hb.2 h1
    · have := hb.1; omega
theorem ownsRow_block {w w' : World} {ty sz : Nat} {u : Value} {n : Nat} {xs : List Value} (h : w.ownsRow 0 ty sz u n xs) (hb : ∀ g, u.ownBlock = some g → w'.heap[g]? = w.heap[g]?) : w'.ownsRow 0 ty sz u n xs := by
  refine ⟨h.1, ?_⟩
  rcases h.2 with hn | ⟨g, cap, cur, rfl, h1, h2, r⟩
  · exact .inl hn
  · exact .inr ⟨g, cap, cur, rfl, h1, (hb g rfl).trans h2, r⟩
/-- A block that is as it was is what it was. -/
theorem hbok_ext {E E' : Env} (hx : Ext E E') {H : Heap} (hO : Ok H E) {i : Nat} {hb : HB} (h : H[i]? = some hb) (hT : ∀ b, E.T b → E'.T b) (hb' : ∀ b, blk E i hb = some b → E'.w.heap[b]? = E.w.heap[b]?) : hbok E' i hb := by
  have := hO.blocks i hb h
  cases hb with
  | cells cs ty =>
    obtain ⟨b, us, h1, h2, h3, h4⟩ := this
    exact ⟨b, us, hx.ρ _ _ h1, hT _ h2, (hb' b h1).trans h3, relL_ext _ hx _ h4⟩
  | row ty sz n get ver =>
    obtain ⟨u, xs, h1, h0, h2, h3, h5, h4⟩ := this
    refine ⟨u, xs, hx.σ _ _ _ h1, hx.ρ _ _ h0, ownsRow_block h2 (fun g hg => hb' g ?_), fun g hg => hT _ (h3 g hg), h5, fun j hj => relL_ext _ hx.pl _ (h4 j hj)⟩
    simp only [blk, h1, Option.bind_some]; exact hg
  | buf n get =>
    obtain ⟨b, cs, ty, c, h1, h2, h3, h4, h5, h6⟩ := this
    exact ⟨b, cs, ty, c, hx.ρ _ _ h1, hT _ h2, (hb' b h1).trans h3, h4, hx.σ _ _ _ h5, h6⟩
  | gone => trivial
theorem blk_ext {E E' : Env} (hx : Ext E E') {H : Heap} (hO : Ok H E) {i : Nat} {hb : HB} (h : H[i]? = some hb) : blk E' i hb = blk E i hb := by
  have := hO.blocks i hb h
  cases hb with
  | cells cs ty =>
    obtain ⟨b, us, h1, _⟩ := this
    simp only [blk]; rw [h1, hx.ρ _ _ h1]
  | row ty sz n get ver =>
    obtain ⟨u, xs, h1, _⟩ := this
    simp only [blk]; rw [h1, hx.σ _ _ _ h1]
  | buf n get =>
    obtain ⟨b, cs, ty, c, h1, _⟩ := this
    simp only [blk]; rw [h1, hx.ρ _ _ h1]
  | gone => rfl

theorem ok_push {E E' : Env} {H : Heap} {rb : Option Nat} {ub : Option Value} {hb : HB} (hO : Ok H E) (h : Push E E' H.length rb ub) (hnew : hbok E' H.length hb)
    (hbk : ∀ b, blk E' H.length hb = some b → E.w.heap.size ≤ b) (hver : ∀ ty sz n get ver, hb = .row ty sz n get ver → ver = 0) (hTl : ∀ b, E'.T b → b < E'.w.heap.size) : Ok (H ++ [hb]) E' := by
  have hx := h.ext hO rfl
  have old : ∀ i x, (H ++ [hb])[i]? = some x → (i < H.length ∧ H[i]? = some x) ∨ (i = H.length ∧ x = hb) := by
    intro i x hi
    by_cases hlt : i < H.length
    · rw [List.getElem?_append_left hlt] at hi; exact .inl ⟨hlt, hi⟩
    · rw [List.getElem?_append_right (by omega)] at hi
      cases hd : i - H.length with
      | zero => rw [hd] at hi; simp at hi; exact .inr ⟨by omega, hi.symm⟩
      | succ k => rw [hd] at hi; simp at hi
  refine ⟨fun i x hi => ?_, fun i hi => ?_, fun i ty sz n get ver hi k hk => ?_, fun i j x y b hne hi hj h1 h2 => ?_, hTl, fun b hb => h.T' b (hO.fsub b (by rw [← h.F]; exact hb)), fun i x b hi h1 hf => ?_⟩
  · rcases old i x hi with ⟨_, h1⟩ | ⟨rfl, rfl⟩
    · exact hbok_ext hx hO h1 h.T' (fun b hb => h.block b (blk_lt hO h1 hb).2)
    · exact hnew
  · simp only [List.length_append, List.length_singleton] at hi
    refine ⟨by rw [h.ρ, if_neg (by omega)]; exact (hO.fresh i (by omega)).1, fun k => by rw [h.σ, if_neg (by omega)]; exact (hO.fresh i (by omega)).2 k⟩
  · rcases old i _ hi with ⟨hlt, h1⟩ | ⟨rfl, h1⟩
    · rw [h.σ, if_neg (by omega)]; exact hO.ver i ty sz n get ver h1 k hk
    · have := hver ty sz n get ver h1.symm
      rw [h.σ, if_pos rfl, if_neg (by omega)]
  · rcases old i x hi with ⟨hil, hi'⟩ | ⟨rfl, rfl⟩ <;> rcases old j y hj with ⟨hjl, hj'⟩ | ⟨rfl, rfl⟩
    · rw [blk_ext hx hO hi'] at h1
      rw [blk_ext hx hO hj'] at h2
      exact hO.sep i j x y b hne hi' hj' h1 h2
    · rw [blk_ext hx hO hi'] at h1
      have := (blk_lt hO hi' h1).2
      have := hbk b h2
      omega
    · rw [blk_ext hx hO hj'] at h2
      have := (blk_lt hO hj' h2).2
      have := hbk b h1
      omega
    · exact hne rfl
  · rw [h.F] at hf
    rcases old i x hi with ⟨_, hi'⟩ | ⟨rfl, rfl⟩
    · rw [blk_ext hx hO hi'] at h1
      exact hO.fown i x b hi' h1 hf
    · have := hO.flt b hf
      have := hbk b h1
      omega

theorem alloc_size (w : World) (o : Obj) : (w.alloc o).heap.size = w.heap.size + 1 := by show (w.heap.push o).size = _; simp
theorem alloc_old (w : World) (o : Obj) {b : Nat} (h : b < w.heap.size) : (w.alloc o).heap[b]? = w.heap[b]? := by
  show (w.heap.push o)[b]? = _
  rw [Array.getElem?_push, if_neg (by omega)]
theorem alloc_new (w : World) (o : Obj) : (w.alloc o).heap[w.heap.size]? = some o := by show (w.heap.push o)[w.heap.size]? = _; simp

/-- A new block of cells. -/
def Env.new (E : Env) (N : Nat) (o : Obj) : Env :=
  { w := E.w.alloc o, ρ := fun i => if i = N then some E.w.heap.size else E.ρ i, σ := fun i k => if i = N then none else E.σ i k, T := fun b => E.T b ∨ b = E.w.heap.size, F := E.F }
theorem push_new {E : Env} {H : Heap} (hO : Ok H E) (o : Obj) : Push E (E.new H.length o) H.length (some E.w.heap.size) none := by
  refine ⟨rfl, rfl, rfl, by show _ ≤ (E.w.alloc o).heap.size; rw [alloc_size]; omega, fun b hb => alloc_old _ _ hb, fun i => rfl, fun i k => ?_, fun b hb => ?_, fun b hb => .inl hb, rfl⟩
  · simp only [Env.new]; split <;> simp
  · rcases hb with hb | rfl
    · exact .inl hb
    · exact .inr ⟨Nat.le_refl _, by show _ < (E.w.alloc o).heap.size; rw [alloc_size]; omega⟩
theorem new_ok {E : Env} {H : Heap} (hO : Ok H E) {cs : List SV} {us : Array Value} {ty : TypeId} (hc : relL cs E us.toList) :
    Ext E (E.new H.length (.cells us ty)) ∧ Ok (H ++ [.cells cs ty]) (E.new H.length (.cells us ty)) := by
  have hp := push_new hO (.cells us ty)
  have hx := hp.ext hO rfl
  refine ⟨hx, ok_push hO hp ?_ ?_ ?_ ?_⟩
  · exact ⟨E.w.heap.size, us.toList, by simp [Env.new], .inr rfl, alloc_new E.w (.cells us ty), relL_ext _ hx _ hc⟩
  · intro b hb
    simp only [blk, Env.new, if_true] at hb
    cases hb; exact Nat.le_refl _
  · intro _ _ _ _ _ h; cases h
  · intro b hb
    rcases hb with hb | rfl
    · exact Nat.lt_of_lt_of_le (hO.tlt b hb) hp.size
    · show _ < (E.w.alloc _).heap.size; rw [alloc_size]; omega

/-- A row of one's own, of which there is nothing yet. -/
def Env.newRow (E : Env) (N sz : Nat) : Env :=
  { w := E.w, ρ := fun i => if i = N then some sz else E.ρ i, σ := fun i k => if i = N then (if k = 0 then some (.slice none 0 0) else none) else E.σ i k, T := E.T, F := E.F }
theorem newRow_ok {E : Env} {H : Heap} (hO : Ok H E) (ty sz : Nat) (get : Nat → List SV) :
    Ext E (E.newRow H.length sz) ∧ Ok (H ++ [.row ty sz 0 get 0]) (E.newRow H.length sz) := by
  have hp : Push E (E.newRow H.length sz) H.length (some sz) (some (.slice none 0 0)) :=
    ⟨rfl, rfl, rfl, Nat.le_refl _, fun _ _ => rfl, fun _ => rfl, fun _ _ => rfl, fun _ h => .inl h, fun _ h => h, rfl⟩
  refine ⟨hp.ext hO rfl, ok_push hO hp ?_ ?_ ?_ hO.tlt⟩
  · exact ⟨.slice none 0 0, [], by simp [Env.newRow], by simp [Env.newRow], World.ownsRow_nil _ _ _ _, by simp [Value.ownBlock], by simp, by omega⟩
  · intro b hb; simp [blk, Env.newRow, Value.ownBlock] at hb
  · intro _ _ _ _ _ h; cases h; rfl

/-! ### Stores -/
theorem setCells_heap (b : Nat) : ∀ (vs : List Value) (o : Nat) (w : World) (us : List Value) (ty : TypeId) (fr : Nat × Nat), w.heap[b]? = some (.cells us.toArray ty fr) → o + vs.length ≤ us.length →
    (w.setCells b o vs).heap[b]? = some (.cells (us.take o ++ vs ++ us.drop (o + vs.length)).toArray ty fr)
  | [], o, w, us, ty, fr, h, _ => by simpa [World.setCells] using h
  | v :: vs, o, w, us, ty, fr, h, hl => by
    simp only [List.length_cons] at hl
    unfold World.setCells
    have h1 : (w.setCell ⟨b, o, none⟩ v).heap[b]? = some (.cells (us.set o v).toArray ty fr) := by
      have hlt : b < w.heap.size := (Array.getElem?_eq_some_iff.1 h).1
      have hv : w.heap[b] = .cells us.toArray ty fr := (Array.getElem?_eq_some_iff.1 h).2
      unfold World.setCell
      rw [Array.getElem?_eq_getElem (by simpa using hlt), Array.getElem_modify]
      simp [hv]
    rw [setCells_heap b vs (o + 1) _ _ ty fr h1 (by simp; omega)]
    have hlt : o < us.length := by omega
    congr 3
    rw [List.take_succ_eq_append_getElem (by simpa using hlt), List.take_set_of_le (Nat.le_refl _), List.getElem_set_self, List.drop_set_of_lt (by omega)]
    simp only [List.append_assoc, List.singleton_append, List.cons_append, List.length_cons, List.nil_append]
    have e1 : o + 1 + vs.length = o + (vs.length + 1) := by omega
    rw [e1]
theorem setCells_other (b k : Nat) (h : k ≠ b) : ∀ (vs : List Value) (o : Nat) (w : World), (w.setCells b o vs).heap[k]? = w.heap[k]?
  | [], _, _ => rfl
  | v :: vs, o, w => by
    unfold World.setCells
    rw [setCells_other b k h vs]
    simp only [World.setCell, Array.getElem?_modify]
    rw [if_neg (Ne.symm h)]
theorem setCells_same (b : Nat) : ∀ (vs : List Value) (o : Nat) (w : World), (w.setCells b o vs).os = w.os ∧ (w.setCells b o vs).tape = w.tape ∧ (w.setCells b o vs).output = w.output ∧ (w.setCells b o vs).heap.size = w.heap.size
  | [], _, _ => ⟨rfl, rfl, rfl, rfl⟩
  | v :: vs, o, w => by
    unfold World.setCells
    obtain ⟨h1, h2, h3, h4⟩ := setCells_same b vs (o + 1) (w.setCell ⟨b, o, none⟩ v)
    exact ⟨h1, h2, h3, by rw [h4]; simp [World.setCell]⟩

/-- One block of the runner's is written; the others and all that is not the runner's stay. -/
theorem write_ok {E E' : Env} {H : Heap} (hO : Ok H E) {i : Nat} {h0 h1 : HB} (hi : H[i]? = some h0) (hx : Ext E E') (hF : E'.F = E.F) (hTs : ∀ b, E.T b → E'.T b) (hTl : ∀ b, E'.T b → b < E'.w.heap.size)
    (hoth : ∀ b, b < E.w.heap.size → blk E i h0 ≠ some b → E'.w.heap[b]? = E.w.heap[b]?) (hnew : hbok E' i h1)
    (hblk : ∀ b, blk E' i h1 = some b → blk E i h0 = some b ∨ E.w.heap.size ≤ b)
    (hfr : ∀ j, H.length ≤ j → E'.ρ j = none ∧ ∀ k, E'.σ j k = none)
    (hver : ∀ j ty sz n get ver, (if j = i then some h1 else H[j]?) = some (.row ty sz n get ver) → ∀ k, ver < k → E'.σ j k = none) : Ok (H.set i h1) E' := by
  have hlt : i < H.length := (List.getElem?_eq_some_iff.1 hi).1
  have get : ∀ j, (H.set i h1)[j]? = if j = i then some h1 else H[j]? := by
    intro j
    rw [List.getElem?_set]
    by_cases e : i = j
    · subst e; simp [hlt]
    · simp [e, Ne.symm e]
  refine ⟨fun j x hj => ?_, fun j hj => hfr j (by simpa using hj), fun j ty sz n get' ver hj => hver j ty sz n get' ver (by rw [← get]; exact hj), fun j k x y b hne hj hk h2 h3 => ?_, hTl, fun b hb => hTs b (hO.fsub b (by rw [← hF]; exact hb)), fun j x b hj h2 hf => ?_⟩
  · rw [get] at hj
    by_cases e : j = i
    · subst e; simp at hj; subst hj; exact hnew
    · rw [if_neg e] at hj
      refine hbok_ext hx hO hj hTs (fun b hb => hoth b (blk_lt hO hj hb).2 ?_)
      exact hO.sep j i x h0 b e hj hi hb
  · rw [get] at hj hk
    by_cases e1 : j = i
    · by_cases e2 : k = i
      · exact hne (e1.trans e2.symm)
      · rw [if_pos e1] at hj; rw [if_neg e2] at hk
        simp at hj; subst hj e1
        rw [blk_ext hx hO hk] at h3
        rcases hblk b h2 with h4 | h4
        · exact hO.sep j k h0 y b hne hi hk h4 h3
        · have := (blk_lt hO hk h3).2; omega
    · rw [if_neg e1] at hj
      rw [blk_ext hx hO hj] at h2
      by_cases e2 : k = i
      · rw [if_pos e2] at hk
        simp at hk; subst hk e2
        rcases hblk b h3 with h4 | h4
        · exact hO.sep j k x h0 b hne hj hi h2 h4
        · have := (blk_lt hO hj h2).2; omega
      · rw [if_neg e2] at hk
        rw [blk_ext hx hO hk] at h3
        exact hO.sep j k x y b hne hj hk h2 h3
  · rw [get] at hj
    rw [hF] at hf
    by_cases e1 : j = i
    · rw [if_pos e1] at hj
      simp at hj; subst hj e1
      rcases hblk b h2 with h4 | h4
      · exact hO.fown j h0 b hi h4 hf
      · have := hO.flt b hf; omega
    · rw [if_neg e1] at hj
      rw [blk_ext hx hO hj] at h2
      exact hO.fown j x b hj h2 hf

theorem store_ok {E : Env} {H : Heap} (hO : Ok H E) {i off : Nat} {cs xs : List SV} {ty : TypeId} (hi : H[i]? = some (.cells cs ty)) {b : Nat} (hb : E.ρ i = some b) {vs : List Value} (hv : relL xs E vs) (hle : off + vs.length ≤ cs.length) :
    Ext E { E with w := E.w.setCells b off vs } ∧ Ok (H.set i (.cells (setAt cs off xs) ty)) { E with w := E.w.setCells b off vs } := by
  obtain ⟨b', us, h1, h2, h3, h4⟩ := hO.blocks i _ hi
  rw [hb] at h1; cases h1
  obtain ⟨k1, k2, k3, k4⟩ := setCells_same b vs off E.w
  have hl := relL_length h4
  have hlv := relL_length hv
  have hx : Ext E { E with w := E.w.setCells b off vs } :=
    ⟨k1, k2, k3, Nat.le_of_eq k4.symm, fun _ _ h => h, fun _ _ _ h => h, fun c hc => ⟨setCells_other b c (by intro e; subst e; exact hc.2 h2) vs off E.w, hc.2⟩,
      fun c hc => ⟨setCells_other b c (by intro e; subst e; exact hO.fown i _ _ hi hb hc) vs off E.w, hc⟩⟩
  refine ⟨hx, write_ok hO hi hx rfl (fun _ h => h) (fun c hc => by have := hO.tlt c hc; show c < (E.w.setCells b off vs).heap.size; omega) (fun c _ hc => setCells_other b c (by intro e; subst e; exact hc hb) vs off E.w) ?_ (fun c hc => .inl hc) hO.fresh ?_⟩
  · refine ⟨b, _, hb, h2, setCells_heap b vs off E.w us ty (0, 0) h3 (by omega), ?_⟩
    refine relL_ext _ hx _ ?_
    unfold setAt
    rw [hlv]
    exact relL_append (relL_append (relL_take _ h4) hv) (relL_drop _ h4)
  · intro j ty' sz n get ver hj
    by_cases e : j = i
    · rw [if_pos e] at hj; cases hj
    · rw [if_neg e] at hj; exact hO.ver j ty' sz n get ver hj
end Go.Sx
