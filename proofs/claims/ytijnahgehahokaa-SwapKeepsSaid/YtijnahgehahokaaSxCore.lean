/- The runner's values: what a slot holds, told by value where nothing is written to it any more, by a block's number where it is; how that stands to the model's values in a world. -/
import Derived.WalkKit
import Derived.Deep.Quiet
import Derived.Deep.MidRow
import Derived.Great.BuildSlice
namespace Go.Sx

/-- What is known of a value. -/
inductive SV where
  | v (x : Value)
  | p (i off : Nat)
  | o (i ver : Nat)
  | e (i ver j off : Nat)
  | pe (i off sz foff : Nat) (ix : Int)
  | a (cs : List SV)
  | t (cs : List SV)
  | rs (sz n : Nat) (get : Nat → List SV)
  | rp (cs : List SV)
  | fn (f : FuncId) (fs cs : List SV)
  | ic (ty : TypeId) (x : SV)
  | any

/-- The world, where each block of the runner's lies, the headers that each row of its own has had, and the blocks that may be written. -/
structure Env where
  w : World
  ρ : Nat → Option Nat
  σ : Nat → Nat → Option Value
  T : Nat → Prop
  F : Nat → Prop   -- others' blocks that may be written by others alone

def Env.still (E : Env) (b : Nat) : Prop := b < E.w.heap.size ∧ ¬ E.T b
/-- From (b, off) on the cells read as 'us'. -/
def readsAt (w : World) (b off : Nat) (us : List Value) : Prop := ∀ j u, us[j]? = some u → w.cell? ⟨b, off + j, none⟩ = some u

/-- What read-only memory holds leads to no block of the runner's. -/
def Env.pl (E : Env) : Env := { E with ρ := fun _ => none, σ := fun _ _ => none }

mutual
def rel : SV → Env → Value → Prop
  | .v x, _, u => u = x
  | .p i off, E, u => ∃ b, E.ρ i = some b ∧ u = .pointer (some ⟨b, off, none⟩)
  | .o i ver, E, u => E.σ i ver = some u ∧ ∃ a n c, u = .slice a n c
  | .e i ver j off, E, u => ∃ b o n c sz, E.σ i ver = some (.slice (some ⟨b, o, none⟩) n c) ∧ E.ρ i = some sz ∧ u = .pointer (some ⟨b, o + (j * sz + off), none⟩)
  | .pe i off sz foff ix, E, u => ∃ b, E.ρ i = some b ∧ u = .pointer (some ⟨b, off + ix.toNat * sz + foff, none⟩)
  | .a cs, E, u => ∃ us : List Value, u = .agg us.toArray ∧ relL cs E us
  | .t cs, E, u => ∃ us : List Value, u = .tuple us.toArray ∧ relL cs E us
  | .rs sz n get, E, u => ∃ a cap, u = .slice a n cap ∧ n ≤ cap ∧ cap ≤ maxLen ∧ (a = none → n = 0) ∧
      ∀ j, j < n → ∃ b off us, a = some ⟨b, off, none⟩ ∧ E.still b ∧ relL (get j) E.pl us ∧ us.length = sz ∧ readsAt E.w b (off + j * sz) us ∧ ∀ u, u ∈ us → u.oneCell' = true
  | .rp cs, E, u => ∃ b off us, u = .pointer (some ⟨b, off, none⟩) ∧ E.still b ∧ relL cs E.pl us ∧ readsAt E.w b off us
  | .fn f fs cs, E, u => ∃ us ws : List Value, u = .func (.func f) us.toArray ws.toArray ∧ relL fs E us ∧ relL cs E ws
  | .ic ty x, E, u => ∃ y, u = .iface ty y ∧ rel x E y
  | .any, _, _ => True
def relL : List SV → Env → List Value → Prop
  | [], _, us => us = []
  | x :: xs, E, us => ∃ y ys, us = y :: ys ∧ rel x E y ∧ relL xs E ys
end

/-- What may befall between two worlds: what may not be written stays as it was. -/
structure Ext (E E' : Env) : Prop where
  os : E'.w.os = E.w.os
  tape : E'.w.tape = E.w.tape
  output : E'.w.output = E.w.output
  size : E.w.heap.size ≤ E'.w.heap.size
  ρ : ∀ i b, E.ρ i = some b → E'.ρ i = some b
  σ : ∀ i k u, E.σ i k = some u → E'.σ i k = some u
  still : ∀ b, E.still b → E'.w.heap[b]? = E.w.heap[b]? ∧ ¬ E'.T b
  F : ∀ b, E.F b → E'.w.heap[b]? = E.w.heap[b]? ∧ E'.F b

theorem Ext.refl (E : Env) : Ext E E := ⟨rfl, rfl, rfl, Nat.le_refl _, fun _ _ h => h, fun _ _ _ h => h, fun _ h => ⟨rfl, h.2⟩, fun _ h => ⟨rfl, h⟩⟩
theorem Ext.still' {E E' : Env} (h : Ext E E') {b : Nat} (hb : E.still b) : E'.still b := ⟨Nat.lt_of_lt_of_le hb.1 h.size, (h.still b hb).2⟩
theorem Ext.trans {E E' E'' : Env} (h : Ext E E') (k : Ext E' E'') : Ext E E'' :=
  ⟨k.os.trans h.os, k.tape.trans h.tape, k.output.trans h.output, Nat.le_trans h.size k.size, fun i b hb => k.ρ i b (h.ρ i b hb),
    fun i j u hu => k.σ i j u (h.σ i j u hu), fun b hb => ⟨(k.still b (h.still' hb)).1.trans (h.still b hb).1, (k.still b (h.still' hb)).2⟩,
    fun b hb => ⟨(k.F b (h.F b hb).2).1.trans (h.F b hb).1, (k.F b (h.F b hb).2).2⟩⟩

theorem readsAt_ext {w w' : World} {b off : Nat} {us : List Value} (hb : w'.heap[b]? = w.heap[b]?) (h : readsAt w b off us) : readsAt w' b off us :=
  fun j u hu => (World.cell?_of_block (a := ⟨b, off + j, none⟩) hb).trans (h j u hu)

theorem Ext.pl {E E' : Env} (h : Ext E E') : Ext E.pl E'.pl :=
  ⟨h.os, h.tape, h.output, h.size, fun _ _ hb => (by cases hb), fun _ _ _ hb => (by cases hb), h.still, h.F⟩

/-- What a reading of values asks of two worlds. -/
structure RExt (E E' : Env) : Prop where
  size : E.w.heap.size ≤ E'.w.heap.size
  ρ : ∀ i b, E.ρ i = some b → E'.ρ i = some b
  σ : ∀ i k u, E.σ i k = some u → E'.σ i k = some u
  still : ∀ b, E.still b → E'.w.heap[b]? = E.w.heap[b]? ∧ ¬ E'.T b
theorem RExt.still' {E E' : Env} (h : RExt E E') {b : Nat} (hb : E.still b) : E'.still b := ⟨Nat.lt_of_lt_of_le hb.1 h.size, (h.still b hb).2⟩
theorem RExt.pl {E E' : Env} (h : RExt E E') : RExt E.pl E'.pl := ⟨h.size, fun _ _ hb => (by cases hb), fun _ _ _ hb => (by cases hb), h.still⟩
theorem Ext.r {E E' : Env} (h : Ext E E') : RExt E E' := ⟨h.size, h.ρ, h.σ, h.still⟩
mutual
theorem rel_rext : ∀ (x : SV) {E E' : Env} (_ : RExt E E') (u : Value), rel x E u → rel x E' u
  | .v _, _, _, _, _, hr => hr
  | .p i off, _, _, h, _, hr => by
    simp only [rel] at hr ⊢
    obtain ⟨b, hb, rfl⟩ := hr
    exact ⟨b, h.ρ i b hb, rfl⟩
  | .o i ver, _, _, h, _, hr => by simp only [rel] at hr ⊢; exact ⟨h.σ _ _ _ hr.1, hr.2⟩
  | .e i ver j off, _, _, h, _, hr => by
    simp only [rel] at hr ⊢
    obtain ⟨b, o, n, c, sz, h1, h2, rfl⟩ := hr
    exact ⟨b, o, n, c, sz, h.σ _ _ _ h1, h.ρ _ _ h2, rfl⟩
  | .pe i off sz foff ix, _, _, h, _, hr => by
    simp only [rel] at hr ⊢
    obtain ⟨b, hb, rfl⟩ := hr
    exact ⟨b, h.ρ i b hb, rfl⟩
  | .a cs, _, _, h, _, hr => by
    simp only [rel] at hr ⊢
    obtain ⟨us, rfl, hl⟩ := hr
    exact ⟨us, rfl, relL_rext cs h us hl⟩
  | .t cs, _, _, h, _, hr => by
    simp only [rel] at hr ⊢
    obtain ⟨us, rfl, hl⟩ := hr
    exact ⟨us, rfl, relL_rext cs h us hl⟩
  | .rs sz n get, _, _, h, _, hr => by
    simp only [rel] at hr ⊢
    obtain ⟨a, cap, rfl, h1, h2, h3, h4⟩ := hr
    refine ⟨a, cap, rfl, h1, h2, h3, fun j hj => ?_⟩
    obtain ⟨b, off, us, ha, hs, hl, hn, hrd, h1c⟩ := h4 j hj
    exact ⟨b, off, us, ha, h.still' hs, relL_rext (get j) h.pl us hl, hn, readsAt_ext (h.still b hs).1 hrd, h1c⟩
  | .rp cs, _, _, h, _, hr => by
    simp only [rel] at hr ⊢
    obtain ⟨b, off, us, rfl, hs, hl, hrd⟩ := hr
    exact ⟨b, off, us, rfl, h.still' hs, relL_rext cs h.pl us hl, readsAt_ext (h.still b hs).1 hrd⟩
  | .fn f fs cs, _, _, h, _, hr => by
    simp only [rel] at hr ⊢
    obtain ⟨us, ws, rfl, h1, h2⟩ := hr
    exact ⟨us, ws, rfl, relL_rext fs h us h1, relL_rext cs h ws h2⟩
  | .ic ty x, _, _, h, _, hr => by
    simp only [rel] at hr ⊢
    obtain ⟨y, rfl, h1⟩ := hr
    exact ⟨y, rfl, rel_rext x h y h1⟩
  | .any, _, _, _, _, _ => by simp only [rel]
theorem relL_rext : ∀ (xs : List SV) {E E' : Env} (_ : RExt E E') (us : List Value), relL xs E us → relL xs E' us
  | [], _, _, _, _, hr => by simp only [relL] at hr ⊢; exact hr
  | x :: xs, _, _, h, _, hr => by
    simp only [relL] at hr ⊢
    obtain ⟨y, ys, rfl, h1, h2⟩ := hr
    exact ⟨y, ys, rfl, rel_rext x h y h1, relL_rext xs h ys h2⟩
end

theorem rel_ext (x : SV) {E E' : Env} (h : Ext E E') (u : Value) (hr : rel x E u) : rel x E' u := rel_rext x h.r u hr
theorem relL_ext (xs : List SV) {E E' : Env} (h : Ext E E') (us : List Value) (hr : relL xs E us) : relL xs E' us := relL_rext xs h.r us hr
theorem relL_length {E : Env} : ∀ {xs : List SV} {us : List Value}, relL xs E us → xs.length = us.length
  | [], _, h => by simp only [relL] at h; simp [h]
  | x :: xs, _, h => by
    simp only [relL] at h
    obtain ⟨y, ys, rfl, _, h2⟩ := h
    simp [relL_length h2]
theorem relL_get {E : Env} : ∀ {xs : List SV} {us : List Value}, relL xs E us → ∀ (i : Nat) (x : SV), xs[i]? = some x → ∃ u, us[i]? = some u ∧ rel x E u
  | [], _, _, i, x, hx => by simp at hx
  | y :: xs, _, h, i, x, hx => by
    simp only [relL] at h
    obtain ⟨u, us, rfl, h1, h2⟩ := h
    cases i with
    | zero => simp at hx; subst hx; exact ⟨u, rfl, h1⟩
    | succ i => simp at hx; obtain ⟨u', h3, h4⟩ := relL_get h2 i x hx; exact ⟨u', by simpa using h3, h4⟩
theorem relL_append {E : Env} : ∀ {xs : List SV} {us : List Value} {ys : List SV} {ws : List Value}, relL xs E us → relL ys E ws → relL (xs ++ ys) E (us ++ ws)
  | [], _, _, _, h, k => by simp only [relL] at h; subst h; exact k
  | x :: xs, _, _, _, h, k => by
    simp only [relL] at h
    obtain ⟨u, us, rfl, h1, h2⟩ := h
    show relL (x :: (xs ++ _)) E (u :: (us ++ _))
    simp only [relL]
    exact ⟨u, us ++ _, rfl, h1, relL_append h2 k⟩
theorem relL_take {E : Env} : ∀ (n : Nat) {xs : List SV} {us : List Value}, relL xs E us → relL (xs.take n) E (us.take n)
  | 0, _, _, _ => by simp [relL]
  | n + 1, [], _, h => by simp only [relL] at h; subst h; simp [relL]
  | n + 1, x :: xs, _, h => by
    simp only [relL] at h
    obtain ⟨u, us, rfl, h1, h2⟩ := h
    simp only [List.take_succ_cons, relL]
    exact ⟨u, us.take n, rfl, h1, relL_take n h2⟩
theorem relL_drop {E : Env} : ∀ (n : Nat) {xs : List SV} {us : List Value}, relL xs E us → relL (xs.drop n) E (us.drop n)
  | 0, _, _, h => h
  | n + 1, [], _, h => by simp only [relL] at h; subst h; simp [relL]
  | n + 1, x :: xs, _, h => by
    simp only [relL] at h
    obtain ⟨u, us, rfl, h1, h2⟩ := h
    simp only [List.drop_succ_cons]
    exact relL_drop n h2
theorem relL_set {E : Env} : ∀ (i : Nat) {xs : List SV} {us : List Value} {x : SV} {u : Value}, relL xs E us → rel x E u → relL (xs.set i x) E (us.set i u)
  | _, [], _, _, _, h, _ => by simp only [relL] at h; subst h; simp [relL]
  | 0, y :: xs, _, _, _, h, k => by
    simp only [relL] at h
    obtain ⟨u', us, rfl, h1, h2⟩ := h
    simp only [List.set_cons_zero, relL]
    exact ⟨_, us, rfl, k, h2⟩
  | i + 1, y :: xs, _, _, _, h, k => by
    simp only [relL] at h
    obtain ⟨u', us, rfl, h1, h2⟩ := h
    simp only [List.set_cons_succ, relL]
    exact ⟨u', _, rfl, h1, relL_set i h2 k⟩
theorem relL_nil (E : Env) : relL [] E [] := by simp [relL]
theorem relL_cons {E : Env} {x : SV} {u : Value} {xs : List SV} {us : List Value} (h : rel x E u) (k : relL xs E us) : relL (x :: xs) E (u :: us) := by
  simp only [relL]; exact ⟨u, us, rfl, h, k⟩

-- No block's number from N on.
mutual
def scope (N : Nat) : SV → Bool
  | .p i _ | .o i _ | .e i _ _ _ | .pe i _ _ _ _ => Nat.blt i N
  | .a cs | .t cs => scopeL N cs
  | .fn _ fs cs => scopeL N fs && scopeL N cs
  | .ic _ x => scope N x
  | .v _ | .rs _ _ _ | .rp _ | .any => true
def scopeL (N : Nat) : List SV → Bool
  | [] => true
  | x :: xs => scope N x && scopeL N xs
end
def Env.cut (E : Env) (N : Nat) : Env := { E with ρ := fun i => if i < N then E.ρ i else none, σ := fun i k => if i < N then E.σ i k else none }
theorem cut_pl (E : Env) (N : Nat) : (E.cut N).pl = E.pl := rfl
mutual
theorem rel_cut {N : Nat} : ∀ (x : SV) (E : Env) (u : Value), scope N x = true → rel x E u → rel x (E.cut N) u
  | .v _, _, _, _, hr => hr
  | .p i off, E, _, hs, hr => by
    simp only [rel] at hr ⊢
    obtain ⟨b, hb, rfl⟩ := hr
    exact ⟨b, by simp only [Env.cut]; rw [if_pos (by simpa [scope] using hs)]; exact hb, rfl⟩
  | .o i ver, E, _, hs, hr => by simp only [rel] at hr ⊢; simp only [Env.cut]; rw [if_pos (by simpa [scope] using hs)]; exact hr
  | .e i ver j off, E, _, hs, hr => by
    simp only [rel] at hr ⊢
    obtain ⟨b, o, n, c, sz, h1, h2, rfl⟩ := hr
    refine ⟨b, o, n, c, sz, ?_, ?_, rfl⟩ <;> simp only [Env.cut] <;> rw [if_pos (by simpa [scope] using hs)] <;> assumption
  | .pe i off sz foff ix, E, _, hs, hr => by
    simp only [rel] at hr ⊢
    obtain ⟨b, hb, rfl⟩ := hr
    exact ⟨b, by simp only [Env.cut]; rw [if_pos (by simpa [scope] using hs)]; exact hb, rfl⟩
  | .a cs, E, _, hs, hr => by
    simp only [rel] at hr ⊢
    obtain ⟨us, rfl, hl⟩ := hr
    exact ⟨us, rfl, relL_cut cs E us (by simpa [scope] using hs) hl⟩
  | .t cs, E, _, hs, hr => by
    simp only [rel] at hr ⊢
    obtain ⟨us, rfl, hl⟩ := hr
    exact ⟨us, rfl, relL_cut cs E us (by simpa [scope] using hs) hl⟩
  | .rs sz n get, E, _, _, hr => by simp only [rel] at hr ⊢; exact hr
  | .rp cs, E, _, _, hr => by simp only [rel] at hr ⊢; exact hr
  | .fn f fs cs, E, _, hs, hr => by
    simp only [rel] at hr ⊢
    obtain ⟨us, ws, rfl, h1, h2⟩ := hr
    have hs' : scopeL N fs = true ∧ scopeL N cs = true := by simpa [scope] using hs
    exact ⟨us, ws, rfl, relL_cut fs E us hs'.1 h1, relL_cut cs E ws hs'.2 h2⟩
  | .ic ty x, E, _, hs, hr => by
    simp only [rel] at hr ⊢
    obtain ⟨y, rfl, h1⟩ := hr
    exact ⟨y, rfl, rel_cut x E y (by simpa [scope] using hs) h1⟩
  | .any, _, _, _, _ => by simp only [rel]
theorem relL_cut {N : Nat} : ∀ (xs : List SV) (E : Env) (us : List Value), scopeL N xs = true → relL xs E us → relL xs (E.cut N) us
  | [], _, _, _, hr => by simp only [relL] at hr ⊢; exact hr
  | x :: xs, E, _, hs, hr => by
    simp only [relL] at hr ⊢
    obtain ⟨y, ys, rfl, h1, h2⟩ := hr
    have hs' : scope N x = true ∧ scopeL N xs = true := by simpa [scopeL] using hs
    exact ⟨y, ys, rfl, rel_cut x E y hs'.1 h1, relL_cut xs E ys hs'.2 h2⟩
end
theorem cut_zero (E : Env) : E.cut 0 = E.pl := by
  simp only [Env.cut, Env.pl]
  congr 1
theorem relL_plain {E : Env} {cs : List SV} {us : List Value} (h : scopeL 0 cs = true) (hr : relL cs E us) : relL cs E.pl us := by
  rw [← cut_zero]; exact relL_cut cs E us h hr
theorem ext_pl (E : Env) : Ext E.pl E := ⟨rfl, rfl, rfl, Nat.le_refl _, fun _ _ h => (by cases h), fun _ _ _ h => (by cases h), fun b hb => ⟨rfl, hb.2⟩, fun b hb => ⟨rfl, hb⟩⟩
end Go.Sx
