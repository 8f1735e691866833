/- What the runner's state says of the model's: the slots, the blocks that may be written, and how both stand as the world goes on. -/
import Derived.Test.YtijnahgehahokaaSxRun
set_option linter.unusedVariables false
namespace Go.Sx

def blk (E : Env) (i : Nat) : HB → Option Nat
  | .cells _ _ => E.ρ i
  | .row _ _ _ _ ver => (E.σ i ver).bind Value.ownBlock
  | .buf _ _ => E.ρ i
  | .gone => none
def hbok (E : Env) (i : Nat) : HB → Prop
  | .cells cs ty => ∃ b us, E.ρ i = some b ∧ E.T b ∧ E.w.heap[b]? = some (.cells (List.toArray us) ty (0, 0)) ∧ relL cs E us
  | .row ty sz n get ver => ∃ u xs, E.σ i ver = some u ∧ E.ρ i = some sz ∧ E.w.ownsRow 0 ty sz u n xs ∧ (∀ g, u.ownBlock = some g → E.T g) ∧
      (∀ x, x ∈ xs → x.oneCell' = true) ∧ ∀ j, j < n → relL (get j) E.pl ((xs.drop (j * sz)).take sz)
  | .buf n get => ∃ b cs ty c, E.ρ i = some b ∧ E.T b ∧ E.w.heap[b]? = some (.cells cs ty (cs.size, cs.size + 1)) ∧ n ≤ cs.size ∧ E.σ i 0 = some (.slice (some ⟨b, 0, none⟩) n c) ∧
      ∀ j, j < n → cs[j]? = some (.int .u8 (get j))
  | .gone => True
structure Ok (H : Heap) (E : Env) : Prop where
  blocks : ∀ i hb, H[i]? = some hb → hbok E i hb
  fresh : ∀ i, H.length ≤ i → E.ρ i = none ∧ ∀ k, E.σ i k = none
  ver : ∀ i ty sz n get ver, H[i]? = some (.row ty sz n get ver) → ∀ k, ver < k → E.σ i k = none
  sep : ∀ i j hi hj b, i ≠ j → H[i]? = some hi → H[j]? = some hj → blk E i hi = some b → blk E j hj ≠ some b
  tlt : ∀ b, E.T b → b < E.w.heap.size
  fsub : ∀ b, E.F b → E.T b
  fown : ∀ (i : Nat) (hb : HB) (b : Nat), H[i]? = some hb → blk E i hb = some b → ¬ E.F b

/-- What each slot holds. -/
def SlotsOk (E : Env) (s : Slots) (a : Act) : Prop := ∀ t, rel (look s t) E (a.tmps.getD t undef)

theorem rel_any (E : Env) (u : Value) : rel .any E u := by simp only [rel]
theorem SlotsOk.ext {E E' : Env} (h : Ext E E') {s : Slots} {a : Act} (k : SlotsOk E s a) : SlotsOk E' s a := fun t => rel_ext _ h _ (k t)

theorem SlotsOk.put {E : Env} {s : Slots} {a : Act} (k : SlotsOk E s a) {d : Option Nat} {x : SV} {u : Value} (hr : rel x E u) {nt : Nat} (hn : a.tmps.size = nt) (hd : dstOk nt d = true) :
    SlotsOk E (putS d x s) (a.put d u) := by
  cases d with
  | none => exact k
  | some d =>
    have hlt : d < a.tmps.size := by simp only [dstOk] at hd; rw [hn]; exact Nat.blt_eq.mp hd
    intro t
    simp only [putS, look, Act.put]
    by_cases e : d = t
    · subst e
      have : Nat.beq d d = true := Nat.beq_refl d
      rw [if_pos this]
      simpa [Array.getD_eq_getD_getElem?, hlt] using hr
    · rw [if_neg (by intro h; exact e (Nat.eq_of_beq_eq_true h))]
      have := k t
      simpa [Array.getD_eq_getD_getElem?, Array.getElem?_setIfInBounds, e] using this
theorem put_size (a : Act) (d : Option Nat) (u : Value) : (a.put d u).tmps.size = a.tmps.size := by cases d <;> simp [Act.put]
theorem put_defers (a : Act) (d : Option Nat) (u : Value) : (a.put d u).defers = a.defers := by cases d <;> simp [Act.put]
theorem SlotsOk.put_any {E : Env} {s : Slots} {a : Act} (k : SlotsOk E s a) {d : Nat} {u : Value} : SlotsOk E ((d, .any) :: s) (a.put (some d) u) := by
  intro t
  simp only [look, Act.put]
  by_cases e : d = t
  · subst e
    rw [if_pos (Nat.beq_refl d)]; exact rel_any _ _
  · rw [if_neg (by intro h; exact e (Nat.eq_of_beq_eq_true h))]
    have := k t
    simpa [Array.getD_eq_getD_getElem?, Array.getElem?_setIfInBounds, e] using this

/-- More memory, all that was there as it was. -/
def Env.grow (E : Env) (w' : World) : Env := { E with w := w' }
theorem grow_self (E : Env) : E.grow E.w = E := rfl
open Go.RowKit in
theorem ext_grow {E : Env} {w' : World} (h : Below E.w.heap.size E.w w') (hF : ∀ b, E.F b → b < E.w.heap.size) : Ext E (E.grow w') :=
  ⟨h.os, h.tape, h.output, h.size, fun _ _ h => h, fun _ _ _ h => h, fun b hb => ⟨h.block b hb.1, hb.2⟩, fun b hb => ⟨h.block b (hF b hb), hb⟩⟩
open Go.RowKit in
theorem ok_grow {E : Env} {w' : World} (h : Below E.w.heap.size E.w w') {H : Heap} (k : Ok H E) : Ok H (E.grow w') := by
  have hx := ext_grow h (fun b hb => k.tlt b (k.fsub b hb))
  refine ⟨fun i hb hi => ?_, k.fresh, k.ver, fun i j hi hj b hne h1 h2 h3 h4 => k.sep i j hi hj b hne h1 h2 ?_ ?_, fun b hb => Nat.lt_of_lt_of_le (k.tlt b hb) h.size, k.fsub, fun i hb b h1 h2 => k.fown i hb b h1 (by cases hb <;> exact h2)⟩
  · have := k.blocks i hb hi
    cases hb with
    | cells cs ty =>
      obtain ⟨b, us, h1, h2, h3, h4⟩ := this
      exact ⟨b, us, h1, h2, (h.block b (k.tlt b h2)).trans h3, relL_ext _ hx _ h4⟩
    | row ty sz n get ver =>
      obtain ⟨u, xs, h1, h0, h2, h3, h5, h4⟩ := this
      refine ⟨u, xs, h1, h0, ?_, h3, h5, fun j hj => relL_ext _ hx.pl _ (h4 j hj)⟩
      have hg : E.w.grownBy w' none := ⟨h.os, h.tape, h.output, h.size, fun b hb _ => h.block b hb⟩
      refine h2.kept hg ?_
      cases hv : u.ownBlock <;> simp
    | buf n get =>
      obtain ⟨b, cs, ty, c, h1, h2, h3, h4, h5, h6⟩ := this
      exact ⟨b, cs, ty, c, h1, h2, (h.block b (k.tlt b h2)).trans h3, h4, h5, h6⟩
    | gone => trivial
  · cases hi <;> exact h3
  · cases hj <;> exact h4

theorem Ok.flt {H : Heap} {E : Env} (k : Ok H E) : ∀ b, E.F b → b < E.w.heap.size := fun b hb => k.tlt b (k.fsub b hb)

/-- What a call of the program's own leaves. -/
structure TIok (P : Program) (t : TypeId) (ti : TI) : Prop where
  zsz : ti.zero.cells.size = ti.size
  info : ∃ i, P.info? t = some i ∧ i.size = ti.size ∧ i.zero = some ti.zero ∧ i.bytes = ti.bytes
  und : ∃ d, P.underlying t = some d ∧
    match ti.td with
    | .int k => d = .int k
    | .str => d = .string
    | .bool => d = .bool
    | .ptr => ∃ e, d = .pointer e
    | .sc => d.isRow = false
    | .st fs => ∃ flds : Array Field, d = .struct flds ∧ flds.toList.mapM (fun f => (P.info? f.type).map fun i => (f.offset, i.size)) = some (fs.map fun x => (x.1, x.2.1)) ∧
        ∀ (k off sz : Nat) (ag : Bool), fs[k]? = some (off, sz, ag) → ∃ (f : Field) (fi : TypeInfo) (fd : TypeDesc), flds[k]? = some f ∧ f.offset = off ∧ P.info? f.type = some fi ∧ fi.size = sz ∧ P.underlying f.type = some fd ∧ fd.isRow = ag
    | .arr len sz ag => ∃ (e : TypeId) (ei : TypeInfo), d = .array len e ∧ P.info? e = some ei ∧ ei.size = sz
    | .sl e => d = .slice e
end Go.Sx
