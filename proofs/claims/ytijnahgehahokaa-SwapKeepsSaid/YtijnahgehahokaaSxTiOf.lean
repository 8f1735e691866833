/- How a program's table of types is told to the runner. -/
import Derived.Test.YtijnahgehahokaaSxSoundH
set_option linter.unusedVariables false
namespace Go.Sx
variable {P : Program}
def fieldsOf (P : Program) : List Field → Option (List (Nat × Nat × Bool))
  | [] => some []
  | f :: r =>
    match P.info? f.type, P.underlying f.type, fieldsOf P r with
    | some i, some d, some l => some ((f.offset, i.size, d.isRow) :: l)
    | _, _, _ => none
def tdOf (P : Program) : TypeDesc → Option TD
  | .bool => some .bool
  | .int k => some (.int k)
  | .string => some .str
  | .pointer _ => some .ptr
  | .slice e => some (.sl e)
  | .array n e => match P.info? e, P.underlying e with | some i, some d => some (.arr n i.size d.isRow) | _, _ => none
  | .struct fs => match fieldsOf P fs.toList with | some l => some (.st l) | none => none
  | _ => some .sc
def tiOf (P : Program) (t : TypeId) : Option TI :=
  match P.info? t, P.underlying t with
  | some i, some d =>
    match i.zero, tdOf P d with
    | some z, some td => if z.cells.size == i.size then some ⟨td, i.size, z, i.bytes⟩ else none
    | _, _ => none
  | _, _ => none
theorem fieldsOf_ok : ∀ {l : List Field} {fs : List (Nat × Nat × Bool)}, fieldsOf P l = some fs →
    l.mapM (fun f => (P.info? f.type).map fun i => (f.offset, i.size)) = some (fs.map fun x => (x.1, x.2.1)) ∧
    ∀ (k off sz : Nat) (ag : Bool), fs[k]? = some (off, sz, ag) → ∃ (f : Field) (fi : TypeInfo) (fd : TypeDesc), l[k]? = some f ∧ f.offset = off ∧ P.info? f.type = some fi ∧ fi.size = sz ∧ P.underlying f.type = some fd ∧ fd.isRow = ag
  | [], fs, h => by
    simp only [fieldsOf, Option.some.injEq] at h
    subst h
    exact ⟨rfl, fun k _ _ _ h => by simp at h⟩
  | f :: r, fs, h => by
    unfold fieldsOf at h
    split at h
    case h_2 => cases h
    rename_i i d l hi hd hl
    simp only [Option.some.injEq] at h
    subst h
    obtain ⟨h1, h2⟩ := fieldsOf_ok hl
    refine ⟨by simp [hi, h1], fun k off sz ag hk => ?_⟩
    cases k with
    | zero =>
      simp only [List.getElem?_cons_zero, Option.some.injEq, Prod.mk.injEq] at hk
      obtain ⟨rfl, rfl, rfl⟩ := hk
      exact ⟨f, i, d, rfl, rfl, hi, rfl, hd, rfl⟩
    | succ k =>
      obtain ⟨f', fi, fd, q1, q2⟩ := h2 k off sz ag (by simpa using hk)
      exact ⟨f', fi, fd, by simpa using q1, q2⟩
theorem tiOf_ok {t : TypeId} {ti : TI} (h : tiOf P t = some ti) : TIok P t ti := by
  unfold tiOf at h
  split at h
  case h_2 => cases h
  rename_i i d hi hd
  split at h
  case h_2 => cases h
  rename_i z td hz htd
  split at h
  case isFalse => cases h
  rename_i hs
  simp only [Option.some.injEq] at h
  subst h
  refine ⟨by simpa using hs, ⟨i, hi, rfl, hz, rfl⟩, ⟨d, hd, ?_⟩⟩
  unfold tdOf at htd
  split at htd
  · cases htd; rfl
  · cases htd; rfl
  · cases htd; rfl
  · rename_i e; cases htd; exact ⟨e, rfl⟩
  · cases htd; rfl
  · rename_i n e
    split at htd
    case h_2 => cases htd
    rename_i i' d' hi' hd'
    cases htd
    exact ⟨e, i', rfl, hi', rfl⟩
  · rename_i fs
    split at htd
    case h_2 => cases htd
    rename_i l hl
    cases htd
    obtain ⟨h1, h2⟩ := fieldsOf_ok hl
    exact ⟨fs, rfl, h1, fun k off sz ag hk => by simpa using h2 k off sz ag hk⟩
  · cases htd
    cases d <;> first | rfl | simp_all
theorem lk_of {α : Type} {l : List (Nat × α)} {f : Nat → Option α} (h : l.map (fun x => f x.1) = l.map (fun x => some x.2)) {t : Nat} {x : α} (hl : lk l t = some x) : f t = some x := by
  have hm := lk_mem hl
  have := List.map_inj_left.1 h (t, x) hm
  exact this
def lexOfL (lx : List (Nat × List Nat)) (f : Nat) : List Nat := match lk lx f with | some l => l | none => []
def tailOfL (tl : List (Nat × List (Nat × Nat × List Nat × Bool))) (f : Nat) : List (Nat × Nat × List Nat × Bool) := match lk tl f with | some l => l | none => []
theorem tabOk {tys : List (Nat × TI)} {fns : List (Nat × Func)} {c : Bool} {jn lx eq : List (Nat × List Nat)} {tl : List (Nat × List (Nat × Nat × List Nat × Bool))} {gh : List (Nat × List (Nat × Nat × Nat × Nat))} (h1 : tys.map (fun x => tiOf P x.1) = tys.map (fun x => some x.2)) (h2 : fns.map (fun x => P.funcs[x.1]?) = fns.map (fun x => some x.2))
    (h3 : fns.all (fun x => !(x.2.name == "runtime.NumGoroutine")) = true) (h4 : P.follows .mixedOrders = true) (h5 : eq.all (fun x => eqOk P x.1 x.2) = true)
    (h6 : fns.all (fun x => match x.2.body with | some c => lexAll (lexOfL lx x.1) (tailOfL tl x.1) c | none => true) = true) : TabOk P ⟨tys, fns, c, jn, lx, tl, gh, eq⟩ := by
  refine ⟨fun t ti h => tiOf_ok (lk_of (f := fun t => tiOf P t) h1 h), fun f fn h => ⟨lk_of (f := fun f => P.funcs[f]?) h2 h, ?_⟩, h4, fun f fn c hf hc => ?_, fun t ks h => List.all_eq_true.1 h5 (t, ks) (lk_mem h)⟩
  · have := List.all_eq_true.1 h3 (f, fn) (lk_mem h)
    simpa using this
  · have := List.all_eq_true.1 h6 (f, fn) (lk_mem hf)
    simp only [hc] at this
    exact this
end Go.Sx
