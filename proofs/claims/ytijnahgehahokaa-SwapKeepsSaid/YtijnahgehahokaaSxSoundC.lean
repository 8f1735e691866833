/- Each operation that only looks comes to what the runner says of it: values that are built, and all of them together. -/
import Derived.Test.YtijnahgehahokaaSxSoundB
set_option linter.unusedVariables false
set_option linter.unusedSimpArgs false
namespace Go.Sx
open Go.RowKit
variable {P : Program} {tab : Tab}

theorem relL_svs (E : Env) : ∀ l : List Value, relL (svs l) E l
  | [] => by simp [svs, relL]
  | x :: l => relL_cons (by simp only [rel]) (relL_svs E l)
theorem oneL_mem : ∀ {l : List SV}, oneL l = true → ∀ x ∈ l, one x = true
  | [], _, _, h => by cases h
  | y :: l, h, x, hx => by
    simp only [oneL, Bool.and_eq_true] at h
    cases hx with
    | head => exact h.1
    | tail _ hm => exact oneL_mem h.2 x hm
theorem one_cell {E : Env} : ∀ {x : SV} {u : Value}, one x = true → rel x E u → u.oneCell' = true
  | .v y, u, h, hr => by
    simp only [rel] at hr
    subst hr
    cases u <;> first | rfl | (simp [one] at h)
  | .p _ _, _, _, hr => by simp only [rel] at hr; obtain ⟨b, _, rfl⟩ := hr; rfl
  | .o _ _, _, _, hr => by simp only [rel] at hr; obtain ⟨_, a, n, c, rfl⟩ := hr; rfl
  | .e _ _ _ _, _, _, hr => by simp only [rel] at hr; obtain ⟨b, o, n, c, sz, _, _, rfl⟩ := hr; rfl
  | .pe _ _ _ _ _, _, _, hr => by simp only [rel] at hr; obtain ⟨b, _, rfl⟩ := hr; rfl
  | .a _, _, h, _ => by simp [one] at h
  | .t _, _, h, _ => by simp [one] at h
  | .rs _ _ _, _, _, hr => by simp only [rel] at hr; obtain ⟨a, c, rfl, _⟩ := hr; rfl
  | .rp _, _, _, hr => by simp only [rel] at hr; obtain ⟨a, c, us, rfl, _⟩ := hr; rfl
  | .fn _ _ _, _, _, hr => by simp only [rel] at hr; obtain ⟨us, ws, rfl, _⟩ := hr; rfl
  | .ic _ _, _, _, hr => by simp only [rel] at hr; obtain ⟨y, rfl, _⟩ := hr; rfl
  | .any, _, h, _ => by simp [one] at h
theorem cells_one {E : Env} : ∀ {cs : List SV} {us : List Value}, oneL cs = true → relL cs E us → ∀ c ∈ us, c.oneCell' = true
  | [], _, _, hr, c, hc => by simp only [relL] at hr; subst hr; cases hc
  | x :: cs, _, h, hr, c, hc => by
    simp only [relL] at hr
    obtain ⟨u, us, rfl, h1, h2⟩ := hr
    simp only [oneL, Bool.and_eq_true] at h
    cases hc with
    | head => exact one_cell h.1 h1
    | tail _ hm => exact cells_one h.2 h2 c hm
theorem cells_of_one {u : Value} (h : u.oneCell' = true) : u.cells = #[u] := by cases u <;> first | rfl | (simp [Value.oneCell'] at h)
theorem cells_ok {E : Env} {x : SV} {u : Value} (h : oneL (cellsOf x) = true) (hr : rel x E u) : relL (cellsOf x) E u.cells.toList ∧ ∀ c ∈ u.cells.toList, c.oneCell' = true := by
  have key : relL (cellsOf x) E u.cells.toList := by
    have hone : cellsOf x = [x] → relL (cellsOf x) E u.cells.toList := fun he => by
      rw [he] at h ⊢
      simp only [oneL, Bool.and_true] at h
      rw [cells_of_one (one_cell h hr)]
      exact relL_cons hr (relL_nil E)
    cases x with
    | a cs =>
      simp only [rel] at hr
      obtain ⟨us, rfl, hc⟩ := hr
      exact hc
    | v y =>
      simp only [rel] at hr
      subst hr
      cases u with
      | agg cs => exact relL_svs E _
      | _ => exact hone rfl
    | _ => exact hone rfl
  exact ⟨key, cells_one h key⟩

theorem setAt_set (off : Nat) : ∀ (vs : List Value) (j : Nat) (cs : Array Value), off + j + vs.length ≤ cs.size →
    ((vs.zipIdx j).foldl (fun cs (x : Value × Nat) => cs.setIfInBounds (off + x.2) x.1) cs).toList = cs.toList.take (off + j) ++ vs ++ cs.toList.drop (off + j + vs.length)
  | [], j, cs, _ => by simp
  | v :: vs, j, cs, h => by
    simp only [List.zipIdx_cons, List.foldl_cons]
    rw [setAt_set off vs (j + 1) _ (by simp at h ⊢; omega)]
    have hlt : off + j < cs.toList.length := by simp at h ⊢; omega
    simp only [Array.toList_setIfInBounds, List.length_cons]
    rw [← Nat.add_assoc off j 1, List.take_succ_eq_append_getElem (by simpa using hlt)]
    rw [List.take_set_of_le (Nat.le_refl _), List.getElem_set_self]
    rw [List.drop_set_of_lt (by omega)]
    rw [List.append_assoc, List.append_assoc, List.singleton_append, List.append_assoc, List.cons_append]
    have e1 : off + j + 1 + vs.length = off + j + (vs.length + 1) := by omega
    rw [e1]

theorem fill_ok {E : Env} {s : Slots} {a : Act} (hs : SlotsOk E s a) (fs : List (Nat × Nat × Bool)) : ∀ (parts : List (Nat × Operand)) (l : List (Nat × List SV)) (cs cs' : List SV) (us : Array Value),
    places s fs parts = some l → fillC cs l = some cs' → relL cs E us.toList →
    ∃ us', Instr.fill (fun i => (fs.map fun x => (x.1, x.2.1))[i]?) us (parts.map fun (i, x) => (i, a.eval x)) = some us' ∧ relL cs' E us'.toList
  | [], l, cs, cs', us, h1, h2, h3 => by
    simp only [places, Option.some.injEq] at h1
    subst h1
    simp only [fillC, Option.some.injEq] at h2
    subst h2
    exact ⟨us, rfl, h3⟩
  | (i, x) :: parts, l, cs, cs', us, h1, h2, h3 => by
    simp only [places] at h1
    split at h1
    case h_2 => cases h1
    rename_i off sz ag l' hfs hl'
    split at h1
    case isFalse => cases h1
    rename_i hc
    simp only [Bool.and_eq_true] at hc
    have hlen := Nat.eq_of_beq_eq_true hc.1
    simp only [Option.some.injEq] at h1
    subst h1
    simp only [fillC] at h2
    split at h2
    case isFalse => cases h2
    rename_i hle
    have hle' := Nat.le_of_ble_eq_true hle
    obtain ⟨k1, k2⟩ := cells_ok hc.2 (opd_ok hs x)
    have hl1 := relL_length k1
    have hl3 := relL_length h3
    have hset := setAt_set off (a.eval x).cells.toList 0 us (by simp at hl1 hl3 ⊢; omega)
    simp only [Nat.add_zero] at hset
    have hz : (a.eval x).cells.toList.zipIdx 0 = (a.eval x).cells.zipIdx.toList := by simp
    have hnext : relL (setAt cs off (cellsOf (opd s x))) E (((a.eval x).cells.zipIdx).foldl (fun cs (c, j) => cs.setIfInBounds (off + j) c) us).toList := by
      rw [← Array.foldl_toList, ← hz]
      rw [hset]
      unfold setAt
      rw [hl1]
      exact relL_append (relL_append (relL_take _ h3) k1) (relL_drop _ h3)
    obtain ⟨us', h5, h6⟩ := fill_ok hs fs parts l' _ cs' _ hl' h2 hnext
    refine ⟨us', ?_, h6⟩
    simp only [List.map_cons, Instr.fill, List.getElem?_map, hfs, Option.map_some]
    have hn1 : (a.eval x).cells.size = sz := by simp at hl1; omega
    rw [if_neg (by simp [hn1] at *; omega)]
    simp only [List.getElem?_map] at h5
    exact h5

theorem evBuild_ok (hT : TabOk P tab) {E : Env} {s : Slots} {a : Act} (hs : SlotsOk E s a) {t : TypeId} {parts : Array (Nat × Operand)} {r : SV} {sc : Prop} (h : evBuild tab s t parts.toList = some (r, sc)) :
    ∃ v, rel r E v ∧ ∀ w', (Instr.build t (parts.map fun (i, x) => (i, a.eval x))).run P w' = .ok v w' := by
  unfold evBuild at h
  split at h
  case h_2 => cases h
  rename_i fs size z by_ hti
  have ht := hT.ty t _ hti
  obtain ⟨d, hd, flds, rfl, hmap, _⟩ := ht.und
  obtain ⟨it, hit, _, hz, _⟩ := ht.info
  split at h
  case h_2 => cases h
  rename_i l hl
  split at h
  case h_2 => cases h
  rename_i cs hcs
  simp only [Option.some.injEq, Prod.mk.injEq] at h
  obtain ⟨rfl, rfl⟩ := h
  have hz0 : relL (zeroCells z) E z.cells.toList := by
    unfold zeroCells
    cases z with
    | agg c => exact relL_svs E _
    | _ => exact relL_cons (by simp only [rel]) (relL_nil E)
  obtain ⟨us, h1, h2⟩ := fill_ok hs fs parts.toList l _ cs z.cells hl hcs hz0
  refine ⟨.agg us, by simp only [rel]; exact ⟨us.toList, by simp, h2⟩, fun w' => run_build w' t _ us ?_⟩
  unfold Program.built
  rw [hit, hd]
  simp only [hz, hmap]
  rw [Array.toList_map]
  simpa using h1

theorem evIndexS_ok (hT : TabOk P tab) {E : Env} {t : TypeId} (hu : P.underlying t = some .string) {x ix r : SV} {u ui : Value} {sc : Prop} (hx : rel x E u) (hi : rel ix E ui) (h : evIndexS std x ix = some (r, sc)) (hsc : sc) :
    ∃ v, rel r E v ∧ ∀ w', (Instr.index t u ui).run P w' = .ok v w' := by
  unfold evIndexS at h
  split at h
  case h_2 => cases h
  rename_i b k i
  simp only [rel] at hx hi
  subst hx hi
  simp only [Option.some.injEq, Prod.mk.injEq] at h
  obtain ⟨rfl, rfl⟩ := h
  simp only [std] at hsc
  have hlt : i.toNat < b.size := by omega
  refine ⟨.int .u8 (b[i.toNat]'hlt).toNat, ?_, fun w' => ?_⟩
  · simp only [rel, std]
    congr 2
    rw [List.getD_eq_getElem?_getD, List.getElem?_eq_getElem (by simpa using hlt)]
    rfl
  · have hb : b[i.toNat]? = some (b[i.toNat]'hlt) := by simp [hlt]
    simp [Instr.index, asIntOf, run_underlying hu, hsc.1, hb]
def Callable (P : Program) (f : FuncId) : Prop := ∃ fn, P.funcs[f]? = some fn ∧ (fn.name == "runtime.NumGoroutine") = false ∧ fn.body.isNone = false
theorem run_callFunc {f : FuncId} (h : Callable P f) (args : Array Value) (w : World) : (callFunc f args).run P w = .ok (.enter f args) w := by
  obtain ⟨fn, h1, h2, h3⟩ := h
  have h2' : ¬ fn.name = "runtime.NumGoroutine" := by simpa using h2
  have h3' : ¬ fn.body = none := by intro e; rw [e] at h3; cases h3
  simp [callFunc, program, Sem.run, h1, h2', h3']
structure KnownOk (P : Program) (Γ : Known) : Prop where
  calls : ∀ f args x sc, Γ f args = some (x, sc) → sc → scopeL 0 args = true → ∀ (E : Env) (vals : List Value), relL args E vals → (∀ b, E.T b → b < E.w.heap.size) →
    Calls P f vals.toArray E.w fun e w' => e = .returned x ∧ Below E.w.heap.size E.w w'
  callable : ∀ f args x sc, Γ f args = some (x, sc) → Callable P f

theorem quiet_value {o : Oper} {a : Act} {C : World → Prop} {w' : World} {u : Value} (h : (execOp a.eval o).run P w' = .ok (.value u) w') : o.quietAt P a C w' u := by
  unfold Oper.quietAt; rw [h]; exact ⟨rfl, rfl⟩

theorem run_max (ats : Array TypeId) (ty : TypeId) (k k' : IntKind) (x y : Int) (w : World) : (Builtin.max_ ats ty #[.int k x, .int k' y]).run P w = .ok (.int k (std.mx x y)) w := by
  simp [Builtin.max_, Builtin.max2, std]
theorem run_min (ats : Array TypeId) (ty : TypeId) (k k' : IntKind) (x y : Int) (w : World) : (Builtin.min_ ats ty #[.int k x, .int k' y]).run P w = .ok (.int k (std.mn x y)) w := by
  simp [Builtin.min_, Builtin.min2, std]

set_option maxHeartbeats 1000000 in
theorem evSlice_ok (hT : TabOk P tab) {E : Env} {x : SV} {u : Value} (hx : rel x E u) {s : Slots} {a : Act} (hs : SlotsOk E s a) {t : TypeId} {lo hi : Option Operand} {r : SV} {sc : Prop}
    (h : evSlice std tab t x (opdO s lo) (opdO s hi) = some (r, sc)) (hsc : sc) : ∃ z, rel r E z ∧ ∀ w : World, (Instr.sliceAt t u (lo.map a.eval) (hi.map a.eval) none).run P w = .ok z w := by
  have ho := opd_ok hs
  have eO : ∀ (lo : Option Operand) (k : IntKind) (l : Int), opdO s lo = some (.v (.int k l)) → lo.map a.eval = some (.int k l) := by
    intro lo k l hl
    cases lo with
    | none => cases hl
    | some y =>
      simp only [opdO, Option.some.injEq] at hl
      have := ho y
      rw [hl] at this
      simp only [rel] at this
      simp [this]
  have eN : ∀ (lo : Option Operand), opdO s lo = none → lo.map a.eval = none := by
    intro lo hl
    cases lo with
    | none => rfl
    | some y => cases hl
  unfold evSlice at h
  split at h
  · rename_i el q1 q2 q3 sz n get hti
    split at h
    case h_2 => cases h
    rename_i ei hei
    split at h
    case isFalse => cases h
    rename_i hb
    have hsz := Nat.eq_of_beq_eq_true hb
    obtain ⟨d, hd, hd'⟩ := (hT.ty _ _ hti).und
    simp only at hd'
    subst hd'
    obtain ⟨ie, hie, hies, _⟩ := (hT.ty el ei hei).info
    have hel : P.elem t = el := by simp [Program.elem, hd]
    have hd2 : P.underlying t = some (.slice (P.elem t)) := by rw [hel]; exact hd
    have hso : ∀ w : World, (sizeOf (P.elem t)).run P w = .ok sz w := by
      intro w; rw [hel]; simp [sizeOf, typeInfo, hie, hies, hsz]
    simp only [rel] at hx
    obtain ⟨a0, cap, rfl, h1, h2, h3, h4⟩ := hx
    have main : ∀ l h : Nat, l ≤ h → h ≤ n → ∀ get', (∀ j, get' j = get (l + j)) → rel (.rs sz (h - l) get') E (sliced a0 l h cap sz) := by
      intro l h hlh hhn get' hg
      simp only [rel]
      refine ⟨_, cap - l, rfl, by omega, by omega, fun hn => ?_, fun j hj => ?_⟩
      · by_cases e : cap = l
        · omega
        · rw [if_neg e] at hn
          have : a0 = none := by cases a0 <;> simp_all
          have := h3 this
          omega
      · obtain ⟨b, off, us, rfl, k1, k2, k3, k4, k5⟩ := h4 (l + j) (by omega)
        refine ⟨b, off + l * sz, us, ?_, k1, by rw [hg]; exact k2, k3, ?_, k5⟩
        · rw [if_neg (by omega), Option.map_some, Addr.add_mid]
        · have e : off + l * sz + j * sz = off + (l + j) * sz := by rw [Nat.add_mul]; omega
          rw [e]; exact k4
    split at h
    · rename_i hlo hhi
      simp only [Option.some.injEq, Prod.mk.injEq] at h
      obtain ⟨rfl, rfl⟩ := h
      refine ⟨sliced a0 0 n cap sz, by simpa using main 0 n (by omega) (by omega) get (by simp), fun w => ?_⟩
      rw [eN _ hlo, eN _ hhi, run_sliceAt_slice w t _ _ _ _ hd2, run_slice_all w t _ _ _ hd2, hso]; rfl
    · rename_i k h' hlo hhi
      simp only [Option.some.injEq, Prod.mk.injEq] at h
      obtain ⟨rfl, rfl⟩ := h
      simp only [std] at hsc ⊢
      refine ⟨sliced a0 0 h'.toNat cap sz, by simpa using main 0 h'.toNat (by omega) (by omega) get (by simp), fun w => ?_⟩
      rw [eN _ hlo, eO _ _ _ hhi, run_sliceAt_slice w t _ _ _ _ hd2, run_slice_h w t _ _ _ hd2 _ _ (by omega) (by omega), hso]; rfl
    · rename_i k l hlo hhi
      simp only [Option.some.injEq, Prod.mk.injEq] at h
      obtain ⟨rfl, rfl⟩ := h
      simp only [std] at hsc ⊢
      refine ⟨sliced a0 l.toNat n cap sz, main l.toNat n (by omega) (by omega) _ (fun _ => rfl), fun w => ?_⟩
      rw [eO _ _ _ hlo, eN _ hhi, run_sliceAt_slice w t _ _ _ _ hd2, run_slice_l w t _ _ _ hd2 _ _ (by omega) (by omega), hso]; rfl
    · rename_i k l k' h' hlo hhi
      simp only [Option.some.injEq, Prod.mk.injEq] at h
      obtain ⟨rfl, rfl⟩ := h
      simp only [std] at hsc ⊢
      refine ⟨sliced a0 l.toNat h'.toNat cap sz, main l.toNat h'.toNat (by omega) (by omega) _ (fun _ => rfl), fun w => ?_⟩
      rw [eO _ _ _ hlo, eO _ _ _ hhi, run_sliceAt_slice w t _ _ _ _ hd2, run_slice_lh w t _ _ _ hd2 _ _ _ _ (by omega) (by omega) (by omega), hso]; rfl
    · cases h
  · rename_i q1 q2 q3 b hti
    obtain ⟨d, hd, hd'⟩ := (hT.ty _ _ hti).und
    simp only at hd'
    subst hd'
    simp only [rel] at hx
    subst hx
    split at h
    · rename_i k h' hlo hhi
      simp only [Option.some.injEq, Prod.mk.injEq] at h
      obtain ⟨rfl, rfl⟩ := h
      simp only [std] at hsc ⊢
      refine ⟨_, by simp only [rel]; rfl, fun w => ?_⟩
      rw [eN _ hlo, eO _ _ _ hhi, run_sliceAt_string w t _ _ _ _ hd, run_slice_string_h w t _ hd _ _ (by omega) (by omega)]; rfl
    · rename_i k l hlo hhi
      simp only [Option.some.injEq, Prod.mk.injEq] at h
      obtain ⟨rfl, rfl⟩ := h
      simp only [std] at hsc ⊢
      refine ⟨_, by simp only [rel]; rfl, fun w => ?_⟩
      rw [eO _ _ _ hlo, eN _ hhi, run_sliceAt_string w t _ _ _ _ hd, run_slice_string_l w t _ hd _ _ (by omega) (by omega)]; rfl
    · rename_i k l k' h' hlo hhi
      simp only [Option.some.injEq, Prod.mk.injEq] at h
      obtain ⟨rfl, rfl⟩ := h
      simp only [std] at hsc ⊢
      refine ⟨_, by simp only [rel]; rfl, fun w => ?_⟩
      rw [eO _ _ _ hlo, eO _ _ _ hhi, run_sliceAt_string w t _ _ _ _ hd, run_slice_string w t _ _ _ _ _ hd (by omega) (by omega) (by omega)]
    · cases h
  · cases h
set_option maxHeartbeats 1000000 in
theorem evalQ_ok2 (hT : TabOk P tab) {Γ : Known} (hΓ : KnownOk P Γ) {E : Env} {H : Heap} (hO : Ok H E) {s : Slots} {a : Act} (hs : SlotsOk E s a) {o : Oper} {r : SV} {sc : Prop}
    (h : evalQ std tab Γ s H o.op = some (r, sc)) (hsc : sc) :
    ∃ u, rel r E u ∧ ((∀ w', Below E.w.heap.size E.w w' → (execOp a.eval o).run P w' = .ok (.value u) w') ∨ (isVC o.op = true ∧ ∀ w', Below E.w.heap.size E.w w' → Oper.quietAt P o a (Below E.w.heap.size E.w) w' u)) := by
  obtain ⟨dst, op, type, pos, after, guard⟩ := o
  simp only at h
  have ho := opd_ok hs
  unfold evalQ at h
  split at h
  · simp only [Option.some.injEq, Prod.mk.injEq] at h
    obtain ⟨rfl, rfl⟩ := h
    exact ⟨_, ho _, Or.inl fun w' _ => (by simp [execOp])⟩
  · simp only [Option.some.injEq, Prod.mk.injEq] at h
    obtain ⟨rfl, rfl⟩ := h
    exact ⟨_, ho _, Or.inl fun w' _ => (by simp [execOp])⟩
  · rename_i c x y
    unfold evPick at h
    split at h
    case h_2 => cases h
    rename_i c' x' y' h1 h2 h3
    have k1 := ho c; have k2 := ho x; have k3 := ho y
    rw [h1] at k1; rw [h2] at k2; rw [h3] at k3
    simp only [rel] at k1 k2 k3
    simp only [Option.some.injEq, Prod.mk.injEq] at h
    obtain ⟨rfl, rfl⟩ := h
    refine ⟨_, by simp only [rel]; rfl, Or.inl fun w' _ => ?_⟩
    simp only [execOp, k1, k2, k3, asBool, Sem.run_bind, Sem.run_pure, Result.andThen_ok, std]
    cases c' <;> simp
  · rename_i op' t x
    unfold evUn at h
    split at h
    case h_3 => cases h
    · rename_i b hb
      have k1 := ho x
      rw [hb] at k1
      simp only [rel] at k1
      simp only [Option.some.injEq, Prod.mk.injEq] at h
      obtain ⟨rfl, rfl⟩ := h
      exact ⟨_, by simp only [rel]; rfl, Or.inl fun w' _ => (by simp [execOp, k1, Op.unary, std])⟩
    · rename_i k n hb
      have k1 := ho x
      rw [hb] at k1
      simp only [rel] at k1
      simp only [Option.some.injEq, Prod.mk.injEq] at h
      obtain ⟨rfl, rfl⟩ := h
      exact ⟨_, by simp only [rel]; rfl, Or.inl fun w' _ => (by simp [execOp, k1, Op.unary, Op.intArith, std])⟩
  · rename_i src dst' x
    unfold evConv at h
    split at h
    case h_2 => cases h
    rename_i k size z by_ k' n hsrc hdst hb
    have k1 := ho x
    rw [hb] at k1
    simp only [rel] at k1
    simp only [Option.some.injEq, Prod.mk.injEq] at h
    obtain ⟨rfl, rfl⟩ := h
    obtain ⟨d, hd, hd'⟩ := (hT.ty _ _ hdst).und
    simp only at hd'
    subst hd'
    obtain ⟨d2, hd2, _⟩ := (hT.ty _ _ hsrc).und
    exact ⟨_, by simp only [rel]; rfl, Or.inl fun w' _ => (by simp [execOp, k1, convert, run_underlying hd, run_underlying hd2, Conv.intToInt, std])⟩
  · rename_i op' t x y yt
    obtain ⟨z, h1, h2⟩ : ∃ z, rel r E z ∧ ∀ (p q : Operand) w', (do eqGuard op' t p q (a.eval x) (a.eval y); binOp op' t (a.eval x) (a.eval y) : Sem Value).run P w' = .ok z w' := by
      split at h
      · rename_i rr hrr
        cases h
        exact evBin_ok (P := P) (fun ti hti => hT.ty t ti hti) (ho x) (ho y) hrr hsc
      · exact evEq_ok hT (ho x) (ho y) h
    refine ⟨z, h1, Or.inl fun w' _ => ?_⟩
    have := h2 x y w'
    simp only [execOp, Sem.run_bind] at this ⊢
    rw [this]; rfl
  · rename_i st x f
    obtain ⟨z, h1, h2⟩ := evFieldAddr_ok hT (ho x) h
    exact ⟨z, h1, Or.inl fun w' _ => (by simp only [execOp, Sem.run_bind, h2]; rfl)⟩
  · rename_i st x f
    obtain ⟨z, h1, h2⟩ := evField_ok hT (ho x) h
    exact ⟨z, h1, Or.inl fun w' _ => (by simp only [execOp, Sem.run_bind, h2]; rfl)⟩
  · rename_i t x
    obtain ⟨z, h1, h2⟩ := evLoad_ok hT hO (ho x) h hsc
    exact ⟨z, h1, Or.inl fun w' hw => (by simp only [execOp, Sem.run_bind, h2 w' hw]; rfl)⟩
  · rename_i t x k i
    split at h
    · rename_i rr hrr
      cases h
      obtain ⟨z, h1, h2⟩ := evIndexAddrC_ok hT (k := k) (ho x) hrr
      exact ⟨z, h1, Or.inl fun w' _ => (by simp only [execOp, Sem.run_bind]; rw [show a.eval (.const (.int k i)) = .int k i from rfl, h2]; rfl)⟩
    · obtain ⟨z, h1, h2⟩ := evIndexAddr_ok hT hO (ho x) (ho (.const (.int k i))) h hsc
      exact ⟨z, h1, Or.inl fun w' _ => (by simp only [execOp, Sem.run_bind, h2]; rfl)⟩
  · rename_i t x ix hne
    obtain ⟨z, h1, h2⟩ := evIndexAddr_ok hT hO (ho x) (ho ix) h hsc
    exact ⟨z, h1, Or.inl fun w' _ => (by simp only [execOp, Sem.run_bind, h2]; rfl)⟩
  · rename_i t x ix
    split at h
    case h_2 => cases h
    rename_i size z by_ hti
    obtain ⟨d, hd, hd'⟩ := (hT.ty _ _ hti).und
    simp only at hd'
    subst hd'
    obtain ⟨z, h1, h2⟩ := evIndexS_ok hT hd (ho x) (ho ix) h hsc
    exact ⟨z, h1, Or.inl fun w' _ => (by simp only [execOp, Sem.run_bind, h2]; rfl)⟩
  · rename_i x i
    unfold evExtract at h
    split at h
    case h_2 => cases h
    rename_i cs hcs
    split at h
    case h_2 => cases h
    rename_i rr hr
    simp only [Option.some.injEq, Prod.mk.injEq] at h
    obtain ⟨rfl, rfl⟩ := h
    have k1 := ho x
    rw [hcs] at k1
    simp only [rel] at k1
    obtain ⟨us, hus, hc⟩ := k1
    obtain ⟨u, hu, hru⟩ := relL_get hc i _ hr
    exact ⟨u, hru, Or.inl fun w' _ => (by simp [execOp, hus, Instr.extract, hu])⟩
  · rename_i t x lo hi
    obtain ⟨z, h1, h2⟩ := evSlice_ok hT (ho x) hs h hsc
    exact ⟨z, h1, Or.inl fun w' _ => (by simp only [execOp, Sem.run_bind, Option.map_none, h2]; rfl)⟩
  · rename_i t parts
    obtain ⟨z, h1, h2⟩ := evBuild_ok hT hs h
    exact ⟨z, h1, Or.inl fun w' _ => (by simp only [execOp, Sem.run_bind, h2]; rfl)⟩
  · rename_i x
    unfold evNil at h
    have k1 := ho x
    split at h <;> (try (cases h; done)) <;> rename_i hx <;> simp only [Option.some.injEq, Prod.mk.injEq] at h <;> obtain ⟨rfl, rfl⟩ := h <;> rw [hx] at k1 <;> refine ⟨_, k1, Or.inl fun w' _ => ?_⟩ <;> simp only [rel] at k1
    · obtain ⟨b, _, he⟩ := k1; simp [execOp, he]
    · obtain ⟨b, off, us, he, _⟩ := k1; simp [execOp, he]
    · obtain ⟨us, ws, he, _⟩ := k1; simp [execOp, he]
  · rename_i f first captured
    simp only [Option.some.injEq, Prod.mk.injEq] at h
    obtain ⟨rfl, rfl⟩ := h
    refine ⟨.func (.func f) (first.map a.eval) (captured.map a.eval), ?_, Or.inl fun w' _ => (by simp [execOp, Instr.makeFunc])⟩
    simp only [rel]
    exact ⟨first.toList.map a.eval, captured.toList.map a.eval, by simp [← Array.toList_map], opds_ok hs _, opds_ok hs _⟩
  · rename_i args ats
    split at h
    case h_2 => cases h
    rename_i x hx
    have k1 := opds_ok hs args.toList
    rw [hx] at k1
    simp only [relL] at k1
    obtain ⟨u, us, hu, hru, rfl⟩ := k1
    obtain ⟨z, h1, h2⟩ := evLen_ok hT hO (ty := type) hru h hsc
    refine ⟨z, h1, Or.inl fun w' _ => ?_⟩
    have hm : args.map a.eval = #[u] := by apply Array.toList_inj.1; rw [Array.toList_map]; exact hu
    simp only [execOp, resolve, Sem.run_bind, Sem.run_pure, Result.andThen_ok, invoke, builtin, hm, h2]
  · rename_i args ats
    split at h
    case h_2 => cases h
    rename_i k x k' y hx
    have k1 := opds_ok hs args.toList
    rw [hx] at k1
    simp only [relL, rel] at k1
    obtain ⟨u, us, hu, rfl, u2, us2, rfl, rfl, rfl⟩ := k1
    simp only [Option.some.injEq, Prod.mk.injEq] at h
    obtain ⟨rfl, rfl⟩ := h
    refine ⟨_, by simp only [rel]; rfl, Or.inl fun w' _ => ?_⟩
    have hm : args.map a.eval = #[.int k x, .int k' y] := by apply Array.toList_inj.1; rw [Array.toList_map]; exact hu
    simp only [execOp, resolve, Sem.run_bind, Sem.run_pure, Result.andThen_ok, invoke, builtin, hm, run_max]
  · rename_i args ats
    split at h
    case h_2 => cases h
    rename_i k x k' y hx
    have k1 := opds_ok hs args.toList
    rw [hx] at k1
    simp only [relL, rel] at k1
    obtain ⟨u, us, hu, rfl, u2, us2, rfl, rfl, rfl⟩ := k1
    simp only [Option.some.injEq, Prod.mk.injEq] at h
    obtain ⟨rfl, rfl⟩ := h
    refine ⟨_, by simp only [rel]; rfl, Or.inl fun w' _ => ?_⟩
    have hm : args.map a.eval = #[.int k x, .int k' y] := by apply Array.toList_inj.1; rw [Array.toList_map]; exact hu
    simp only [execOp, resolve, Sem.run_bind, Sem.run_pure, Result.andThen_ok, invoke, builtin, hm, run_min]
  · rename_i f args ats
    split at h
    case h_2 => cases h
    rename_i x sc' hsco hx
    simp only [Option.some.injEq, Prod.mk.injEq] at h
    obtain ⟨rfl, rfl⟩ := h
    refine ⟨x, by simp only [rel], .inr ⟨rfl, fun w' hw => ?_⟩⟩
    have hrel := relL_ext _ (ext_grow hw hO.flt) _ (opds_ok hs args.toList)
    have hc := hΓ.calls f _ x sc' hx hsc hsco (E.grow w') _ hrel (fun b hb => Nat.lt_of_lt_of_le (hO.tlt b hb) hw.size)
    unfold Oper.quietAt
    have hm : (#[] ++ args.map a.eval ++ #[] : Array Value) = (args.toList.map a.eval).toArray := by apply Array.toList_inj.1; simp
    have hrun : (execOp a.eval { dst, op := .call { callee := .value (.func f), args, argTypes := ats }, type, pos, after, guard }).run P w' = .ok (.enter f (args.toList.map a.eval).toArray) w' := by
      rw [execOp_call_go, hm]; exact run_callFunc (hΓ.callable f _ _ _ hx) _ _
    rw [hrun]
    exact ⟨rfl, hc.mono fun e w'' ⟨he, hb⟩ => ⟨he, hw.trans (hb.mono hw.size)⟩⟩
  · cases h
theorem evalQ_ok (hT : TabOk P tab) {Γ : Known} (hΓ : KnownOk P Γ) {E : Env} {H : Heap} (hO : Ok H E) {s : Slots} {a : Act} (hs : SlotsOk E s a) {o : Oper} {r : SV} {sc : Prop}
    (h : evalQ std tab Γ s H o.op = some (r, sc)) (hsc : sc) :
    ∃ u, rel r E u ∧ ∀ w', Below E.w.heap.size E.w w' → Oper.quietAt P o a (Below E.w.heap.size E.w) w' u := by
  obtain ⟨u, h1, h2⟩ := evalQ_ok2 hT hΓ hO hs h hsc
  refine ⟨u, h1, fun w' hw => ?_⟩
  rcases h2 with h2 | ⟨_, h2⟩
  · exact quiet_value (h2 w' hw)
  · exact h2 w' hw
end Go.Sx
