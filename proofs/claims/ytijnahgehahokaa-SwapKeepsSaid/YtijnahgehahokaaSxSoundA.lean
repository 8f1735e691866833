/- Each operation that only looks comes to what the runner says of it, in whatever world has grown out of the one at hand. -/
import Derived.Test.YtijnahgehahokaaSxState
set_option linter.unusedVariables false
set_option linter.unusedSimpArgs false
namespace Go.Sx
open Go.RowKit

/-- The leaves as Go reckons with them. -/
def std : Leaf where
  ar op k x y := match op with
    | .add => k.wrap (x + y) | .sub => k.wrap (x - y) | .mul => k.wrap (x * y)
    | .quo => k.wrap (x.tdiv y) | .rem => x.tmod y
    | .and => k.wrap (BitVec.ofInt k.bits x &&& BitVec.ofInt k.bits y).toNat
    | .or => k.wrap (BitVec.ofInt k.bits x ||| BitVec.ofInt k.bits y).toNat
    | .xor => k.wrap (BitVec.ofInt k.bits x ^^^ BitVec.ofInt k.bits y).toNat
    | .andNot => k.wrap (BitVec.ofInt k.bits x &&& ~~~ BitVec.ofInt k.bits y).toNat
    | .shl => k.wrap (x * 2 ^ min y.toNat k.bits) | .shr => x.fdiv (2 ^ min y.toNat k.bits)
    | _ => 0
  cmp op x y := match op with
    | .eql => x == y | .neq => x != y | .lss => decide (x < y) | .leq => decide (x ≤ y) | .gtr => decide (x > y) | .geq => decide (x ≥ y)
    | _ => false
  neg k n := k.wrap (0 - n)
  cv k n := k.wrap n
  mx x y := if y > x then y else x
  mn x y := if y < x then y else x
  not b := !b
  ite c a b := if c then a else b
  beq a b := a == b
  scmp op a b := match op with
    | .eql => a.toList == b.toList | .neq => !(a.toList == b.toList) | .lss => Op.bytesLess a.toList b.toList
    | .leq => Op.bytesLess a.toList b.toList || a.toList == b.toList
    | .gtr => !(Op.bytesLess a.toList b.toList || a.toList == b.toList) | .geq => !Op.bytesLess a.toList b.toList
    | _ => false
  cat a b := a ++ b
  sub s l h := s.extract l.toNat h.toNat
  byte s i := (s.data.toList.getD i.toNat 0).toNat
  ssize s := s.size
  of n := n
  nat i := i.toNat
  nadd a b := a + b
  nsub a b := a - b
  sel xs i := xs.getD i.toNat 0
  inb i n := 0 ≤ i ∧ i < n
  inc i n := 0 ≤ i ∧ i ≤ n
  le a b := a ≤ b
  ne0 x := x ≠ 0
  nneg x := 0 ≤ x
  eqn a b := a = b
  room n b := n ≤ maxLen ∧ n * b ≤ 140737488355328

variable {P : Program} {tab : Tab}
def kindB (P : Program) (t : TypeId) (k : Nat) : Bool :=
  match P.underlying t, k with
  | some (.int _), 0 | some .bool, 1 | some .string, 2 => true
  | _, _ => false
def flatB (P : Program) : Nat → List Field → List Nat → Bool
  | _, [], [] => true
  | off, f :: fs, k :: ks => f.name != "_" && f.offset == off && kindB P f.type k && flatB P (off + 1) fs ks
  | _, _, _ => false
/-- A struct that is compared cell by cell. -/
def eqOk (P : Program) (t : TypeId) (ks : List Nat) : Bool :=
  match P.underlying t with
  | some (.struct fs) => !P.stoodInHeld t && !P.eqGuardType P.depth t && flatB P 0 fs.toList ks
  | _ => false
structure TabOk (P : Program) (tab : Tab) : Prop where
  ty : ∀ t ti, lk tab.ty t = some ti → TIok P t ti
  fn : ∀ f fn, lk tab.fn f = some fn → P.funcs[f]? = some fn ∧ (fn.name == "runtime.NumGoroutine") = false
  mixed : P.follows .mixedOrders = true
  lexs : ∀ f fn c, lk tab.fn f = some fn → fn.body = some c → lexAll (lexOf tab f) (tailOf tab f) c = true
  eqs : ∀ t ks, lk tab.eqs t = some ks → eqOk P t ks = true

theorem opd_ok {E : Env} {s : Slots} {a : Act} (hs : SlotsOk E s a) : ∀ x, rel (opd s x) E (a.eval x)
  | .tmp t => hs t
  | .const v => by simp only [opd, rel, Act.eval]
  | .global g => by simp only [opd, rel]
  | .func f => by simp only [opd, rel, relL, Act.eval]; exact ⟨[], [], rfl, rfl, rfl⟩
theorem opds_ok {E : Env} {s : Slots} {a : Act} (hs : SlotsOk E s a) : ∀ xs, relL (opds s xs) E (xs.map a.eval)
  | [] => by simp [opds, relL]
  | x :: xs => relL_cons (opd_ok hs x) (opds_ok hs xs)

theorem sameK_eq {a b : IntKind} (h : sameK a b = true) : a = b := by
  cases a <;> cases b <;> first | rfl | (simp [sameK, kidx] at h)

/-! ### Reckoning with values -/
theorem run_int (op : BinOp) (t : TypeId) (p q : Operand) (k k' : IntKind) (a b : Int) (w : World) {r : SV} {sc : Prop} (h : evBinI std op k k' a b = some (r, sc)) (hsc : sc) :
    ∃ z, r = .v z ∧ (do eqGuard op t p q (.int k a) (.int k' b); binOp op t (.int k a) (.int k' b) : Sem Value).run P w = .ok z w := by
  by_cases hk : sameK k k' = true
  case neg =>
    cases op <;> simp only [evBinI, hk, if_false] at h <;> (try (cases h; done)) <;> simp only [Option.some.injEq, Prod.mk.injEq] at h <;> obtain ⟨rfl, rfl⟩ := h <;> refine ⟨_, rfl, ?_⟩ <;>
      simp only [std] at hsc <;> simp [eqGuard, binOp, Op.shift, std, Int.not_lt.mpr hsc]
  obtain rfl := sameK_eq hk
  cases op <;> simp only [evBinI, hk, if_true, Option.some.injEq, Prod.mk.injEq] at h <;> obtain ⟨rfl, rfl⟩ := h <;> refine ⟨_, rfl, ?_⟩
  case shl => simp only [std] at hsc; simp [eqGuard, binOp, Op.shift, std, Int.not_lt.mpr hsc]
  case shr => simp only [std] at hsc; simp [eqGuard, binOp, Op.shift, std, Int.not_lt.mpr hsc]
  case quo => simp only [std] at hsc; simp [eqGuard, binOp, Op.intDiv, std, hsc]
  case rem => simp only [std] at hsc; simp [eqGuard, binOp, Op.intDiv, std, hsc]
  all_goals simp [eqGuard, binOp, Op.intArith, Op.intBits, Op.intCmp, std]

def tiOk (P : Program) (t : TypeId) (td : Option TI) : Prop := ∀ ti, td = some ti → TIok P t ti

theorem run_equalIn_ptr (d : Nat) {t e : TypeId} (h : P.underlying t = some (.pointer e)) (a : Option Addr) (w : World) : (Op.equalIn (d + 1) t (.pointer a) (.pointer none)).run P w = .ok a.isNone w := by
  cases a <;> simp [Op.equalIn, run_underlying h]
theorem run_equal_bool {t : TypeId} (h : P.underlying t = some .bool) (a b : Bool) (w : World) : (Op.equal t (.bool a) (.bool b)).run P w = .ok (a == b) w :=
  run_equalIn_bool' w 9999 t a b h
theorem run_equal_ptr {t e : TypeId} (h : P.underlying t = some (.pointer e)) (a : Option Addr) (w : World) : (Op.equal t (.pointer a) (.pointer none)).run P w = .ok a.isNone w :=
  run_equalIn_ptr 9999 h a w

theorem run_eqlB {op : BinOp} {b : Bool} {r : SV} {sc : Prop} (h : eqlB op b = some (r, sc)) (t : TypeId) (u v : Value) (hu : ∀ (w : World), (Op.equal t u v).run P w = .ok b w)
    (hg : ∀ (op : BinOp) (p q : Operand) (w : World), (eqGuard op t p q u v).run P w = .ok () w) (he : binOp .eql t u v = (Op.equal t u v).bind fun x => pure (.bool x)) (hn : binOp .neq t u v = (Op.equal t u v).bind fun x => pure (.bool (!x))) :
    ∃ z, r = .v z ∧ ∀ (p q : Operand) w', (do eqGuard op t p q u v; binOp op t u v : Sem Value).run P w' = .ok z w' := by
  unfold eqlB at h
  have hb : ∀ (w : World) (f : Bool → Sem Value), ((Op.equal t u v).bind f).run P w = (f b).run P w := fun w f => by
    rw [Sem.run_bind', hu]; rfl
  cases op <;> simp only [] at h <;> (try (cases h; done)) <;> simp only [Option.some.injEq, Prod.mk.injEq] at h <;> obtain ⟨rfl, rfl⟩ := h <;> refine ⟨_, rfl, fun p q w' => ?_⟩
  · rw [Sem.run_bind, hg, he]; exact hb _ _
  · rw [Sem.run_bind, hg, hn]; exact hb _ _

theorem evBin_ok {E : Env} {op : BinOp} {x y r : SV} {u v : Value} {sc : Prop} {t : TypeId} {td : Option TI} (ht : tiOk P t td) (hx : rel x E u) (hy : rel y E v)
    (h : evBin std td op x y = some (r, sc)) (hsc : sc) :
    ∃ z, rel r E z ∧ ∀ (p q : Operand) w', (do eqGuard op t p q u v; binOp op t u v : Sem Value).run P w' = .ok z w' := by
  unfold evBin at h
  split at h
  · rename_i k a k' b
    simp only [rel] at hx hy
    subst hx hy
    obtain ⟨z, hz, _⟩ := run_int (P := P) op t (.const undef) (.const undef) k k' a b default h hsc
    subst hz
    refine ⟨z, by simp only [rel], fun p q w' => ?_⟩
    obtain ⟨z', hz', hr⟩ := run_int (P := P) op t p q k k' a b w' h hsc
    simp only [SV.v.injEq] at hz'
    rw [hz']; exact hr
  · rename_i a b
    simp only [rel] at hx hy
    subst hx hy
    cases op <;> simp only [] at h <;> (try (cases h; done)) <;> simp only [Option.some.injEq, Prod.mk.injEq] at h <;> obtain ⟨rfl, rfl⟩ := h <;> refine ⟨_, by simp only [rel]; rfl, fun p q w' => ?_⟩
    case add =>
      simp only [std] at hsc
      have : ¬ (((a.size + b.size : Nat) : Int) > IntKind.i64.max) := by simp [IntKind.max, IntKind.bits, IntKind.signed]; omega
      simp only [eqGuard, binOp, Op.stringOp, std, this, if_false]
      simp
    all_goals simp [eqGuard, binOp, Op.stringOp, std]
  · rename_i a b
    simp only [rel] at hx hy
    subst hx hy
    split at h <;> (try (cases h; done)) <;> simp only [Option.some.injEq, Prod.mk.injEq] at h <;> obtain ⟨rfl, rfl⟩ := h <;> (obtain ⟨d, hd, hd'⟩ := (ht _ rfl).und; simp only [] at hd'; subst hd')
    · obtain ⟨z, hz, hr⟩ := run_eqlB (P := P) (op := .eql) (b := a == b) (r := .v (.bool (a == b))) (sc := True) rfl t _ _ (run_equal_bool hd a b) (fun op _ _ _ => by cases op <;> rfl) rfl rfl
      exact ⟨z, by simp only [SV.v.injEq] at hz; simp only [rel, ← hz, std], hr⟩
    · obtain ⟨z, hz, hr⟩ := run_eqlB (P := P) (op := .neq) (b := a == b) (r := .v (.bool (!(a == b)))) (sc := True) rfl t _ _ (run_equal_bool hd a b) (fun op _ _ _ => by cases op <;> rfl) rfl rfl
      exact ⟨z, by simp only [SV.v.injEq] at hz; simp only [rel, ← hz, std], hr⟩
  all_goals
    first
    | (cases h; done)
    | (split at h
       · obtain ⟨d, hd, e, rfl⟩ := (ht _ rfl).und
         have K : ∀ q : Option Addr, eqlB op q.isNone = some (r, sc) → ∃ z, rel r E z ∧ ∀ (p q_1 : Operand) (w' : World), (do eqGuard op t p q_1 (.pointer q) (.pointer none); binOp op t (.pointer q) (.pointer none) : Sem Value).run P w' = .ok z w' := by
           intro q h'
           obtain ⟨z, rfl, hr⟩ := run_eqlB (P := P) h' t _ _ (run_equal_ptr hd q) (fun op _ _ _ => by cases op <;> rfl) rfl rfl
           exact ⟨z, by simp only [rel], hr⟩
         simp only [rel] at hx hy
         subst hy
         first
         | (obtain ⟨b, _, rfl⟩ := hx; exact K (some _) h)
         | (obtain ⟨b, off, us, rfl, _⟩ := hx; exact K (some _) h)
         | (subst hx; exact K none h)
       · cases h)

/-! ### Structs that are compared -/
theorem eqFields_ok {E : Env} (d : Nat) (xs ys : Array Value) (w : World) : ∀ (fs : List Field) (ks : List Nat) (off : Nat) (cs ds : List SV) (b : Bool), flatB P off fs ks = true → eqCells std ks cs ds = some b → relL cs E (xs.toList.drop off) → relL ds E (ys.toList.drop off) →
    (Op.eqFields (d + 1) xs ys fs).run P w = .ok b w
  | [], [], off, cs, ds, b, _, h, _, _ => by
    cases cs with
    | cons _ _ => cases ds <;> simp [eqCells] at h
    | nil =>
      cases ds with
      | cons _ _ => simp [eqCells] at h
      | nil => simp only [eqCells, Option.some.injEq] at h; subst h; simp [Op.eqFields]
  | f :: fs, k :: ks, off, cs, ds, b, hf, h, hx, hy => by
    simp only [flatB, Bool.and_eq_true, bne_iff_ne, ne_eq, beq_iff_eq] at hf
    obtain ⟨⟨⟨hn, ho⟩, hk⟩, hr⟩ := hf
    subst ho
    have part_at : ∀ (zs : Array Value) (u : Value) (us : List Value), zs.toList.drop f.offset = u :: us → (∃ dd, P.underlying f.type = some dd ∧ dd.isRow = false) → (part f.type zs f.offset).run P w = .ok u w ∧ zs.toList.drop (f.offset + 1) = us := by
      intro zs u us hz ⟨dd, hd, hrow⟩
      have h1 : zs.toList[f.offset]? = some u := by
        have := congrArg (fun l => l[0]?) hz
        simpa using this
      have h2 : zs[f.offset]? = some u := by simpa using h1
      refine ⟨?_, ?_⟩
      · cases dd <;> simp [TypeDesc.isRow] at hrow <;> simp [part, isAgg, run_underlying hd, h2]
      · rw [← List.drop_drop, hz]; rfl
    have nf : ¬ f.name = "_" := hn
    have go : ∀ (u v : Value) (us vs : List Value) (e : Bool) (cs' ds' : List SV) (r : Bool), xs.toList.drop f.offset = u :: us → ys.toList.drop f.offset = v :: vs → (∃ dd, P.underlying f.type = some dd ∧ dd.isRow = false) →
        (Op.equalIn (d + 1) f.type u v).run P w = .ok e w → eqCells std ks cs' ds' = some r → relL cs' E us → relL ds' E vs → (Op.eqFields (d + 1) xs ys (f :: fs)).run P w = .ok (if e then r else false) w := by
      intro u v us vs e cs' ds' r h1 h2 h3 h4 h5 h6 h7
      obtain ⟨p1, q1⟩ := part_at xs u us h1 h3
      obtain ⟨p2, q2⟩ := part_at ys v vs h2 h3
      have := eqFields_ok d xs ys w fs ks (f.offset + 1) cs' ds' r hr h5 (by rw [q1]; exact h6) (by rw [q2]; exact h7)
      simp only [Op.eqFields, nf, ne_eq, not_false_eq_true, if_true, Sem.run_bind, p1, p2, h4, Result.andThen_ok, Sem.run_ite]
      cases e
      · simp
      · simpa using this
    unfold kindB at hk
    unfold eqCells at h
    split at h
    · cases ‹(_ :: _) = []›
    all_goals (try (cases h; done))
    · rename_i ks0 k1 a xs' k2 b' ys' hkk
      simp only [List.cons.injEq] at hkk
      obtain ⟨rfl, rfl⟩ := hkk
      split at h
      case h_2 => cases h
      rename_i r hsk hr'
      obtain rfl := sameK_eq hsk
      simp only [Option.some.injEq] at h
      subst h
      simp only [relL, rel] at hx hy
      obtain ⟨_, us, hu, rfl, hus⟩ := hx
      obtain ⟨_, vs, hv, rfl, hvs⟩ := hy
      split at hk
      case h_1 q hq _ => exact go _ _ us vs (a == b') xs' ys' r hu hv ⟨_, hq, rfl⟩ (by simp [Op.equalIn, run_underlying hq]) hr' hus hvs
      case h_2 hh => exact absurd hh (by decide)
      case h_3 hh => exact absurd hh (by decide)
      case h_4 => cases hk
    · rename_i ks0 a xs' b' ys' hkk
      simp only [List.cons.injEq] at hkk
      obtain ⟨rfl, rfl⟩ := hkk
      split at h
      case h_2 => cases h
      rename_i r hr'
      simp only [Option.some.injEq] at h
      subst h
      simp only [relL, rel] at hx hy
      obtain ⟨_, us, hu, rfl, hus⟩ := hx
      obtain ⟨_, vs, hv, rfl, hvs⟩ := hy
      split at hk
      case h_1 hh => exact absurd hh (by decide)
      case h_2 hq _ => exact go _ _ us vs (a == b') xs' ys' r hu hv ⟨_, hq, rfl⟩ (run_equalIn_bool' w d f.type a b' hq) hr' hus hvs
      case h_3 hh => exact absurd hh (by decide)
      case h_4 => cases hk
    · rename_i ks0 a xs' b' ys' hkk
      simp only [List.cons.injEq] at hkk
      obtain ⟨rfl, rfl⟩ := hkk
      split at h
      case h_2 => cases h
      rename_i r hr'
      simp only [Option.some.injEq] at h
      subst h
      simp only [relL, rel] at hx hy
      obtain ⟨_, us, hu, rfl, hus⟩ := hx
      obtain ⟨_, vs, hv, rfl, hvs⟩ := hy
      split at hk
      case h_1 hh => exact absurd hh (by decide)
      case h_2 hh => exact absurd hh (by decide)
      case h_3 hq _ => exact go _ _ us vs (a.toList == b'.toList) xs' ys' r hu hv ⟨_, hq, rfl⟩ (run_equalIn_string w d f.type a b' hq) hr' hus hvs
      case h_4 => cases hk
  | [], _ :: _, _, _, _, _, h, _, _, _ => by simp [flatB] at h
  | _ :: _, [], _, _, _, _, h, _, _, _ => by simp [flatB] at h
theorem evEq_ok (hT : TabOk P tab) {E : Env} {op : BinOp} {x y r : SV} {u v : Value} {sc : Prop} {t : TypeId} (hx : rel x E u) (hy : rel y E v) (h : evEq std (lk tab.eqs t) op x y = some (r, sc)) :
    ∃ z, rel r E z ∧ ∀ (p q : Operand) w', (do eqGuard op t p q u v; binOp op t u v : Sem Value).run P w' = .ok z w' := by
  unfold evEq at h
  split at h
  case h_2 => cases h
  rename_i ks xs ys hks
  have ht := hT.eqs t ks hks
  unfold eqOk at ht
  split at ht
  case h_2 => cases ht
  rename_i fs hfs
  simp only [Bool.and_eq_true, Bool.not_eq_true'] at ht
  obtain ⟨⟨h1, h2⟩, h3⟩ := ht
  simp only [rel] at hx hy
  obtain ⟨us, rfl, hus⟩ := hx
  obtain ⟨vs, rfl, hvs⟩ := hy
  have hfo : P.fieldsOf t = fs := by simp [Program.fieldsOf, hfs]
  have hu : P.underlying t = some (.struct (P.fieldsOf t)) := by rw [hfo]; exact hfs
  have main : ∀ b, eqCells std ks xs ys = some b → ∀ w', (Op.equalIn 10000 t (.agg us.toArray) (.agg vs.toArray)).run P w' = .ok b w' := by
    intro b hb w'
    rw [run_equalIn_struct w' 9999 t _ _ hu h1, hfo]
    exact eqFields_ok 9998 us.toArray vs.toArray w' fs.toList ks 0 xs ys b h3 hb (by simpa using hus) (by simpa using hvs)
  split at h
  · rename_i b hb
    simp only [Option.some.injEq, Prod.mk.injEq] at h
    obtain ⟨rfl, rfl⟩ := h
    refine ⟨.bool b, by simp only [rel], fun p q w' => ?_⟩
    rw [Sem.run_bind, run_eqGuard_agg w' _ t p q _ _ h2, Result.andThen_ok, run_eql_struct, main b hb]; rfl
  · rename_i b hb
    simp only [Option.some.injEq, Prod.mk.injEq] at h
    obtain ⟨rfl, rfl⟩ := h
    refine ⟨.bool (!b), by simp only [rel, std], fun p q w' => ?_⟩
    rw [Sem.run_bind, run_eqGuard_agg w' _ t p q _ _ h2, Result.andThen_ok, run_neq_struct, main b hb]; rfl
  · cases h

/-! ### Reading cells -/
def cellVal (agg : Bool) (us : List Value) : Value := if agg then .agg us.toArray else us.headD undef
theorem ofCells_ok {E : Env} {agg : Bool} {cs : List SV} {us : List Value} {r : SV} (hc : relL cs E us) (h : ofCells agg cs = some r) : rel r E (cellVal agg us) ∧ (agg = false → us.length = 1) := by
  unfold ofCells at h
  cases agg with
  | true =>
    simp only [Option.some.injEq] at h
    subst h
    exact ⟨by simp only [rel, cellVal, if_true]; exact ⟨us, rfl, hc⟩, fun h => by cases h⟩
  | false =>
    simp only at h
    split at h
    · rename_i x
      simp only [Option.some.injEq] at h
      subst h
      simp only [relL] at hc
      obtain ⟨u, us', rfl, h1, rfl⟩ := hc
      exact ⟨by simpa [cellVal] using h1, fun _ => rfl⟩
    · cases h
theorem und_row {t : TypeId} {ti : TI} (h : TIok P t ti) : ∃ d, P.underlying t = some d ∧ d.isRow = rowTD ti.td := by
  obtain ⟨d, hd, hm⟩ := h.und
  refine ⟨d, hd, ?_⟩
  cases htd : ti.td <;> simp only [htd] at hm <;> simp only [rowTD]
  case sc => exact hm
  case bool => subst hm; rfl
  case ptr => obtain ⟨e, rfl⟩ := hm; rfl
  case int => subst hm; rfl
  case str => subst hm; rfl
  case st => obtain ⟨f, rfl, _⟩ := hm; rfl
  case arr => obtain ⟨e, ei, rfl, _⟩ := hm; rfl
  case sl => subst hm; rfl
theorem run_loadVar_cells {w : World} {b o : Nat} {t : TypeId} {d : TypeDesc} {us : List Value} (hr : readsAt w b o us) (hu : P.underlying t = some d) (hi : (P.info? t).map (·.size) = some us.length)
    (h1 : d.isRow = false → us.length = 1) : (loadVar t ⟨b, o, none⟩).run P w = .ok (cellVal d.isRow us) w := by
  cases hrow : d.isRow with
  | true => rw [run_loadVar_mid w b o t us d hr hu hrow hi]; simp [cellVal]
  | false =>
    have hl := h1 hrow
    obtain ⟨u, rfl⟩ : ∃ u, us = [u] := by
      cases us with
      | nil => simp at hl
      | cons u us => cases us with | nil => exact ⟨u, rfl⟩ | cons _ _ => simp at hl
    have hc := hr 0 u rfl
    have hagg : (isAgg t).run P w = .ok false w := by
      unfold isAgg
      rw [Sem.run_bind, run_underlying hu w]
      cases d <;> simp_all
    simp only [Nat.add_zero] at hc
    simp only [loadVar, Sem.run_bind, hagg, Result.andThen_ok, Bool.false_eq_true, if_false, load, Sem.run, hc]
    simp [cellVal]
theorem reads_cells {w : World} {b off n : Nat} {us : List Value} {ty : TypeId} {fr : Nat × Nat} (h : w.heap[b]? = some (.cells us.toArray ty fr)) : readsAt w b off ((us.drop off).take n) := by
  intro j u hu
  rw [List.getElem?_take] at hu
  split at hu
  · rw [List.getElem?_drop] at hu
    rw [cell_of_row w b (off + j) us.toArray ty fr h]
    simpa using hu
  · cases hu
theorem relL_sub {E : Env} {cs : List SV} {us : List Value} (h : relL cs E us) (off n : Nat) : relL ((cs.drop off).take n) E ((us.drop off).take n) := relL_take n (relL_drop off h)
theorem readsAt_sub {w : World} {b o : Nat} {us : List Value} (h : readsAt w b o us) (off n : Nat) : readsAt w b (o + off) ((us.drop off).take n) := by
  intro j u hu
  rw [List.getElem?_take] at hu
  split at hu
  · rw [List.getElem?_drop] at hu
    have := h _ _ hu
    rwa [← Nat.add_assoc] at this
  · cases hu
theorem readsAt_drop {w : World} {b o : Nat} {us : List Value} (h : readsAt w b o us) (off : Nat) : readsAt w b (o + off) (us.drop off) := by
  intro j u hu
  rw [List.getElem?_drop] at hu
  have := h _ _ hu
  rwa [← Nat.add_assoc] at this

def w_heap (E : Env) (b : Nat) : Option Obj := E.w.heap[b]?
/-- The own row's element j, from cell 'off' on. -/
theorem row_reads {E : Env} {i ty sz n : Nat} {get : Nat → List SV} {ver : Nat} {b o c n' : Nat} (hb : hbok E i (.row ty sz n get ver)) (hs : E.σ i ver = some (.slice (some ⟨b, o, none⟩) n' c)) (j : Nat) (hj : j < n) :
    ∃ us, relL (get j) E.pl us ∧ readsAt E.w b (o + j * sz) us ∧ E.T b ∧ E.ρ i = some sz ∧ us.length = sz := by
  obtain ⟨u, xs, h1, h0, h2, h3, h5, h4⟩ := hb
  rw [hs] at h1
  cases h1
  refine ⟨(xs.drop (j * sz)).take sz, h4 j hj, ?_, h3 b rfl, h0, ?_⟩
  · rcases h2.2 with ⟨hn, _⟩ | ⟨g, cap, cur, hv, hg, hh, hnc, hcm, hcs, ht⟩
    · cases hn
    · cases hv
      have hcur : w_heap E b = some (.cells cur.toList.toArray ty (0, 0)) := by simpa [w_heap] using hh
      have hr : readsAt E.w b (j * sz) ((cur.toList.drop (j * sz)).take sz) := reads_cells hcur
      rw [Nat.zero_add]
      have he : (xs.drop (j * sz)).take sz = (cur.toList.drop (j * sz)).take sz := by
        rw [← ht, List.drop_take, List.take_take]
        congr 1
        have : (j + 1) * sz ≤ n * sz := Nat.mul_le_mul_right _ hj
        rw [Nat.add_mul, Nat.one_mul] at this
        omega
      rw [he]; exact hr
  · have hl := h2.1
    have : (j + 1) * sz ≤ n * sz := Nat.mul_le_mul_right _ hj
    rw [Nat.add_mul, Nat.one_mul] at this
    simp only [List.length_take, List.length_drop]
    omega
end Go.Sx
