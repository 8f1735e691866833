/- Appends, literal slices, calls: each operation that changes something comes to what the runner says. -/
import Derived.Test.YtijnahgehahokaaSxSoundE
set_option linter.unusedVariables false
set_option linter.unusedSimpArgs false
namespace Go.Sx
open Go.RowKit
variable {P : Program} {tab : Tab}

/-- Behind an append, a row lies where it lay, or in new memory. -/
theorem run_append_where {w : World} (t ty e : TypeId) (i : TypeInfo) (z : Value) (size bytes : Nat) (ht : P.underlying t = some (.slice e)) (hi : P.info? e = some i) (hz : i.zero = some z)
    (hsize : i.size = size) (hby : i.bytes = bytes) (hzs : z.cells.size = size) (hsz : 0 < size) (v : Value) (n : Nat) (xs : List Value) (hown : w.ownsRow 0 e size v n xs)
    (a : Addr) (m c : Nat) (news : List Value) (hl : news.length = m * size) (hnews : ∀ j u, news[j]? = some u → w.cell? (a.add j) = some u) (h1 : ∀ u ∈ news, u.oneCell' = true)
    (h63 : n + m ≤ maxLen) (hbytes : (n + m) * bytes ≤ 140737488355328) :
    ∃ v' w', (Builtin.append_ #[t, t] ty #[v, .slice (some a) m c]).run P w = .ok v' w' ∧ w'.ownsRow 0 e size v' (n + m) (xs ++ news) ∧ w.grownBy w' v.ownBlock ∧
      (∀ g, v'.ownBlock = some g → v.ownBlock = some g ∨ w.heap.size ≤ g) ∧ ∃ a n c, v' = .slice a n c := by
  obtain ⟨v', w', hr, ho, hg, _⟩ := run_append_own (P := P) w 0 t ty e i z size bytes ht hi hz hsize hby hzs hsz v n xs hown a m c news hl hnews h1 h63 hbytes (Nat.zero_le _)
  have hsl : ∃ a n c, v' = .slice a n c := by
    rcases ho.2 with ⟨rfl, _⟩ | ⟨g, cap, cur, rfl, _⟩ <;> exact ⟨_, _, _, rfl⟩
  refine ⟨v', w', hr, ho, hg, fun g hgb => ?_, hsl⟩
  subst hsize hby
  rcases hown.2 with ⟨rfl, rfl⟩ | ⟨g0, cap, cur, rfl, _, hh, hnc, hcm, hcs, htake⟩
  · have hx : xs = [] := List.eq_nil_of_length_eq_zero (by simpa using hown.1)
    subst hx
    obtain ⟨v2, w2, hr2, ho2, _, _⟩ := run_append_own (P := P) w w.heap.size t ty e i z i.size i.bytes ht hi hz rfl rfl hzs hsz _ 0 [] (World.ownsRow_nil w w.heap.size e i.size) a m c news hl hnews h1 h63 hbytes (Nat.le_refl _)
    rw [hr] at hr2
    cases hr2
    exact .inr (ho2.lt g hgb).1
  · by_cases hroom : n + m ≤ cap
    · have hfit : n * i.size + news.length ≤ cur.size := by rw [hl, hcs, ← Nat.add_mul]; exact Nat.mul_le_mul_right _ hroom
      have hr2 := run_append_room (P := P) w t ty e i ht hi g0 n cap cur hh a m c news hl hnews h1 hroom hfit
      rw [hr] at hr2
      cases hr2
      exact .inl hgb
    · have holds : ∀ j u, xs[j]? = some u → w.cell? ((⟨g0, 0, none⟩ : Addr).add j) = some u := hown.cells (g := g0) rfl
      have hsmall : n + m ≤ 9223372036854775807 := by simp only [maxLen] at h63; omega
      have hr2 := run_append_grow (P := P) w t ty e i z ht hi hz ⟨g0, 0, none⟩ n cap xs hown.1 holds a m c news hl hnews (by omega) (by omega) (growslice_fits (by omega) hbytes)
      rw [hr] at hr2
      cases hr2
      simp only [Value.ownBlock, Option.some.injEq] at hgb
      exact .inr (by omega)

/-- A slice that is read by value, as so many cells. -/
theorem rs_flat {E : Env} {sz m : Nat} {get : Nat → List SV} {u : Value} (h : rel (.rs sz m get) E u) (hsz : 0 < sz) (hm : 0 < m) :
    ∃ b off cap news, u = .slice (some ⟨b, off, none⟩) m cap ∧ List.length news = m * sz ∧ readsAt E.w b off news ∧ (∀ x ∈ news, Value.oneCell' x = true) ∧ ∀ j, j < m → relL (get j) E.pl ((news.drop (j * sz)).take sz) := by
  simp only [rel] at h
  obtain ⟨a, cap, rfl, _, _, _, h4⟩ := h
  obtain ⟨b, off, us0, rfl, _⟩ := h4 0 hm
  have build : ∀ k, k ≤ m → ∃ news : List Value, news.length = k * sz ∧ readsAt E.w b off news ∧ (∀ x ∈ news, x.oneCell' = true) ∧ ∀ j, j < k → relL (get j) E.pl ((news.drop (j * sz)).take sz) := by
    intro k
    induction k with
    | zero => intro _; exact ⟨[], by simp, fun j u hu => by simp at hu, by simp, by omega⟩
    | succ k ih =>
      intro hk
      obtain ⟨news, h1, h2, h3, h5⟩ := ih (by omega)
      obtain ⟨b', off', us, hab, _, hrl, hlen, hrd, hone⟩ := h4 k (by omega)
      simp only [Option.some.injEq, Addr.mk.injEq] at hab
      obtain ⟨rfl, rfl, _⟩ := hab
      refine ⟨news ++ us, ?_, ?_, ?_, ?_⟩
      · rw [List.length_append, h1, hlen, Nat.add_mul, Nat.one_mul]
      · intro j u hu
        by_cases hlt : j < news.length
        · rw [List.getElem?_append_left hlt] at hu; exact h2 j u hu
        · rw [List.getElem?_append_right (by omega)] at hu
          have := hrd _ _ hu
          rw [h1] at this hlt
          have e : off + k * sz + (j - k * sz) = off + j := by omega
          rwa [e] at this
      · intro x hx
        rcases List.mem_append.1 hx with hx | hx
        · exact h3 x hx
        · exact hone x hx
      · intro j hj
        by_cases hjk : j < k
        · have : j * sz + sz ≤ news.length := by rw [h1]; have := Nat.mul_le_mul_right sz (show j + 1 ≤ k from hjk); rw [Nat.add_mul, Nat.one_mul] at this; exact this
          have e : ((news ++ us).drop (j * sz)).take sz = (news.drop (j * sz)).take sz := by
            rw [List.drop_append_of_le_length (by omega), List.take_append_of_le_length (by simp; omega)]
          rw [e]; exact h5 j hjk
        · obtain rfl : j = k := by omega
          have e : ((news ++ us).drop (j * sz)).take sz = us := by
            rw [← h1, List.drop_left, List.take_of_length_le (by omega)]
          rw [e]; exact hrl
  obtain ⟨news, h1, h2, h3, h5⟩ := build m (Nat.le_refl _)
  exact ⟨b, off, cap, news, rfl, h1, h2, h3, h5⟩

/-- A row of one's own that has grown. -/
theorem grown_ok {E : Env} {H : Heap} (hO : Ok H E) {r ver : Nat} {ty : TypeId} {sz n : Nat} {get : Nat → List SV} {v : Value} (hH : H[r]? = some (.row ty sz n get ver)) (hv : E.σ r ver = some v) {xs : List Value}
    (h0 : E.ρ r = some sz) (h2 : E.w.ownsRow 0 ty sz v n xs) (h3 : ∀ g, v.ownBlock = some g → E.T g) (h5 : ∀ x, x ∈ xs → x.oneCell' = true) (h4 : ∀ j, j < n → relL (get j) E.pl ((xs.drop (j * sz)).take sz))
    {m : Nat} {get' : Nat → List SV} {v' : Value} {w' : World} {news : List Value} (q2 : w'.ownsRow 0 ty sz v' (n + m) (xs ++ news)) (q3 : E.w.grownBy w' v.ownBlock)
    (q4 : ∀ g, v'.ownBlock = some g → v.ownBlock = some g ∨ E.w.heap.size ≤ g) (q5 : ∃ a n c, v' = .slice a n c) (q7 : ∀ x ∈ news, x.oneCell' = true) (q8 : ∀ j, j < m → relL (get' j) E.pl ((news.drop (j * sz)).take sz)) :
    ∃ E', E'.w = w' ∧ Ext E E' ∧ Ok (H.set r (.row ty sz (n + m) (app n get get') (ver + 1))) E' ∧ rel (.o r (ver + 1)) E' v' := by
  have hrlt : r < H.length := (List.getElem?_eq_some_iff.1 hH).1
  let E' : Env := { w := w', ρ := E.ρ, σ := fun i k => if i = r ∧ k = ver + 1 then some v' else E.σ i k, T := fun b => E.T b ∨ (E.w.heap.size ≤ b ∧ v'.ownBlock = some b), F := E.F }
  have hx : Ext E E' := by
    refine ⟨q3.os, q3.tape, q3.output, q3.size, fun _ _ h => h, fun i k x hx => ?_, fun b hb => ⟨q3.block b hb.1 (fun e => hb.2 (h3 b e.symm)), fun ht => ?_⟩,
      fun b hb => ⟨q3.block b (hO.flt b hb) (fun e => hO.fown r _ b hH (by simp only [blk, hv, Option.bind_some]; exact e.symm) hb), hb⟩⟩
    · show (if i = r ∧ k = ver + 1 then some v' else E.σ i k) = some x
      rw [if_neg]; · exact hx
      rintro ⟨rfl, rfl⟩
      rw [hO.ver i ty sz n get ver hH (ver + 1) (by omega)] at hx; cases hx
    · rcases ht with ht | ht
      · exact hb.2 ht
      · have := hb.1; omega
  have hsig : E'.σ r (ver + 1) = some v' := by show (if r = r ∧ ver + 1 = ver + 1 then some v' else _) = _; simp
  refine ⟨E', rfl, hx, write_ok hO hH hx rfl (fun _ h => .inl h) ?_ ?_ ?_ ?_ ?_ ?_, ?_⟩
  · intro b hb
    rcases hb with hb | ⟨_, hb⟩
    · exact Nat.lt_of_lt_of_le (hO.tlt b hb) q3.size
    · exact (q2.lt b hb).2
  · intro b hb hne
    refine q3.block b hb (fun e => hne ?_)
    simp only [blk, hv, Option.bind_some]; exact e.symm
  · refine ⟨v', xs ++ news, hsig, h0, q2, ?_, ?_, ?_⟩
    · intro g hg
      rcases q4 g hg with h | h
      · exact .inl (h3 g h)
      · exact .inr ⟨h, hg⟩
    · intro x hx'
      rcases List.mem_append.1 hx' with h | h
      · exact h5 x h
      · exact q7 x h
    · intro j hj
      have hpl := hx.pl
      have hxl : xs.length = n * sz := h2.1
      by_cases hjn : j < n
      · have hb : Nat.blt j n = true := Nat.blt_eq.mpr hjn
        simp only [app, hb, cond_true]
        have hle : j * sz + sz ≤ n * sz := by have := Nat.mul_le_mul_right sz (show j + 1 ≤ n from hjn); rw [Nat.add_mul, Nat.one_mul] at this; exact this
        rw [List.drop_append_of_le_length (by omega), List.take_append_of_le_length (by simp; omega)]
        exact relL_ext _ hpl _ (h4 j hjn)
      · have hb : Nat.blt j n = false := by cases h : Nat.blt j n with | false => rfl | true => exact absurd (Nat.blt_eq.mp h) hjn
        simp only [app, hb, cond_false]
        have e : (xs ++ news).drop (j * sz) = news.drop ((j - n) * sz) := by
          have e1 : j * sz = xs.length + (j - n) * sz := by rw [hxl, ← Nat.add_mul]; congr 1; omega
          rw [e1, ← List.drop_drop, List.drop_left]
        rw [e]
        exact relL_ext _ hpl _ (q8 (j - n) (by omega))
  · intro b hb
    simp only [blk, hsig, Option.bind_some] at hb
    rcases q4 b hb with h | h
    · left; simp only [blk, hv, Option.bind_some]; exact h
    · exact .inr h
  · intro j hj
    refine ⟨(hO.fresh j hj).1, fun k => ?_⟩
    show (if j = r ∧ k = ver + 1 then some v' else E.σ j k) = none
    rw [if_neg (by omega)]; exact (hO.fresh j hj).2 k
  · intro j ty' sz' n' get'' ver' hj k hk
    show (if j = r ∧ k = ver + 1 then some v' else E.σ j k) = none
    by_cases e : j = r
    · rw [if_pos e] at hj
      simp only [Option.some.injEq, HB.row.injEq] at hj
      obtain ⟨_, _, _, _, rfl⟩ := hj
      rw [if_neg (by omega), e]
      exact hO.ver r ty sz n get ver hH k (by omega)
    · rw [if_neg e] at hj
      rw [if_neg (by omega)]
      exact hO.ver j ty' sz' n' get'' ver' hj k hk
  · simp only [rel]
    exact ⟨hsig, q5⟩
/-- An append to a row of one's own. -/
theorem append_ok (hT : TabOk P tab) {E : Env} {H : Heap} (hO : Ok H E) {r ver : Nat} {ty : TypeId} {sz n : Nat} {get : Nat → List SV} {v : Value} (hH : H[r]? = some (.row ty sz n get ver)) (hv : rel (.o r ver) E v)
    {m : Nat} {get' : Nat → List SV} {u : Value} (hu : rel (.rs sz m get') E u) (hsz : 0 < sz) {ti : TI} (hti : lk tab.ty ty = some ti) (hszt : ti.size = sz) (hroom : std.room (n + m) ti.bytes)
    {t : TypeId} (ht : P.underlying t = some (.slice ty)) (rt : TypeId) :
    ∃ v' E', (Builtin.append_ #[t, t] rt #[v, u]).run P E.w = .ok v' E'.w ∧ Ext E E' ∧ Ok (H.set r (.row ty sz (n + m) (app n get get') (ver + 1))) E' ∧ rel (.o r (ver + 1)) E' v' := by
  obtain ⟨v0, xs, h1, h0, h2, h3, h5, h4⟩ := hO.blocks r _ hH
  simp only [rel] at hv
  rw [hv.1] at h1
  cases h1
  obtain ⟨it, hit, hits, hitz, hitb⟩ := (hT.ty ty ti hti).info
  have hzs := (hT.ty ty ti hti).zsz
  -- what is appended, as cells
  have main : ∃ (v' : Value) (w' : World) (news : List Value), (Builtin.append_ #[t, t] rt #[v, u]).run P E.w = .ok v' w' ∧ w'.ownsRow 0 ty sz v' (n + m) (xs ++ news) ∧ E.w.grownBy w' v.ownBlock ∧
      (∀ g, v'.ownBlock = some g → v.ownBlock = some g ∨ E.w.heap.size ≤ g) ∧ (∃ a n c, v' = .slice a n c) ∧ news.length = m * sz ∧ (∀ x ∈ news, x.oneCell' = true) ∧ ∀ j, j < m → relL (get' j) E.pl ((news.drop (j * sz)).take sz) := by
    by_cases hm : 0 < m
    · obtain ⟨b, off, cap, news, rfl, k1, k2, k3, k4⟩ := rs_flat hu hsz hm
      obtain ⟨v', w', q1, q2, q3, q4, q5⟩ := run_append_where (P := P) t rt ty it ti.zero sz ti.bytes ht hit hitz (hits.trans hszt) hitb (hzs.trans hszt) hsz v n xs h2 ⟨b, off, none⟩ m cap news k1 (fun j x hx => by rw [Addr.add_mid]; exact k2 j x hx) k3 hroom.1 hroom.2
      exact ⟨v', w', news, q1, q2, q3, q4, q5, k1, k3, k4⟩
    · obtain rfl : m = 0 := by omega
      simp only [rel] at hu
      obtain ⟨a, cap, rfl, _⟩ := hu
      have hself : (Builtin.append_ #[t, t] rt #[v, .slice a 0 cap]).run P E.w = .ok v E.w := by
        rcases h2.2 with ⟨rfl, hn⟩ | ⟨g, cp, cur, rfl, _, hh, hnc, _, _⟩
        · cases a <;> simp [Builtin.append_, run_underlying ht, sizeOf, typeInfo, hit, Builtin.lenOf, Builtin.firstCells, loadCells, loadCellsFrom, storeCells]
        · cases a <;> simp [Builtin.append_, run_underlying ht, sizeOf, typeInfo, hit, Builtin.lenOf, Builtin.firstCells, loadCells, loadCellsFrom, storeCells, hnc]
      exact ⟨v, E.w, [], hself, by simpa using h2, ⟨rfl, rfl, rfl, Nat.le_refl _, fun _ _ _ => rfl⟩, fun g hg => .inl hg, hv.2, by simp, by simp, by omega⟩
  obtain ⟨v', w', news, q1, q2, q3, q4, q5, q6, q7, q8⟩ := main
  obtain ⟨E', rfl, k1, k2, k3⟩ := grown_ok hO hH hv.1 h0 h2 h3 h5 h4 q2 q3 q4 q5 q7 q8
  exact ⟨v', E', q1, k1, k2, k3⟩
/-! ### Literal slices -/
theorem relL_reps {E : Env} {z : Value} (hz : relL (zeroCells z) E z.cells.toList) : ∀ len, relL (reps (zeroCells z) len) E (List.replicate len z.cells.toList).flatten
  | 0 => by simp [reps, relL]
  | n + 1 => by
    rw [List.replicate_succ, List.flatten_cons]
    exact relL_append hz (relL_reps hz n)
theorem flat_get {α : Type} (z : List α) (d : α) : ∀ (len j : Nat), j < len * z.length → (List.replicate len z).flatten[j]? = z[j % z.length]?
  | 0, j, h => by omega
  | n + 1, j, h => by
    rw [List.replicate_succ, List.flatten_cons]
    have hz : 0 < z.length := by
      rcases Nat.eq_zero_or_pos z.length with e | e
      · rw [e] at h; omega
      · exact e
    by_cases hlt : j < z.length
    · rw [List.getElem?_append_left hlt, Nat.mod_eq_of_lt hlt]
    · rw [List.getElem?_append_right (by omega), flat_get z d n (j - z.length) (by rw [Nat.add_mul] at h; omega)]
      rw [← Nat.mod_eq_sub_mod (by omega)]
theorem range_map_eq (z : Array Value) (len : Nat) : ((Array.range (len * z.size)).map (z[· % z.size]!)).toList = (List.replicate len z.toList).flatten := by
  apply List.ext_getElem?
  intro j
  by_cases hj : j < len * z.size
  · rw [flat_get z.toList undef len j (by simpa using hj)]
    have hz : 0 < z.size := by
      rcases Nat.eq_zero_or_pos z.size with e | e
      · rw [e] at hj; omega
      · exact e
    have hm := Nat.mod_lt j hz
    simp only [Array.toList_map, List.getElem?_map, Array.getElem?_toList, Array.getElem?_range, hj, if_true, Option.map_some, Array.length_toList]
    rw [getElem!_pos z (j % z.size) hm, Array.getElem?_eq_getElem hm]
  · rw [List.getElem?_eq_none (by simp; omega), List.getElem?_eq_none (by simp [List.length_flatten, List.sum_replicate_nat]; omega)]

theorem fillS_ok {E : Env} {s : Slots} {a : Act} (hs : SlotsOk E s a) (sz : Nat) : ∀ (parts : List (Nat × Operand)) (l : List (Nat × List SV)) (cs cs' : List SV) (us : Array Value),
    slicePlaces s sz parts = some l → fillC cs l = some cs' → relL cs E us.toList →
    ∃ us', Instr.fill (fun i => some (i * sz, sz)) us (parts.map fun (i, x) => (i, a.eval x)) = some us' ∧ relL cs' E us'.toList
  | [], l, cs, cs', us, h1, h2, h3 => by
    simp only [slicePlaces, Option.some.injEq] at h1
    subst h1
    simp only [fillC, Option.some.injEq] at h2
    subst h2
    exact ⟨us, rfl, h3⟩
  | (i, x) :: parts, l, cs, cs', us, h1, h2, h3 => by
    simp only [slicePlaces] at h1
    split at h1
    case h_2 => cases h1
    rename_i l' hl'
    split at h1
    case isFalse => cases h1
    rename_i hc
    simp only [Bool.and_eq_true] at hc
    have hlen := Nat.eq_of_beq_eq_true hc.1
    simp only [Option.some.injEq] at h1
    subst h1
    simp only [fillC] at h2
    split at h2
    case isFalse => cases h2
    rename_i hle
    have hle' := Nat.le_of_ble_eq_true hle
    obtain ⟨k1, k2⟩ := cells_ok hc.2 (opd_ok hs x)
    have hl1 := relL_length k1
    have hl3 := relL_length h3
    have hset := setAt_set (i * sz) (a.eval x).cells.toList 0 us (by simp at hl1 hl3 ⊢; omega)
    simp only [Nat.add_zero] at hset
    have hz : (a.eval x).cells.toList.zipIdx 0 = (a.eval x).cells.zipIdx.toList := by simp
    have hnext : relL (setAt cs (i * sz) (cellsOf (opd s x))) E (((a.eval x).cells.zipIdx).foldl (fun cs (c, j) => cs.setIfInBounds (i * sz + j) c) us).toList := by
      rw [← Array.foldl_toList, ← hz]
      rw [hset]
      unfold setAt
      rw [hl1]
      exact relL_append (relL_append (relL_take _ h3) k1) (relL_drop _ h3)
    obtain ⟨us', h5, h6⟩ := fillS_ok hs sz parts l' _ cs' _ hl' h2 hnext
    refine ⟨us', ?_, h6⟩
    simp only [List.map_cons, Instr.fill]
    have hn1 : (a.eval x).cells.size = sz := by simp at hl1; omega
    rw [if_neg (by simp [hn1] at *; omega)]
    exact h5
end Go.Sx
