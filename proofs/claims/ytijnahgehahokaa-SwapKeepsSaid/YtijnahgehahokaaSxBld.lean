/- A strings.Builder that a call has made itself: its copy check, and its text: two contracts in the runner's form. -/
import Derived.Test.YtijnahgehahokaaSxTab
import Derived.Test.YtijnahgehahokaaSxTop
import Derived.Lib.Builder
import Derived.Lib.UnsafeStr
import Derived.Lib.Strings
import Derived.Lib.Slices
import Derived.Lib.Walk
import Derived.WalkKit
import Derived.Laws.Externs
set_option linter.unusedVariables false
set_option linter.unusedSimpArgs false
namespace Go.Sx.Bld
open Go Go.Sx Go.Proofs Go.RowKit
theorem sizeBuilder : (Try.prog.info? 112).map (·.size) = some 2 := by kernel_rfl
theorem liesBuilder : liesAt Try.prog Try.prog.depth 112 (2 / Try.prog.cellsOf 112) 0 112 1 = true := by kernel_rfl
theorem cellsByte : Try.prog.cellsOf 5 = 1 := by kernel_rfl
set_option maxHeartbeats 1000000
set_option maxRecDepth 100000
theorem check_used (b : Nat) (w : World) (h0 : w.cell? ⟨b, 0, none⟩ = some (.pointer (some ⟨b, 0, none⟩))) :
    Calls Try.prog 66 #[.pointer (some ⟨b, 0, none⟩)] w fun e w' => e = .returned (.tuple #[]) ∧ w' = w := by
  obtain ⟨j, hj, _⟩ := Option.map_eq_some_iff.1 sizeBuilder
  go_enter Try.func66, Try.ntmps66
  go_wp2
  rw [Lib.run_neq_ptr_same w _ Try.underlying109 hj]
  go_wp2
  go_end0
  exact ⟨rfl, rfl⟩
theorem check_fresh (b : Nat) (w : World) (h0 : w.cell? ⟨b, 0, none⟩ = some (.pointer none)) (hsh : w.shape? b = some (112, 2)) (hfz : w.frozen? ⟨b, 0, none⟩ = false) :
    Calls Try.prog 66 #[.pointer (some ⟨b, 0, none⟩)] w fun e w' => e = .returned (.tuple #[]) ∧ w' = w.setCell ⟨b, 0, none⟩ (.pointer (some ⟨b, 0, none⟩)) := by
  obtain ⟨j, hj, hjs⟩ := Option.map_eq_some_iff.1 sizeBuilder
  go_enter Try.func66, Try.ntmps66
  go_wp2
  rw [Lib.run_to_unsafe w ⟨b, 0, none⟩ Try.underlying109 Try.underlying127 hj (by rw [hjs]; decide) hsh (Nat.zero_lt_succ 1)]
  simp only [Result.andThen]
  rw [Oper.upon_value]
  go_wp2
  rw [run_callFunc_extern Try.func71 (by kernel_rfl) (by kernel_rfl) (by kernel_rfl) (e := Extern.AbiNoEscape.same) (by kernel_rfl)]
  rw [Lib.run_noEscape]
  simp only [Result.andThen]
  rw [Oper.upon_value]
  go_wp2
  rw [Lib.run_from_unsafe w ⟨b, 0, none⟩ Try.underlying127 Try.underlying109 hj hsh liesBuilder]
  simp only [Result.andThen]
  rw [Oper.upon_value]
  go_wp2
  go_end0
  exact ⟨rfl, rfl⟩
theorem string_some (b g cap : Nat) (l : List UInt8) (p : Value) (cur : Array Value) (w : World) (h0 : l ≠ []) (hbk : w.heap[b]? = some (.cells #[p, .slice (some ⟨g, 0, none⟩) l.length cap] 112 (0, 0)))
    (hg : w.heap[g]? = some (.cells cur 5 (0, 0))) (hnc : l.length ≤ cap) (hcm : cap ≤ maxLen) (hcs : cur.size = cap) (hcell : ∀ j x, l[j]? = some x → w.cell? ⟨g, j, none⟩ = some (.int .u8 x.toNat)) :
    Calls Try.prog 55 #[.pointer (some ⟨b, 0, none⟩)] w fun e w' => e = .returned (.string ⟨l.toArray⟩) ∧ w' = w.drew.freeze ⟨g, 0, none⟩ l.length := by
  have hl0 : l.length ≠ 0 := by simpa using h0
  have c1 : w.drew.cell? ⟨b, 1, none⟩ = some (.slice (some ⟨g, 0, none⟩) l.length cap) := by
    have : w.drew.heap[b]? = some (.cells #[p, .slice (some ⟨g, 0, none⟩) l.length cap] 112 (0, 0)) := hbk
    rw [Lib.cell_of_heap this]; rfl
  have hSD : (Builtin.unsafeSliceData_ #[110] 121 #[.slice (some ⟨g, 0, none⟩) l.length cap]).run Try.prog w.drew = .ok (.pointer (some ⟨g, 0, none⟩)) w.drew :=
    Lib.run_unsafeSliceData_row _ _ _ _ _ _ (by omega)
  have hUS : (Builtin.unsafeString_ #[121, 3] 9 #[.pointer (some ⟨g, 0, none⟩), .int .i64 l.length]).run Try.prog w.drew = .ok (.string ⟨l.toArray⟩) (w.drew.freeze ⟨g, 0, none⟩ l.length) := by
    refine Lib.run_unsafeString_row w.drew 121 3 9 5 Try.underlying121 cellsByte g cur.size (by have hg' : w.drew.heap[g]? = some (.cells cur 5 (0, 0)) := hg; simp [World.shape?, hg']) l h0 (by omega) (by unfold maxLen at hcm; omega) ?_
    intro j x hx
    rw [Addr.add_mid, Nat.zero_add]
    exact hcell j x hx
  go_enter Try.func55, Try.ntmps55
  go_wp2
  go_region
  all_goals (go_wp2; go_ret; exact ⟨rfl, rfl⟩)
theorem string_nil (b : Nat) (p : Value) (w : World) (hbk : w.heap[b]? = some (.cells #[p, .slice none 0 0] 112 (0, 0))) :
    Calls Try.prog 55 #[.pointer (some ⟨b, 0, none⟩)] w fun e w' => e = .returned (.string ⟨#[]⟩) ∧ w' = w.drew := by
  have hUS : ∀ (W : World) (q : Option Addr), (Builtin.unsafeString_ #[121, 3] 9 #[.pointer q, .int .i64 0]).run Try.prog W = .ok (.string .empty) W := fun W q => Lib.run_unsafeString_none W _ _ _ q
  have c1 : w.drew.cell? ⟨b, 1, none⟩ = some (.slice none 0 0) := by
    have : w.drew.heap[b]? = some (.cells #[p, .slice none 0 0] 112 (0, 0)) := hbk
    rw [Lib.cell_of_heap this]; rfl
  have hSD : (Builtin.unsafeSliceData_ #[110] 121 #[.slice none 0 0]).run Try.prog w.drew = .ok (.pointer none) w.drew := rfl
  go_enter Try.func55, Try.ntmps55
  go_wp2
  go_region
  all_goals (go_wp2; go_ret; exact ⟨rfl, rfl⟩)
theorem string_room (b g cap : Nat) (p : Value) (w : World) (hc0 : cap ≠ 0) (hbk : w.heap[b]? = some (.cells #[p, .slice (some ⟨g, 0, none⟩) 0 cap] 112 (0, 0))) :
    Calls Try.prog 55 #[.pointer (some ⟨b, 0, none⟩)] w fun e w' => e = .returned (.string ⟨#[]⟩) ∧ w' = w.drew := by
  have hUS : ∀ (W : World) (q : Option Addr), (Builtin.unsafeString_ #[121, 3] 9 #[.pointer q, .int .i64 0]).run Try.prog W = .ok (.string .empty) W := fun W q => Lib.run_unsafeString_none W _ _ _ q
  have c1 : w.drew.cell? ⟨b, 1, none⟩ = some (.slice (some ⟨g, 0, none⟩) 0 cap) := by
    have : w.drew.heap[b]? = some (.cells #[p, .slice (some ⟨g, 0, none⟩) 0 cap] 112 (0, 0)) := hbk
    rw [Lib.cell_of_heap this]; rfl
  have hSD : (Builtin.unsafeSliceData_ #[110] 121 #[.slice (some ⟨g, 0, none⟩) 0 cap]).run Try.prog w.drew = .ok (.pointer (some ⟨g, 0, none⟩)) w.drew :=
    Lib.run_unsafeSliceData_row _ _ _ _ _ _ hc0
  clear hc0
  go_enter Try.func55, Try.ntmps55
  go_wp2
  go_region
  all_goals (go_wp2; go_ret; exact ⟨rfl, rfl⟩)
theorem string_noroom (b g : Nat) (p : Value) (cur : Array Value) (w : World) (hbk : w.heap[b]? = some (.cells #[p, .slice (some ⟨g, 0, none⟩) 0 0] 112 (0, 0))) (hg : w.heap[g]? = some (.cells cur 5 (0, 0))) :
    Calls Try.prog 55 #[.pointer (some ⟨b, 0, none⟩)] w fun e w' => e = .returned (.string ⟨#[]⟩) ∧ w' = w.drew.alloc (.view ⟨g, 0, none⟩ 5) := by
  have hUS : ∀ (W : World) (q : Option Addr), (Builtin.unsafeString_ #[121, 3] 9 #[.pointer q, .int .i64 0]).run Try.prog W = .ok (.string .empty) W := fun W q => Lib.run_unsafeString_none W _ _ _ q
  have hlt : b < w.heap.size := by
    rcases Nat.lt_or_ge b w.heap.size with h' | h'
    · exact h'
    · simp [Array.getElem?_eq_none h'] at hbk
  have c1 : w.drew.cell? ⟨b, 1, none⟩ = some (.slice (some ⟨g, 0, none⟩) 0 0) := by
    have : w.drew.heap[b]? = some (.cells #[p, .slice (some ⟨g, 0, none⟩) 0 0] 112 (0, 0)) := hbk
    rw [Lib.cell_of_heap this]; rfl
  have hSD : (Builtin.unsafeSliceData_ #[110] 121 #[.slice (some ⟨g, 0, none⟩) 0 0]).run Try.prog w.drew = .ok (.pointer (some ⟨w.drew.heap.size, 0, none⟩)) (w.drew.alloc (.view ⟨g, 0, none⟩ 5)) :=
    Lib.run_unsafeSliceData_zero w.drew _ _ 5 Try.underlying121 ⟨g, 0, none⟩ 0 (5, cur.size) (by have hg' : w.drew.heap[g]? = some (.cells cur 5 (0, 0)) := hg; simp [World.shape?, hg'])
  have c2 : (w.drew.alloc (.view ⟨g, 0, none⟩ 5)).cell? ⟨b, 1, none⟩ = some (.slice (some ⟨g, 0, none⟩) 0 0) := by
    have : (w.drew.alloc (.view ⟨g, 0, none⟩ 5)).heap[b]? = _ := (Lib.alloc_old w.drew _ b hlt).trans hbk
    rw [Lib.cell_of_heap this]; rfl
  have c3 : (w.alloc (.view ⟨g, 0, none⟩ 5)).drew.cell? ⟨b, 1, none⟩ = some (.slice (some ⟨g, 0, none⟩) 0 0) := c2
  have c0 : w.cell? ⟨b, 1, none⟩ = some (.slice (some ⟨g, 0, none⟩) 0 0) := c1
  go_enter Try.func55, Try.ntmps55
  go_wp2
  go_region
  all_goals (go_wp2; go_ret; exact ⟨rfl, rfl⟩)

/-- The two contracts. -/
def conB (O : Leaf) : Contracts := fun f => match f with
  | 66 => some fun args H κ => match args with
    | [.p i 0] => match H[i]? with
      | some (.cells [x, y] ty) => match Nat.beq ty 112 with
        | true => (x = .v (.pointer none) ∨ x = .p i 0) ∧ κ (.t []) (H.set i (.cells [.p i 0, y] 112))
        | false => False
      | _ => False
    | _ => False
  | 55 => some fun args H κ => match args with
    | [.p i 0] => match H[i]? with
      | some (.cells [_, .o r ver] ty) => match H[r]? with
        | some (.row rt 1 n get ver') => match Nat.beq ty 112 && Nat.beq rt 5 with
          | true => O.eqn ver ver' ∧ ∃ s : ByteArray, O.eqn (O.ssize s) n ∧ (∀ j, j < n → get j = [.v (.int .u8 (O.byte s (O.of j)))]) ∧ κ (.v (.string s)) (H.set r .gone)
          | false => False
        | _ => False
      | _ => False
    | _ => False
  | _ => none
theorem grownBy_freeze (w : World) (g n : Nat) : w.grownBy (w.freeze ⟨g, 0, none⟩ n) (some g) := by
  unfold World.freeze
  split
  · exact ⟨rfl, rfl, rfl, Nat.le_refl _, fun _ _ _ => rfl⟩
  · refine ⟨rfl, rfl, rfl, by simp, fun k hk hne => ?_⟩
    have hne' : g ≠ k := fun e => hne (by rw [e])
    simp [Array.getElem?_modify, hne']
theorem grownBy_drew (w : World) (r : Option Nat) : w.grownBy w.drew r := ⟨rfl, rfl, rfl, Nat.le_refl _, fun _ _ _ => rfl⟩
theorem conB_ok : ContractsOk Try.prog (conB std) := by
  constructor
  intro f m hm
  unfold conB at hm
  split at hm
  · cases hm
    rintro g args H κ ⟨rfl, h⟩
    refine ⟨⟨_, Try.func66, rfl, rfl⟩, fun E vals hO hr => ?_⟩
    split at h
    case h_2 => exact h.elim
    rename_i i
    split at h
    case h_2 => exact h.elim
    rename_i x y ty hi
    simp only [relL, rel] at hr
    obtain ⟨_, _, rfl, ⟨b, hb, rfl⟩, rfl⟩ := hr
    obtain ⟨b', us, q1, q2, q3, q4⟩ := hO.blocks i _ hi
    rw [hb] at q1; cases q1
    split at h
    case h_2 => exact h.elim
    rename_i hty
    have e := Nat.eq_of_beq_eq_true hty
    subst e
    obtain ⟨hx, hκ⟩ := h
    rcases hx with rfl | rfl
    · simp only [relL, rel] at q4
      obtain ⟨u0, us0, rfl, rfl, vy, us1, rfl, hy, rfl⟩ := q4
      have h0 : E.w.cell? ⟨b, 0, none⟩ = some (.pointer none) := by rw [Lib.cell_of_heap q3]; rfl
      refine (check_fresh b E.w h0 (by simp [World.shape?, q3]) (by simp [World.frozen?, q3])).mono ?_
      rintro e w' ⟨rfl, rfl⟩
      obtain ⟨k3, k4⟩ := store_ok hO hi hb (off := 0) (xs := [.p i 0]) (vs := [.pointer (some ⟨b, 0, none⟩)]) (relL_cons (by simp only [rel]; exact ⟨b, hb, rfl⟩) (relL_nil _)) (by simp)
      exact ⟨_, _, _, _, rfl, rfl, k3, k4, by simp, by simp only [rel, relL]; exact ⟨[], rfl, rfl⟩, hκ⟩
    · simp only [relL, rel] at q4
      obtain ⟨u0, us0, rfl, ⟨b2, hb2, rfl⟩, vy, us1, rfl, hy, rfl⟩ := q4
      rw [hb] at hb2; cases hb2
      have h0 : E.w.cell? ⟨b, 0, none⟩ = some (.pointer (some ⟨b, 0, none⟩)) := by rw [Lib.cell_of_heap q3]; rfl
      have hset : H.set i (.cells [.p i 0, y] 112) = H := by
        apply List.ext_getElem?
        intro j
        rw [List.getElem?_set]
        split
        · rename_i e; subst e; rw [hi]; simp [(List.getElem?_eq_some_iff.1 hi).1]
        · rfl
      rw [hset] at hκ
      refine (check_used b E.w h0).mono ?_
      rintro e w' ⟨rfl, rfl⟩
      exact ⟨_, E, _, _, rfl, rfl, Ext.refl E, hO, Nat.le_refl _, by simp only [rel, relL]; exact ⟨[], rfl, rfl⟩, hκ⟩
  · cases hm
    rintro g args H κ ⟨rfl, h⟩
    refine ⟨⟨_, Try.func55, rfl, rfl⟩, fun E vals hO hr => ?_⟩
    split at h
    case h_2 => exact h.elim
    rename_i i
    split at h
    case h_2 => exact h.elim
    rename_i x r ver ty hi
    split at h
    case h_2 => exact h.elim
    rename_i rt n get ver' hir
    split at h
    case h_2 => exact h.elim
    rename_i hty
    simp only [Bool.and_eq_true] at hty
    have e1 := Nat.eq_of_beq_eq_true hty.1
    have e2 := Nat.eq_of_beq_eq_true hty.2
    subst e1 e2
    obtain ⟨heq, s, hsn, hget, hκ⟩ := h
    simp only [std] at heq hsn hget
    subst heq
    simp only [relL, rel] at hr
    obtain ⟨_, _, rfl, ⟨b, hb, rfl⟩, rfl⟩ := hr
    obtain ⟨b', us, q1, q2, q3, q4⟩ := hO.blocks i _ hi
    rw [hb] at q1; cases q1
    simp only [relL, rel] at q4
    obtain ⟨u0, us0, rfl, hx0, vy, us1, rfl, hy, rfl⟩ := q4
    obtain ⟨u, xs, p1, p0, p2, p3, p5, p4⟩ := hO.blocks r _ hir
    rw [hy.1] at p1; cases p1
    have hbk : blk E r (.row 5 1 n get ver) = vy.ownBlock := by simp [blk, hy.1]
    -- the call, whatever the row
    have main : Calls Try.prog 55 #[.pointer (some ⟨b, 0, none⟩)] E.w fun e w' => e = .returned (.string s) ∧ E.w.grownBy w' vy.ownBlock := by
      have hs0 : n = 0 → s = ⟨#[]⟩ := fun h0 => by
        have : s.data.size = 0 := by rw [h0] at hsn; exact hsn
        cases s with | mk d => simp at this; rw [this]
      rcases p2.2 with ⟨rfl, hn⟩ | ⟨g, cap, cur, rfl, _, hh, hnc, hcm, hcs, ht⟩
      · rw [hs0 hn]
        exact (string_nil b u0 E.w q3).mono fun e w' ⟨h1, h2⟩ => ⟨h1, h2 ▸ grownBy_drew _ _⟩
      · by_cases hn : n = 0
        · rw [hs0 hn]
          rw [hn] at q3
          by_cases hc : cap = 0
          · subst hc
            refine (string_noroom b g u0 cur E.w q3 hh).mono fun e w' ⟨h1, h2⟩ => ⟨h1, h2 ▸ ⟨rfl, rfl, rfl, by simp, fun k hk _ => ?_⟩⟩
            exact (alloc_old E.w.drew _ hk).trans rfl
          · exact (string_room b g cap u0 E.w hc q3).mono fun e w' ⟨h1, h2⟩ => ⟨h1, h2 ▸ grownBy_drew _ _⟩
        · have hl : s.data.toList.length = n := by simpa using hsn
          rw [← hl] at q3 hnc
          refine (string_some b g cap s.data.toList u0 cur E.w (by intro e; rw [e] at hl; simp at hl; omega) q3 hh hnc hcm (by omega) (fun j x hjx => ?_)).mono fun e w' ⟨h1, h2⟩ => ⟨by simpa using h1, by rw [h2]; have := grownBy_freeze E.w.drew g s.data.toList.length; exact ⟨this.os, this.tape, this.output, this.size, this.block⟩⟩
          · have hj : j < n := by rw [← hl]; exact (List.getElem?_eq_some_iff.1 hjx).1
            have hg := p4 j hj
            rw [hget j hj] at hg
            simp only [relL, rel] at hg
            obtain ⟨y, ys, hg1, rfl, rfl⟩ := hg
            have hc := p2.cells (g := g) rfl j
            have hxj : xs[j]? = some (.int .u8 x.toNat) := by
              have h1 : ((xs.drop (j * 1)).take 1)[0]? = some (.int .u8 ((s.data.toList.getD (Int.toNat (j : Int)) 0).toNat : Int)) := by rw [hg1]; rfl
              rw [List.getElem?_take_of_lt (by omega), List.getElem?_drop] at h1
              simp only [Nat.mul_one, Nat.add_zero, Int.toNat_natCast] at h1
              rw [h1]
              simp [List.getD, hjx]
            have := hc _ hxj
            rwa [Addr.add_mid, Nat.zero_add] at this
    refine main.mono ?_
    rintro e w' ⟨rfl, hg⟩
    have hilt : r < H.length := (List.getElem?_eq_some_iff.1 hir).1
    have hx : Ext E { E with w := w' } := ⟨hg.os, hg.tape, hg.output, hg.size, fun _ _ h => h, fun _ _ _ h => h, fun c hc => ⟨hg.block c hc.1 (fun e => hc.2 (p3 c e.symm)), hc.2⟩,
      fun c hc => ⟨hg.block c (hO.flt c hc) (fun e => hO.fown r _ c hir (hbk.trans e.symm) hc), hc⟩⟩
    refine ⟨_, { E with w := w' }, _, _, rfl, rfl, hx, write_ok (h1 := .gone) hO hir hx rfl (fun _ h => h) (fun c hc => Nat.lt_of_lt_of_le (hO.tlt c hc) hg.size) (fun c hc hne => hg.block c hc (fun e => hne (hbk.trans e.symm))) trivial (fun c hc => by cases hc) hO.fresh ?_, by simp, by simp only [rel], hκ⟩
    intro j ty' sz' n' get' ver' hj
    by_cases e : j = r
    · rw [if_pos e] at hj; cases hj
    · rw [if_neg e] at hj; exact hO.ver j ty' sz' n' get' ver' hj
  · cases hm
end Go.Sx.Bld
