/-
  The nodes that a node points to: copied, sorted, each once (waits.Graph.of).
  No condition but sizes.
-/
import Derived.Test.YtkeiphmhckkniaaCmpP
import Derived.Test.YtkeiphmhckkniaaHsSort
import Derived.Test.YtkeiphmhckkniaaHsShelf
import Derived.Maps.AppendAt
import Derived.Lib.Walk
namespace Go.Proofs.Ytkeiphmhckkniaa
open Go Go.RowKit Go.Sort

def CmpRetI (v : Value) (xs : List Int) (w : World) (e : Ending) (w' : World) : Prop :=
  ∃ a cap, e = .returned (.slice a (Lib.compact xs).length cap) ∧ OwnInts w' 3 (.slice a (Lib.compact xs).length cap) (Lib.compact xs) ∧ (Value.slice a (Lib.compact xs).length cap).ownBlock = v.ownBlock ∧ Fr w w' (fun k => v.ownBlock = some k)
theorem own_part {w : World} {g cap n q : Nat} {cur : Array Value} {xs ys : List Int} (hy : ys.length ≤ xs.length) (hb : 0 ≤ g) (hg : w.heap[g]? = some (.cells cur 3 (0, 0))) (h1 : xs.length ≤ cap) (h2 : cap ≤ maxLen) (h3 : cur.size = cap * 1) (hn : n = ys.length) :
    OwnInts (putRow (Value.int .i64) (Sort.ahead w q) g 0 (ys ++ List.replicate (xs.length - ys.length) 0).toArray) 3 (.slice (some ⟨g, 0, none⟩) n cap) ys ∧ Fr w (putRow (Value.int .i64) (Sort.ahead w q) g 0 (ys ++ List.replicate (xs.length - ys.length) 0).toArray) (fun k => some g = some k) := by
  subst hn
  have hts : (ys ++ List.replicate (xs.length - ys.length) 0).length = xs.length := by simp; omega
  have ho := ownsRow_sortedI (w := w) (base := 0) (g := g) (cap := cap) (n := q) (e := 3) (os := #[]) (cur := cur) (ss := xs) hts hb hg h1 h2 h3
  have hgr := grownBy_sortedI (w := w) (g := g) (n := q) (os := #[]) (ys ++ List.replicate (xs.length - ys.length) 0).toArray
  rw [grow_none] at ho hgr
  refine ⟨?_, (Fr.refl w _).grown hgr fun k hk _ => hk⟩
  rcases ho.2 with ⟨e1, _⟩ | ⟨g', cap', cur', e1, f1, f2, f3, f4, f5, f6⟩
  · cases e1
  cases e1
  refine ⟨by simp, .inr ⟨_, _, cur', rfl, f1, f2, by omega, f4, f5, ?_⟩⟩
  have := congrArg (List.take ys.length) f6
  rw [List.take_take, Nat.min_eq_left (by omega)] at this
  simpa using this
theorem compact_int (v : Value) (xs : List Int) (w : World) (h : OwnInts w 3 v xs) (hl : xs.length ≤ 1000000) : Calls Try.prog 41 #[v] w (CmpRetI v xs w) := by
  rcases h.2 with ⟨rfl, hn⟩ | ⟨g, cap, cur, rfl, hb, hg, h1, h2, h3, h4⟩
  · obtain rfl : xs = [] := List.eq_nil_of_length_eq_zero hn
    refine (AnyG.slices_Compact_int_empty Try.laysCompactInt none 0 w).mono ?_
    rintro e w' ⟨rfl, rfl⟩
    exact ⟨none, 0, rfl, h, rfl, Fr.refl _ _⟩
  · refine (AnyG.slices_Compact_int Try.laysCompactInt g 0 cap xs w (holds_of h).1 (by omega) h1).mono ?_
    rintro e w' ⟨rfl, q, rfl⟩
    obtain ⟨k1, k2⟩ := own_part (q := q) (compact_len xs) hb hg h1 h2 h3 rfl
    exact ⟨_, cap, rfl, k1, rfl, k2⟩
theorem Try.infoN : (Try.prog.info? 3).map (fun i => (i.zero, i.size, i.bytes)) = some (some (.int .i64 0), 1, 8) := by kernel_rfl
/-- slices.Clone: a row of its own, in a new block. -/
def ClonedN (xs : List Int) (w : World) (v : Value) (w' : World) : Prop := OwnInts w' 3 v xs ∧ NewFrom w.heap.size v ∧ Fr w w' Nil
set_option maxHeartbeats 400000 in
theorem clone_int (v : Value) (xs : List Int) (w : World) (h : IntsAt w v xs) (hl : xs.length ≤ 1000000) :
    Calls Try.prog 38 #[v] w (RetSl xs.length (ClonedN xs w)) := by
  obtain ⟨i0, hi, hz0, hz1, hz2⟩ := info_parts Try.infoN
  rcases h with ⟨rfl, rfl⟩ | ⟨a, cap, rfl, hc⟩
  · have e0 := fun (w : World) => Lib.run_eql_slice_nil (P := Try.prog) w 27 3 none 0 0 0 0 Try.underlying27
    go_enter Try.func38, Try.ntmps38
    go_wp2_with fail
    go_ret
    exact ⟨none, 0, rfl, World.ownsRow_nil _ _ _ _, fun k hk => by simp [Value.ownBlock] at hk, Fr.refl _ _⟩
  · have Hc := Lib.hid hc
    clear hc
    have e0 := fun (w : World) => Lib.run_eql_slice_nil (P := Try.prog) w 27 3 (some a) xs.length cap 0 0 Try.underlying27
    go_enter Try.func38, Try.ntmps38
    go_wp2_with (at_builtin; refine wpList_append_own _ rfl _ _ 27 rfl w.heap.size 3 i0 (.int .i64 0) 1 8 Try.underlying27 hi hz0 hz1 hz2 rfl (by decide) _ 0 [] rfl (World.ownsRow_made _ #[] 0 (Nat.le_refl _) (by decide) rfl) a xs.length cap (xs.map (.int .i64)) rfl ?c1 ?c2 ?c3 ?c4 ?c5 ?c6 ?_)
    case c1 => simp
    case c2 => exact fun j u hu => ((Fr.refl w Nil).alloc _).cell (Hc.out j u hu) (fun h => h)
    case c3 => exact ints_oneCell _ _
    case c4 => unfold maxLen; omega
    case c5 => omega
    case c6 => simp
    intro v' w' ho hg _
    have Ho := Lib.hid ho
    have Hg := Lib.hid hg
    clear ho hg
    go_wp2
    go_ret
    have Hos : ∃ a c, v' = .slice a xs.length c := OwnInts.shape (own_mono Ho.out (Nat.zero_le _))
    obtain ⟨a', c', rfl⟩ := Hos
    refine ⟨a', c', rfl, own_mono Ho.out (Nat.zero_le _), fun k hk => (World.ownsRow.lt Ho.out k hk).1, ?_⟩
    refine ((Fr.refl w Nil).alloc _).grown Hg.out ?_
    intro k hk hlt
    simp [Value.ownBlock] at hk
    omega
/-- No node. -/
def outB (n : Nat) (k : Int) : Bool := decide (k < 0) || decide ((n : Int) ≤ k)
set_option maxHeartbeats 400000 in
theorem of1_any (xb n c : Nat) (a : Option Addr) (k : Int) (w : World) (h : w.cell? ⟨xb, 0, none⟩ = some (.slice a n c)) :
    Calls Try.prog 39 (#[.int .i64 k] ++ #[.pointer (some ⟨xb, 0, none⟩)]) w fun e w' => e = .returned (.bool (outB n k)) ∧ ∃ q, w' = w.drewN q := by
  by_cases h0 : k < 0
  · have HO : Hid (outB n k = true) := by
      have : outB n k = true := by unfold outB; simp [h0]
      exact this
    go_enter Try.func39, Try.ntmps39
    go_wp2_with fail
    go_ret
    exact ⟨by rw [HO.out]; rfl, 0, rfl⟩
  · by_cases h1 : (n : Int) ≤ k
    · have HO : Hid (outB n k = true) := by
        have : outB n k = true := by unfold outB; simp [h1]
        exact this
      go_enter Try.func39, Try.ntmps39
      go_wp2_with fail
      go_ret
      exact ⟨by rw [HO.out]; rfl, 0, rfl⟩
    · have HO : Hid (outB n k = false) := by
        have : outB n k = false := by unfold outB; simp [h0, h1]
        exact this
      go_enter Try.func39, Try.ntmps39
      go_wp2_with fail
      go_ret
      exact ⟨by rw [HO.out]; rfl, 0, rfl⟩
set_option maxHeartbeats 400000 in
theorem index_none (f : Value) (w : World) : Calls Try.prog 48 #[.slice none 0 0, f] w fun e w' => e = .returned (.int .i64 (-1)) ∧ w = w' := by
  go_enter Try.func48, Try.ntmps48
  go_wp2_with fail
  go_loopw [8] (fun vi wr => vi = .int .i64 0 ∧ wr = w) (fun _ _ => 0)
  case atStart => exact ⟨rfl, rfl⟩
  case round =>
    obtain ⟨rfl, rfl⟩ := hrel
    go_wp2_with fail
    go_ret
    exact ⟨rfl, rfl⟩
set_option maxHeartbeats 400000 in
theorem delete_none (f : Value) (w : World) : Calls Try.prog 37 #[.slice none 0 0, f] w fun e w' => e = .returned (.slice none 0 0) ∧ w = w' := by
  go_enter Try.func37, Try.ntmps37
  go_wp2_with fail
  refine (index_none f w).mono ?_
  rintro e w1 ⟨rfl, rfl⟩
  go_wp2_with fail
  go_ret
  exact ⟨rfl, rfl⟩
def DelRet (v : Value) (xs : List Int) (n : Nat) (w : World) (e : Ending) (w' : World) : Prop :=
  ∃ a cap, e = .returned (.slice a (xs.filter fun k => !outB n k).length cap) ∧ OwnInts w' 3 (.slice a (xs.filter fun k => !outB n k).length cap) (xs.filter fun k => !outB n k) ∧ (Value.slice a (xs.filter fun k => !outB n k).length cap).ownBlock = v.ownBlock ∧ Fr w w' (fun k => v.ownBlock = some k)
theorem delete_int (v : Value) (xs : List Int) (xb n c : Nat) (a : Option Addr) (w : World) (h : OwnInts w 3 v xs) (hx : w.cell? ⟨xb, 0, none⟩ = some (.slice a n c)) (hne : ∀ k, v.ownBlock = some k → k ≠ xb) (hl : xs.length ≤ 1000000) :
    Calls Try.prog 37 #[v, .func (.func 39) #[] #[.pointer (some ⟨xb, 0, none⟩)]] w (DelRet v xs n w) := by
  rcases h.2 with ⟨rfl, hn⟩ | ⟨g, cap, cur, rfl, hb, hg, h1, h2, h3, h4⟩
  · obtain rfl : xs = [] := List.eq_nil_of_length_eq_zero hn
    refine (delete_none _ w).mono ?_
    rintro e w' ⟨rfl, rfl⟩
    exact ⟨none, 0, rfl, h, rfl, Fr.refl _ _⟩
  · have hgx : g ≠ xb := hne g rfl
    refine (AnyE.slices_DeleteFunc Try.laysDeleteInt (Value.int .i64) (fun _ => rfl) (outB n) 39 _ (enters_of Try.func39 (by kernel_rfl) rfl) 0 (fun w => Try.zeroValue3 w) g 0 cap xs.toArray w (fun W x hb => of1_any xb n c a x W ((hb.cell (World.block_lt_of_cell? w _ hx)).trans hx)) (fun m os dk x hd => of1_any xb n c a x _ ?_) (holds_of h).1 (by simp; omega) (by simpa using h1)).mono ?_
    · exact Fr.cell ((Fr.refl w (fun k => some g = some k)).grown (grownBy_sortedI (w := w) (g := g) (n := m) (os := os) dk) fun k hk _ => hk) hx fun e => hgx (by cases e; rfl)
    · rintro e w' ⟨rfl, q, rfl⟩
      obtain ⟨k1, k2⟩ := own_part (q := q) (List.length_filter_le (fun k => !outB n k) xs) hb hg h1 h2 h3 rfl
      exact ⟨_, cap, rfl, k1, rfl, k2⟩
end Go.Proofs.Ytkeiphmhckkniaa
