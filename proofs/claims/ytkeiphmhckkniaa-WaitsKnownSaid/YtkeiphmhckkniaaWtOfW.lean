/-
  Walk of waits.Graph.of: an iterator over what a node points to.
  No condition but sizes.
-/
import Derived.Test.YtkeiphmhckkniaaWtOf
import Derived.Test.YtkeiphmhckkniaaHsMem
namespace Go.Proofs.Ytkeiphmhckkniaa
open Go Go.RowKit Go.Sort

/-- What node i points to, rising, each once. -/
def ofP (G : List (List Int)) (i : Nat) : List Int := Lib.compact (sortZ ((G.getD i []).filter fun k => !outB G.length k))
theorem ofP_inc (G : List (List Int)) (i : Nat) : Inc (ofP G i) := (compact_spec _ (sortZ_sorted _)).1
theorem mem_ofP {G : List (List Int)} {i : Nat} {y : Int} : y ∈ ofP G i ↔ y ∈ G.getD i [] ∧ 0 ≤ y ∧ y < G.length := by
  unfold ofP
  rw [(compact_spec _ (sortZ_sorted _)).2, (sortZ_perm _).mem_iff, List.mem_filter]
  refine and_congr_right fun _ => ?_
  unfold outB
  simp only [Bool.not_eq_true', Bool.or_eq_false_iff, decide_eq_false_iff_not]
  omega
theorem ofP_len {G : List (List Int)} {i : Nat} : (ofP G i).length ≤ (G.getD i []).length := by
  unfold ofP
  refine Nat.le_trans (compact_len _) ?_
  rw [sortZ_len]
  exact List.length_filter_le _ _
abbrev valF (bs : Nat) : Value := .func (.func 49) #[] #[.pointer (some ⟨bs, 0, none⟩)]
set_option maxHeartbeats 400000 in
theorem values_any (a : Option Addr) (n cap : Nat) (w : World) : Calls Try.prog 40 #[.slice a n cap] w fun e w' => e = .returned (valF w.heap.size) ∧ w' = w.alloc (.cells #[.slice a n cap] 27) := by
  go_enter Try.func40, Try.ntmps40
  go_wp2_with fail
  go_ret
  exact ⟨rfl, rfl⟩
/-- An iterator over the integers l, of the call's own. -/
structure SeqAt (w : World) (bs : Nat) (a : Option Addr) (cap : Nat) (l : List Int) : Prop where
  box : Bk w bs 27 [.slice a l.length cap]
  own : OwnInts w 3 (.slice a l.length cap) l
  ne : ∀ k, (Value.slice a l.length cap).ownBlock = some k → k ≠ bs
def OfRet (l : List Int) (w : World) (e : Ending) (w' : World) : Prop :=
  ∃ bs a cap, e = .returned (valF bs) ∧ SeqAt w' bs a cap l ∧ w.heap.size ≤ bs ∧ (∀ k, (Value.slice a l.length cap).ownBlock = some k → w.heap.size ≤ k) ∧ Fr w w' Nil
set_option maxRecDepth 100000 in
set_option maxHeartbeats 1000000 in
theorem of_any (gv : Value) (G : List (List Int)) (i : Nat) (w : World) (h : GraphAt w gv G) (hi : i < G.length) :
    Calls Try.prog 26 #[gv, .int .i64 (i : Int)] w (OfRet (ofP G i) w) := by
  obtain ⟨gb, goff, gcap, rfl, hgc⟩ := h.form (by omega)
  have hx := List.getElem?_eq_getElem hi
  obtain ⟨u, hu, hui, hul⟩ := hgc i _ hx
  have hxs : G[i] = G.getD i [] := by simp [List.getD_eq_getElem?_getD, hi]
  rw [hxs] at hui hul
  generalize hrow : G.getD i [] = xs at hui hul
  have HROW := Lib.hid hrow
  obtain ⟨ua, uc, rfl⟩ := hui.shape
  have hb0 : Bk (w.alloc (.cells #[.slice (some ⟨gb, goff, none⟩) G.length gcap] 23)) w.heap.size 23 [.slice (some ⟨gb, goff, none⟩) G.length gcap] := Bk.new w _ _
  have hf0 : Fr w (w.alloc (.cells #[.slice (some ⟨gb, goff, none⟩) G.length gcap] 23)) Nil := (Fr.refl w Nil).alloc _
  have q0 := hb0.cell 0
  simp only [List.getElem?_cons_zero] at q0
  have q1 := hf0.cell hu fun h => h
  have HB := Lib.hid hb0
  have HF0 := Lib.hid hf0
  have HU := Lib.hid hui
  have hii : (i : Int) < (G.length : Int) := by omega
  clear h hgc hx hxs hrow hu hui hb0 hf0
  go_enter Try.func26, Try.ntmps26
  go_wp2_with fail
  refine (clone_int _ xs _ (HU.out.fr HF0.out fun _ _ h => h) hul).mono ?_
  rintro e w1 ⟨a1, c1, rfl, ho1, hn1, hf1⟩
  have HO1 := Lib.hid ho1
  have HN1 := Lib.hid hn1
  have HF1 := Lib.hid hf1
  clear ho1 hn1 hf1
  go_wp2_with fail
  refine (delete_int _ xs w.heap.size G.length gcap _ w1 HO1.out (((HB.out.fr HF1.out fun h => h).cell 0).trans rfl) (fun k hk e => by have := HN1.out k hk; simp at this; omega) hul).mono ?_
  rintro e w2 ⟨a2, c2, rfl, ho2, hb2, hf2⟩
  have hfl := List.length_filter_le (fun k => !outB G.length k) xs
  have hLP : Lib.compact (sortZ (xs.filter fun k => !outB G.length k)) = ofP G i := by unfold ofP; rw [HROW.out]
  have HLP := Lib.hid hLP
  generalize (xs.filter fun k => !outB G.length k) = ys at ho2 hb2 hfl hLP HLP ⊢
  have HO2 := Lib.hid ho2
  have HN2 : Hid (∀ k, (Value.slice a2 ys.length c2).ownBlock = some k → w.heap.size < k) := fun k hk => by rw [hb2] at hk; have := HN1.out k hk; simp at this; omega
  have HF2 : Hid (Fr w w2 Nil) := (HF0.out.trans0 HF1.out).trans hf2 fun j hj hs => by have := HN1.out j hs; simp at this; omega
  clear ho2 hb2 hf2 hLP q0 q1
  go_wp2_with fail
  refine (sort_int _ ys w2 HO2.out (by omega)).mono ?_
  rintro e w3 ⟨rfl, ho3, hf3⟩
  have HO3 := Lib.hid ho3
  have HF3 : Hid (Fr w w3 Nil) := HF2.out.trans hf3 fun j hj hs => by have := HN2.out j hs; omega
  clear ho3 hf3
  go_wp2_with fail
  have hsl := sortZ_len ys
  rw [← hsl] at HO3 HN2 ⊢
  refine (compact_int _ (sortZ ys) w3 HO3.out (by omega)).mono ?_
  rintro e w4 ⟨a4, c4, rfl, ho4, hb4, hf4⟩
  rw [HLP.out] at ho4 hb4 ⊢
  have HN4 : Hid (∀ k, (Value.slice a4 (ofP G i).length c4).ownBlock = some k → w.heap.size < k) := fun k hk => by rw [hb4] at hk; exact HN2.out k hk
  have HO4 := Lib.hid ho4
  have HF4 : Hid (Fr w w4 Nil) := HF3.out.trans hf4 fun j hj hs => by have := HN2.out j hs; omega
  clear ho4 hb4 hf4
  go_wp2_with fail
  refine (values_any a4 (ofP G i).length c4 w4).mono ?_
  rintro e w5 ⟨rfl, rfl⟩
  go_wp2_with fail
  go_ret
  refine ⟨w4.heap.size, a4, c4, rfl, ⟨Bk.new w4 _ _, Fr.own ((Fr.refl w4 Nil).alloc _) HO4.out fun _ _ h => h, fun k hk => by have := HO4.out.lt k hk; omega⟩, by have := HF4.out.size; omega, fun k hk => by have := HN4.out k hk; omega, HF4.out.alloc _⟩
end Go.Proofs.Ytkeiphmhckkniaa
