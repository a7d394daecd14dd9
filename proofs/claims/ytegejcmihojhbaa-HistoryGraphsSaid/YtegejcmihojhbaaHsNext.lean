/-
  Walk of next: the nodes that can be next, rising.
  No condition but sizes.
-/
import Derived.Test.YtegejcmihojhbaaHsLeaf
import Derived.Test.YtegejcmihojhbaaHsNextP
namespace Go.Proofs.Ytegejcmihojhbaa
open Go Go.RowKit

/-- A row of bools of the call's own. -/
def OwnBools (w : World) (b n cap : Nat) (l : List Bool) : Prop := w.ownsRow 0 4 1 (.slice (some ⟨b, 0, none⟩) n cap) n (l.map Value.bool)
theorem OwnBools.cell {w : World} {b n cap : Nat} {l : List Bool} (h : OwnBools w b n cap l) (hl : l.length = n) (j : Nat) (hj : j < n) : w.cell? ⟨b, j, none⟩ = some (.bool (l.getD j false)) := by
  rw [World.ownsRow.cellAt h j (by omega)]
  simp [show j < l.length by omega]
theorem OwnBools.free {w : World} {b n cap : Nat} {l : List Bool} (h : OwnBools w b n cap l) (j : Nat) : w.frozen? ⟨b, j, none⟩ = false := World.ownsRow.frozenAt h j
theorem OwnBools.set {w : World} {b n cap : Nat} {l : List Bool} (h : OwnBools w b n cap l) (j : Nat) (u : Bool) : OwnBools (w.setCell ⟨b, j, none⟩ (.bool u)) b n cap (l.set j u) := by
  have := (World.ownsRow.stored h j (.bool u)).1
  unfold OwnBools
  rwa [List.map_set]
theorem OwnBools.fr0 {w w' : World} {b n cap : Nat} {l : List Bool} (h : OwnBools w b n cap l) (hf : Fr w w' Nil) : OwnBools w' b n cap l := hf.own h fun _ _ h => h
theorem OwnBools.at {w : World} {b n cap : Nat} {l : List Bool} (h : OwnBools w b n cap l) (hl : l.length = n) : BoolsAt w (.slice (some ⟨b, 0, none⟩) n cap) l := by
  unfold BoolsAt
  rw [hl]
  exact (SlAt.of_own h).1

theorem bools_form {w : World} {v : Value} {n : Nat} {l : List Value} (h : w.ownsRow 0 4 1 v n l) (hn : 0 < n) : ∃ b cap, v = .slice (some ⟨b, 0, none⟩) n cap ∧ n ≤ cap := by
  rcases h.2 with ⟨_, h0⟩ | ⟨g, cap, cur, hv, _, _, hc, _⟩
  · omega
  · exact ⟨g, cap, hv, hc⟩
def NextRet (l : List Nat) (w : World) (e : Ending) (w' : World) : Prop :=
  ∃ a cap, e = .returned (.slice a l.length cap) ∧ OwnInts w' 3 (.slice a l.length cap) (ints l) ∧ NewFrom w.heap.size (.slice a l.length cap) ∧ Fr w w' Nil

theorem ints_one (x : Int) : ∀ u ∈ [Value.int .i64 x], u.oneCell' = true := by simp [Value.oneCell']
theorem one_new (w : World) (e : TypeId) (x : Value) : SlAt (w.alloc (.cells #[x] e)) 1 (.slice (some ⟨w.heap.size, 0, none⟩) 1 1) 1 [x] := by
  have := (SlAt.of_own (World.ownsRow_lit (base := 0) (e := e) (size := 1) w #[x] 1 (Nat.zero_le _) (by decide) rfl)).1
  simpa using this
theorem one_at (w : World) (e : TypeId) (x : Value) (b : Nat) (hb : w.heap.size = b) : SlAt (w.alloc (.cells #[x] e)) 1 (.slice (some ⟨b, 0, none⟩) 1 1) 1 [x] := by
  subst hb
  exact one_new w e x
theorem own_snoc {w : World} {v : Value} {l : List Nat} {x : Nat} (h : w.ownsRow 0 3 1 v (l.length + 1) ((ints l).map (Value.int .i64) ++ [.int .i64 (x : Int)])) : OwnInts w 3 v (ints (l ++ [x])) := by
  unfold OwnInts
  have e : (ints (l ++ [x])).length = l.length + 1 := by simp [ints]
  rw [e]
  have e2 : (ints (l ++ [x])).map (Value.int .i64) = (ints l).map (Value.int .i64) ++ [.int .i64 (x : Int)] := by simp [ints]
  rw [e2]; exact h

/-- Behind 'l = append(l, x)', l being of the call's own. -/
theorem app_snoc {B : Nat} {wr w' : World} {v v' : Value} {l : List Nat} {x : Nat} {o : Obj} (hn : NewFrom B v) (hB : B ≤ wr.heap.size)
    (ho : w'.ownsRow 0 3 1 v' ((ints l).length + 1) ((ints l).map (Value.int .i64) ++ [.int .i64 (x : Int)])) (hg : (wr.alloc o).grownBy w' v.ownBlock) (hb : v'.ownBlock = v.ownBlock ∨ v'.ownBlock = some (wr.heap.size + 1)) :
    OwnInts w' 3 v' (ints (l ++ [x])) ∧ NewFrom B v' ∧ Fr wr w' (fun j => B ≤ j) := by
  rw [ints_len] at ho
  refine ⟨own_snoc ho, fun k hk => ?_, ?_⟩
  · rcases hb with hb | hb
    · exact hn k (by rw [← hb, hk])
    · rw [hk] at hb; cases hb; omega
  · exact ((Fr.refl wr _).alloc o).grown hg fun k hk _ => hn k hk

set_option maxRecDepth 100000 in
set_option maxHeartbeats 1000000 in
theorem next_any (gv tv : Value) (G : List (List Int)) (out : List Nat) (w : World) (hg : GraphAt w gv G) (ht : BoolsAt w tv (thOf G.length out)) (hl : G.length ≤ 100000) :
    Calls Try.prog 31 #[gv, tv] w (NextRet (nextO G out) w) := by
  obtain ⟨ga, gcap, rfl⟩ := hg.shape
  obtain ⟨ta, tcap, rfl⟩ := SlAt.shape ht
  have Hn : Hid ((thOf G.length out).length = G.length) := thOf_len _ _
  rw [thOf_len] at ht ⊢
  have HG := Lib.hid hg
  have HT := Lib.hid ht
  clear hg ht
  have HR := Lib.hid (freeTo_next G out)
  generalize nextO G out = nx at *
  generalize thOf G.length out = th at *
  go_enter Try.func31, Try.ntmps31
  go_wp2_with fail
  refine (clone_bools _ th _ ?_ ?_).mono ?_
  · exact HT.out
  · rw [Hn.out]; omega
  rintro e w1 ⟨ba, bcap, rfl, hown, hnew, hf⟩
  rw [Hn.out] at hown hnew ⊢
  have Hown := Lib.hid hown
  have Hnew := Lib.hid hnew
  have Hf := Lib.hid hf
  clear hown hnew hf
  go_wp2_with fail
  go_loopw [6, 7, 9, 17] (fun _ _ _ vi wr => ∃ k : Nat, k ≤ G.length ∧ vi = .int .i64 k ∧ wr.ownsRow 0 4 1 (.slice ba G.length bcap) G.length ((blockTo G th k).map Value.bool) ∧ Fr w wr Nil)
    (fun _ _ _ vi _ => G.length - (intOf vi).toNat)
  case atStart => exact ⟨0, by omega, rfl, Hown.out, Hf.out⟩
  case round =>
    obtain ⟨k, hk, rfl, hb, hf⟩ := hrel
    obtain ⟨wo, rfl⟩ : ∃ wo : World, wo = wr := ⟨_, rfl⟩
    by_cases hlt : k < G.length
    · obtain ⟨gb, goff, gcap2, hgv, hgc⟩ := HG.out.form (by omega)
      simp only [Value.slice.injEq, true_and] at hgv
      obtain ⟨rfl, rfl⟩ := hgv
      obtain ⟨tb, toff, tcap2, htv, htc⟩ := BoolsAt.form HT.out (by rw [Hn.out]; omega)
      simp only [Value.slice.injEq, Hn.out, true_and] at htv
      obtain ⟨rfl, rfl⟩ := htv
      obtain ⟨bb, bcap2, hbv, _⟩ := bools_form hb (by omega)
      simp only [Value.slice.injEq, true_and] at hbv
      obtain ⟨rfl, rfl⟩ := hbv
      obtain ⟨u, hu, hx, hxl⟩ := hgc k G[k] (List.getElem?_eq_getElem hlt)
      have hgd : G.getD k [] = G[k] := by simp [List.getD_eq_getElem?_getD, hlt]
      have ht1 := htc k (by rw [Hn.out]; omega)
      have HS := Lib.hid (blockTo_succ G th k)
      rw [hgd] at HS
      have HL := Lib.hid (blockTo_len G th k)
      clear hgd htc hgc
      generalize G[k] = xs at *
      generalize th.getD k false = t at *
      generalize blockTo G th k = bl at *
      obtain ⟨xa, xcap, rfl⟩ := hx.shape
      have q0 := hf.cell hu (fun h => h)
      have q1 := hf.cell ht1 (fun h => h)
      have HX : Hid (∀ wr, Fr w wr Nil → IntsAt wr (.slice xa xs.length xcap) xs) := fun wr hf => hx.fr hf fun _ _ h => h
      have Hq1 : Hid (∀ wr, Fr w wr Nil → wr.cell? ⟨tb, toff + k, none⟩ = some (.bool t)) := fun wr hf => hf.cell ht1 fun h => h
      have Hb := Lib.hid hb
      have Hbn : Hid (w.heap.size ≤ bb) := Hnew.out bb rfl
      have Hfo := Lib.hid hf
      clear hb hx hf hu ht1
      go_wp2_with fail
      go_loopw [9, 24] (fun _ vm wr => ∃ m : Nat, m ≤ xs.length ∧ vm = .int .i64 m ∧ OwnBools wr bb G.length bcap ((marks t bl (xs.take m))) ∧ Fr w wr Nil)
        (fun _ vm _ => xs.length - (intOf vm).toNat)
      case atStart => exact ⟨0, by omega, rfl, by cases t <;> exact Hb.out, Hfo.out⟩
      case round =>
        obtain ⟨m, hm, rfl, hb, hf⟩ := hrel
        have Hb2 := Lib.hid hb
        have Hf2 := Lib.hid hf
        clear hb hf
        have q2 : wr.cell? ⟨tb, toff + k, none⟩ = some (.bool t) := Hq1.out wr Hf2.out
        by_cases hlt2 : m < xs.length
        · obtain ⟨xb, xoff, xcap2, hxv, hxc⟩ := (HX.out wr Hf2.out).form (by omega)
          simp only [Value.slice.injEq, true_and] at hxv
          obtain ⟨rfl, rfl⟩ := hxv
          have hg := List.getElem?_eq_getElem hlt2
          have hs := List.take_succ_eq_append_getElem hlt2
          have q3 := hxc m _ hg
          generalize xs[m] = x at *
          clear hxc hg
          have Hs := Lib.hid hs
          clear hs
          cases t with
          | true =>
            go_wp2_with fail
            go_roundw
            case rel => exact ⟨m + 1, by omega, by go_num, by rw [Hs.out, marks_snoc_skip]; exact Hb2.out, Hf2.out⟩
            case measure => simp [intOf]; omega
          | false =>
            by_cases h0 : 0 ≤ x
            · by_cases h1 : x < (G.length : Int)
              · obtain ⟨j, rfl⟩ := Int.eq_ofNat_of_zero_le h0
                have q4 := OwnBools.cell Hb2.out (by rw [marks_len, HL.out, Hn.out]) j (by omega)
                have q5 := OwnBools.free Hb2.out j
                go_wp2_with fail
                go_roundw
                case rel =>
                  refine ⟨m + 1, by omega, by go_num, ?_, Hf2.out.setCell (fun h => absurd Hbn.out (by simp at h; omega)) _⟩
                  rw [Hs.out, marks_snoc, mark_in (by rw [marks_len, HL.out, Hn.out]; omega)]
                  exact Hb2.out.set j true
                case measure => simp [intOf]; omega
              · have h1' : (G.length : Int) ≤ x := by omega
                clear h1
                go_wp2_with fail
                go_roundw
                case rel =>
                  refine ⟨m + 1, by omega, by go_num, ?_, Hf2.out⟩
                  rw [Hs.out, marks_snoc, mark_out (.inr (by rw [marks_len, HL.out, Hn.out]; exact h1'))]
                  exact Hb2.out
                case measure => simp [intOf]; omega
            · have h0' : x < 0 := by omega
              clear h0
              go_wp2_with fail
              go_roundw
              case rel =>
                refine ⟨m + 1, by omega, by go_num, ?_, Hf2.out⟩
                rw [Hs.out, marks_snoc, mark_out (.inl h0')]
                exact Hb2.out
              case measure => simp [intOf]; omega
        · obtain rfl : m = xs.length := by omega
          rw [List.take_length] at Hb2
          clear q2
          go_wp2_with fail
          go_roundw
          case rel => exact ⟨k + 1, by omega, by go_num, by rw [HS.out]; exact Hb2.out, Hf2.out⟩
          case measure => simp [intOf]; omega
    · obtain rfl : k = G.length := by omega
      have Hb := Lib.hid hb
      have Hf1 := Lib.hid hf
      clear hb hf
      have HL := Lib.hid (blockTo_len G th G.length)
      generalize blockTo G th G.length = bl at *
      go_wp2_with fail
      go_loopw [10, 11, 12, 50] (fun vl _ _ vi wr => ∃ m : Nat, m ≤ G.length ∧ vi = .int .i64 m ∧ OwnInts wr 3 vl (ints (freeTo bl m)) ∧ NewFrom wo.heap.size vl ∧ Fr wo wr Nil)
        (fun _ _ _ vi _ => G.length - (intOf vi).toNat)
      case atStart => exact ⟨0, by omega, rfl, World.ownsRow_nil _ _ _ _, fun k hk => by simp [Value.ownBlock] at hk, Fr.refl _ _⟩
      case round =>
        obtain ⟨m, hm, rfl, ho, hn, hf⟩ := hrel
        have Ho := Lib.hid ho
        have HN := Lib.hid hn
        have Hf2 := Lib.hid hf
        clear ho hn hf
        by_cases hlt2 : m < G.length
        · obtain ⟨bb, bcap2, hbv, _⟩ := bools_form Hb.out (by omega)
          simp only [Value.slice.injEq, true_and] at hbv
          obtain ⟨rfl, rfl⟩ := hbv
          have q0 := OwnBools.cell (OwnBools.fr0 Hb.out Hf2.out) (by rw [HL.out, Hn.out]) m hlt2
          have HS := Lib.hid (freeTo_succ bl m)
          generalize bl.getD m false = t at *
          cases t with
          | true =>
            go_wp2_with fail
            go_roundw
            case rel => exact ⟨m + 1, by omega, by go_num, by rw [HS.out]; exact Ho.out, HN.out, Hf2.out⟩
            case measure => simp [intOf]; omega
          | false =>
            have Hlen : Hid ((ints (freeTo bl m)).length + 1 ≤ 1000000) := by
              have h1 := freeTo_len bl m
              have : (ints (freeTo bl m)).length + 1 ≤ 1000000 := by rw [ints_len]; omega
              exact this
            go_wp2_with (at_builtin; go_loud (refine wpList_app _ rfl _ _ 28 rfl Try.sltInt _ rfl (World.ownsRow.alloc Ho.out _) _ rfl (one_new _ _ _) (ints_one _) Hlen.out ?_))
            intro g cap w3 ho3 hg3 hb3
            have Ho3 := Lib.hid ho3
            have Hg3 := Lib.hid hg3
            have Hb3 := Lib.hid hb3
            clear ho3 hg3 hb3
            go_wp2_with fail
            go_roundw
            case rel =>
              have h1 := app_snoc HN.out Hf2.out.size Ho3.out Hg3.out Hb3.out
              exact ⟨m + 1, by omega, by go_num, by rw [HS.out]; exact h1.1, h1.2.1, Hf2.out.trans h1.2.2 fun j hj hj2 => absurd hj (by omega)⟩
            case measure => simp [intOf]; omega
        · obtain rfl : m = G.length := by omega
          have Ho2 := Ho.out
          rw [HR.out] at Ho2
          obtain ⟨a, c, rfl⟩ := Ho2.shape
          rw [ints_len] at Ho2 Ho HN
          have Ho3 := Lib.hid Ho2
          clear Ho2 Ho
          go_wp2_with fail
          go_ret
          exact ⟨a, c, by rw [← ints_len nx]; rfl, Ho3.out, fun k hk => Nat.le_trans Hf1.out.size (HN.out k hk), Hf1.out.trans0 Hf2.out⟩
end Go.Proofs.Ytegejcmihojhbaa
