/-
  The walk of HistoryApart: it answers true.
  No condition.
-/
import Derived.Test.YtegejcmihojhbaaHsMore
import Derived.Test.YtegejcmihojhbaaHsIs
namespace Go.Proofs.Ytegejcmihojhbaa
open Go Go.RowKit

theorem five_at (w : World) (e : TypeId) (x0 x1 x2 x3 x4 : Value) (b : Nat) (hb : w.heap.size = b) : SlAt (w.alloc (.cells #[x0, x1, x2, x3, x4] e)) 5 (.slice (some ⟨b, 0, none⟩) 1 1) 1 [x0, x1, x2, x3, x4] := by
  subst hb
  exact sl_of_bk (Bk.new w e #[x0, x1, x2, x3, x4]) rfl
theorem touch_five (a b d : Int) (c f : Bool) : ∀ u ∈ [Value.int .i64 a, .int .i64 b, .bool c, .int .i64 d, .bool f], u.oneCell' = true := by
  intro u hu
  simp at hu
  rcases hu with rfl | rfl | rfl | rfl | rfl <;> rfl
/-- Touches in a row of the call's own. -/
def OwnTs (w : World) (v : Value) (ts : List TouchD) : Prop := w.ownsRow 0 46 5 v ts.length (ts.flatMap TouchD.vals)
theorem OwnTs.at {w : World} {v : Value} {ts : List TouchD} (h : OwnTs w v ts) : TouchesAt w v ts ∧ CapOk v := SlAt.of_own h
/-- A row of the call's own that holds f 0 .. f (k - 1). -/
def OwnN (w : World) (e : TypeId) (v : Value) (k : Nat) (f : Nat → Int) : Prop := w.ownsRow 0 e 1 v k ((List.range k).map fun i => Value.int .i64 (f i))
theorem OwnN.own {w : World} {e : TypeId} {v : Value} {k : Nat} {f : Nat → Int} (h : OwnN w e v k f) : OwnInts w e v ((List.range k).map f) := by
  unfold OwnInts
  rw [List.length_map, List.length_range, List.map_map]
  exact h
theorem OwnN.nil (w : World) (e : TypeId) (f : Nat → Int) : OwnN w e (.slice none 0 0) 0 f := World.ownsRow_nil _ _ _ _
theorem OwnN.fr {w w' : World} {S : Nat → Prop} {e : TypeId} {v : Value} {k : Nat} {f : Nat → Int} (h : OwnN w e v k f) (hf : Fr w w' S) (hv : ∀ k, v.ownBlock = some k → ¬ S k) : OwnN w' e v k f := hf.own h hv
theorem OwnN.fr0 {w w' : World} {e : TypeId} {v : Value} {k : Nat} {f : Nat → Int} (h : OwnN w e v k f) (hf : Fr w w' Nil) : OwnN w' e v k f := h.fr hf fun _ _ h => h
theorem own_next {e : TypeId} {B : Nat} {wr w' : World} {v v' : Value} {k : Nat} {f : Nat → Int} {o : Obj} {u : Value} (hn : NewFrom B v) (hB : B ≤ wr.heap.size) (hu : u = .int .i64 (f k))
    (ho : w'.ownsRow 0 e 1 v' (k + 1) ((List.range k).map (fun i => Value.int .i64 (f i)) ++ [u])) (hg : (wr.alloc o).grownBy w' v.ownBlock) (hb : v'.ownBlock = v.ownBlock ∨ v'.ownBlock = some (wr.heap.size + 1)) :
    OwnN w' e v' (k + 1) f ∧ NewFrom B v' ∧ Fr wr w' (fun j => v.ownBlock = some j) := by
  subst hu
  refine ⟨?_, fun k hk => ?_, ?_⟩
  · unfold OwnN
    rw [List.range_succ, List.map_append]
    exact ho
  · rcases hb with hb | hb
    · exact hn k (by rw [← hb, hk])
    · rw [hk] at hb; cases hb; omega
  · exact ((Fr.refl wr _).alloc o).grown hg fun k hk _ => hk
theorem own_touch {B : Nat} {wr w' : World} {v v' : Value} {k n : Nat} {hk : 0 < k ∧ k ≤ 12} {turns : List Int} {o : Obj} {bo : Bool} {x : Int} (hn : NewFrom B v) (hB : B ≤ wr.heap.size) (hx : turns.getD n 0 = x) (hb2 : bo = decide (n % 2 = 0))
    (ho : w'.ownsRow 0 46 5 v' (n + 1) ((apTs k hk turns n).flatMap TouchD.vals ++ [.int .i64 (x % (k : Int)), .int .i64 0, .bool true, .int .i64 (x % (k : Int)), .bool bo])) (hg : (wr.alloc o).grownBy w' v.ownBlock) (hb : v'.ownBlock = v.ownBlock ∨ v'.ownBlock = some (wr.heap.size + 1)) :
    OwnTs w' v' (apTs k hk turns (n + 1)) ∧ NewFrom B v' ∧ Fr wr w' (fun j => v.ownBlock = some j) := by
  subst hx; subst hb2
  refine ⟨?_, fun k hk => ?_, ?_⟩
  · unfold OwnTs
    rw [apTs_len, apTs_succ, List.flatMap_append]
    exact ho
  · rcases hb with hb | hb
    · exact hn k (by rw [← hb, hk])
    · rw [hk] at hb; cases hb; omega
  · exact ((Fr.refl wr _).alloc o).grown hg fun k hk _ => hk
theorem par_even (n : Nat) : (((n : Int) % 2 == 0) : Bool) = decide (n % 2 = 0) := by
  rw [Bool.eq_iff_iff, beq_iff_eq, decide_eq_true_eq]
  omega

theorem own_new (w : World) (e : TypeId) (cs : Array Value) (n size b : Nat) (hb : w.heap.size = b) (hs : cs.size = n * size) (hm : n ≤ maxLen) : (w.alloc (.cells cs e)).ownsRow 0 e size (.slice (some ⟨b, 0, none⟩) n n) n cs.toList := by
  subst hb
  refine ⟨by simpa using hs, .inr ⟨w.heap.size, n, cs, rfl, Nat.zero_le _, heap_alloc_new w _, Nat.le_refl _, hm, hs, ?_⟩⟩
  rw [← hs, ← Array.length_toList, List.take_length]
theorem own_bk {w : World} {e : TypeId} {cs : List Value} {n size b : Nat} (h : Bk w b e cs) (hs : cs.length = n * size) (hm : n ≤ maxLen) : w.ownsRow 0 e size (.slice (some ⟨b, 0, none⟩) n n) n cs := by
  refine ⟨hs, .inr ⟨b, n, cs.toArray, rfl, Nat.zero_le _, h, Nat.le_refl _, hm, by simpa using hs, ?_⟩⟩
  rw [← hs, List.take_length]
theorem swap_world {P : World → Prop} {w : World} {b : Nat} {e : TypeId} {a0 a1 a2 a3 a4 a5 a6 a7 a8 a9 b0 b1 b2 b3 b4 b5 b6 b7 b8 b9 : Value} (h : Bk w b e [a0, a1, a2, a3, a4, a5, a6, a7, a8, a9])
    (hP : ∀ w', Bk w' b e [b0, b1, b2, b3, b4, b5, b6, b7, b8, b9] → Fr w w' (fun k => k = b) → P w') :
    P ((((((((((w.setCell ⟨b, 0, none⟩ b0).setCell ⟨b, 1, none⟩ b1).setCell ⟨b, 2, none⟩ b2).setCell ⟨b, 3, none⟩ b3).setCell ⟨b, 4, none⟩ b4).setCell ⟨b, 5, none⟩ b5).setCell ⟨b, 6, none⟩ b6).setCell ⟨b, 7, none⟩ b7).setCell ⟨b, 8, none⟩ b8).setCell ⟨b, 9, none⟩ b9).drew := by
  refine hP _ (((((((((((h.set 0 b0).set 1 b1).set 2 b2).set 3 b3).set 4 b4).set 5 b5).set 6 b6).set 7 b7).set 8 b8).set 9 b9).drew) (Fr.drew ?_)
  iterate 10 refine Fr.setCell (S := fun k => k = b) (p := ⟨b, _, none⟩) ?_ (fun _ => rfl) _
  exact Fr.refl w _
theorem own_pair {w : World} {v : Value} {n : Nat} {cs : List Value} {ts : List TouchD} (o1 o2 : TouchD) (h : w.ownsRow 0 46 5 v n cs) (hn : n = 2 + ts.length) (hc : cs = (o1.vals ++ o2.vals) ++ ts.flatMap TouchD.vals) : TouchesAt w v (o1 :: o2 :: ts) ∧ CapOk v := by
  refine own_touches h (by simp; omega) ?_
  subst hc
  rw [List.flatMap_cons, List.flatMap_cons, List.append_assoc]
theorem wf_nat {x k : Nat} (h : x < k) (hk : k ≤ 12) : (Lit.int .i64 (x : Int)).wf = true := wf_small (by omega)
theorem upTo_ok (k : Nat) (h : k ≤ 1000) : (upTo k).length = k ∧ (upTo k).Nodup ∧ ∀ x ∈ upTo k, (Lit.int .i64 x).wf = true := by
  refine ⟨by simp [upTo, ints], ?_, fun x hx => ?_⟩
  · unfold upTo ints
    rw [List.nodup_iff_pairwise_ne, List.pairwise_map]
    exact (List.nodup_iff_pairwise_ne.1 List.nodup_range).imp fun h e => h (by omega)
  · obtain ⟨i, hi, rfl⟩ := mem_ints.1 hx
    have := List.mem_range.1 hi
    exact wf_small (by omega)
theorem graph_up {wv tv : Value} {k : Nat} {ts : List TouchD} {w : World} (hw : IntsAt w wv (upTo k)) (hk : k ≤ 1000) (ht : TouchesAt w tv ts) (hc : CapOk tv) (htl : ts.length ≤ 1000) :
    Calls Try.prog 8 #[wv, tv] w fun e w' => ∃ gb, e = .returned (.slice (some ⟨gb, 0, none⟩) k k) ∧ GraphAt w' (.slice (some ⟨gb, 0, none⟩) k k) (graphW (upTo k) ts) ∧ Fr w w' Nil := by
  obtain ⟨h1, h2, h3⟩ := upTo_ok k hk
  have h := graph_call hw (by omega) h2 h3 ht hc htl
  rw [h1] at h
  exact h

set_option maxRecDepth 100000 in
set_option maxHeartbeats 16000000 in
theorem apart_main (count a b : Int) (wrote : Bool) (tv : Value) (turns : List Int) (w : World) (hc : 0 ≤ count ∧ count < 256) (ha : 0 ≤ a ∧ a < 256) (hb : 0 ≤ b ∧ b < 256) (ht : BytesAt w tv turns) (htr : ∀ x ∈ turns, 0 ≤ x ∧ x < 256) (htl : turns.length ≤ 60) :
    Calls Try.prog 5 #[.int .u8 count, tv, .int .u8 a, .int .u8 b, .bool wrote] w fun e w' => e = .returned (.bool true) ∧ Fr w w' Nil := by
  obtain ⟨ta, tcap, rfl⟩ := SlAt.shape ht
  have HT := Lib.hid ht
  have HTR := Lib.hid htr
  clear ht htr
  obtain ⟨kk, hkk, hk1, hk2⟩ : ∃ kk : Nat, 2 + count % 11 = (kk : Int) ∧ 2 ≤ kk ∧ kk ≤ 12 := ⟨(2 + count % 11).toNat, by omega, by omega, by omega⟩
  have hkp : 0 < kk ∧ kk ≤ 12 := ⟨by omega, hk2⟩
  go_enter Try.func5, Try.ntmps5
  go_wp2_with fail
  go_loopw [13, 14] (fun vo vi wr => ∃ (k : Nat) (oa : Option Addr) (ocap : Nat), k ≤ kk ∧ vi = .int .i64 k ∧ vo = .slice oa k ocap ∧ OwnN wr 2 vo k (fun i : Nat => (i : Int)) ∧ NewFrom w.heap.size vo ∧ Fr w wr Nil) (fun _ vi _ => kk - (intOf vi).toNat)
  case atStart => exact ⟨0, none, 0, by omega, rfl, rfl, OwnN.nil _ _ _, fun k hk => by simp [Value.ownBlock] at hk, Fr.refl _ _⟩
  case round =>
    obtain ⟨k, oa, ocap, hk, rfl, rfl, ho, hn, hf⟩ := hrel
    obtain ⟨wi, rfl⟩ : ∃ wi : World, wi = wr := ⟨_, rfl⟩
    have Ho := Lib.hid ho
    have Hn := Lib.hid hn
    have Hf := Lib.hid hf
    have Hlen : Hid (k + 1 ≤ 1000000) := by
      have : k + 1 ≤ 1000000 := by omega
      exact this
    clear ho hn hf
    by_cases hlt : k < kk
    · go_wp2_with (at_builtin; refine wpList_app _ rfl _ _ 22 rfl Try.sltI64 _ rfl (World.ownsRow.alloc Ho.out _) _ rfl (one_at _ _ _ _ (by simp)) (ints_one _) Hlen.out ?_)
      intro g3 cap3 w3 ho3 hg3 hb3
      have h1 := own_next (f := fun i : Nat => (i : Int)) Hn.out Hf.out.size rfl ho3 hg3 hb3
      have H1 := Lib.hid h1
      have HF3 : Hid (Fr w w3 Nil) := Hf.out.trans h1.2.2 fun j hj hj2 => absurd hj (by have := Hn.out j hj2; omega)
      clear h1 ho3 hg3 hb3
      go_wp2_with fail
      go_roundw
      case rel => exact ⟨k + 1, g3, cap3, by omega, by go_num, rfl, H1.out.1, H1.out.2.1, HF3.out⟩
      case measure => simp [intOf]; omega
    · obtain rfl : k = kk := by omega
      go_wp2_with fail
      go_loopw [12, 15, 16] (fun vt vi _ wr => ∃ (n : Nat) (oa2 : Option Addr) (ocap2 : Nat), n ≤ turns.length ∧ vi = .int .i64 n ∧ vt = .slice oa2 n ocap2 ∧ OwnTs wr vt (apTs k hkp turns n) ∧ NewFrom wi.heap.size vt ∧ Fr wi wr Nil) (fun _ vi _ _ => turns.length - (intOf vi).toNat)
      case atStart => exact ⟨0, none, 0, by omega, rfl, rfl, World.ownsRow_nil _ _ _ _, fun k hk => by simp [Value.ownBlock] at hk, Fr.refl _ _⟩
      case round =>
        obtain ⟨n, oa2, ocap2, hn, rfl, rfl, hts, hnt, hf2⟩ := hrel
        have Hts := Lib.hid hts
        have Hnt := Lib.hid hnt
        have Hf2 := Lib.hid hf2
        clear hts hnt hf2
        by_cases hln : n < turns.length
        · obtain ⟨tb, toff, tcap2, htv, htc⟩ := BytesAt.form (SlAt.fr0 HT.out (Hf.out.trans0 Hf2.out)) (by omega)
          simp only [Value.slice.injEq, true_and] at htv
          obtain ⟨rfl, rfl⟩ := htv
          have q0 := htc n _ (List.getElem?_eq_getElem hln)
          have hr := HTR.out _ (List.getElem_mem hln)
          have HAL := Lib.hid (apTs_len k hkp turns n)
          have HGD := Lib.hid (show turns.getD n 0 = turns[n] by simp [List.getD_eq_getElem?_getD, hln])
          generalize turns[n] = x at *
          have hni : (n : Int) < (turns.length : Int) := by omega
          have hz1 : ((k : Int) == 0) = false := by rw [beq_eq_false_iff_ne]; omega
          have hz2 : ¬ (k : Int) = 0 := by omega
          have hz3 : x.tmod (k : Int) = x % (k : Int) := Int.tmod_eq_emod_of_nonneg hr.1
          have hw1 : wrap64 x = x := by unfold wrap64; omega
          have hy0 : 0 ≤ x % (k : Int) := Int.emod_nonneg _ hz2
          have hlo : Hid (wr.ownsRow 0 46 5 (.slice oa2 n ocap2) n ((apTs k hkp turns n).flatMap TouchD.vals)) := by
            have := Hts.out
            unfold OwnTs at this
            rw [HAL.out] at this
            exact this
          have Hlen2 : Hid (n + 1 ≤ 1000000) := by
            have : n + 1 ≤ 1000000 := by omega
            exact this
          clear htc Hlen
          go_wp2_with (at_builtin; refine wpList_app _ rfl _ _ 23 rfl Try.sltTouch _ rfl (World.ownsRow.alloc hlo.out _) _ rfl (five_at _ _ _ _ _ _ _ _ (by simp)) (touch_five _ _ _ _ _) Hlen2.out ?_)
          intro g3 cap3 w3 ho3 hg3 hb3
          have h1 := own_touch Hnt.out Hf2.out.size HGD.out (par_even n) ho3 hg3 hb3
          have H1 := Lib.hid h1
          have HF3 : Hid (Fr wi w3 Nil) := Hf2.out.trans h1.2.2 fun j hj hj2 => absurd hj (by have := Hnt.out j hj2; omega)
          clear h1 ho3 hg3 hb3
          go_wp2_with fail
          go_roundw
          case rel => exact ⟨n + 1, g3, cap3, by omega, by go_num, rfl, H1.out.1, H1.out.2.1, HF3.out⟩
          case measure => simp [intOf]; omega
        · obtain rfl : n = turns.length := by omega
          have HTS := Lib.hid Hts.out.at
          have HF2 := Lib.hid (Hf.out.trans0 Hf2.out)
          have HWO : Hid (OwnInts wr 2 (.slice oa k ocap) (upTo k)) := (Ho.out.fr0 Hf2.out).own
          have HAL := apTs_len k hkp turns turns.length
          clear Ho Hf Hf2 Hts HT HTR Hn Hnt Hlen
          go_wp2_with fail
          refine (graph_up HWO.out.at (by omega) HTS.out.1 HTS.out.2 (by omega)).mono ?_
          rintro e w5 ⟨gb, rfl, hg5, hf5⟩
          have HG5 := Lib.hid hg5
          have HF5 := Lib.hid (HF2.out.trans0 hf5)
          have HWO5 := Lib.hid (HWO.out.fr hf5 fun _ _ h => h)
          have HTS5 : Hid (TouchesAt w5 (.slice oa2 turns.length ocap2) (apTs k hkp turns turns.length)) := SlAt.fr0 HTS.out.1 hf5
          have HCP := Lib.hid HTS.out.2
          clear hg5 hf5 HF2 HWO HTS
          have hkn : ((k : Int) != (k : Int)) = false := by simp
          go_wp2_with fail
          go_loopw [18, 19, 20] (fun vo vb vi wr => ∃ (i : Nat) (oa3 : Option Addr) (ocap3 : Nat) (ba3 : Option Addr) (bcap3 : Nat), i ≤ k ∧ vi = .int .i64 i ∧ vo = .slice oa3 i ocap3 ∧ vb = .slice ba3 i bcap3 ∧ OwnN wr 3 vo i (fun i : Nat => (i : Int)) ∧ OwnN wr 3 vb i (fun i : Nat => (k : Int) - 1 - (i : Int)) ∧ NewFrom w5.heap.size vo ∧ NewFrom w5.heap.size vb ∧ Far vo vb ∧ Fr w5 wr Nil) (fun _ _ vi _ => k - (intOf vi).toNat)
          case atStart => exact ⟨0, none, 0, none, 0, by omega, rfl, rfl, rfl, OwnN.nil _ _ _, OwnN.nil _ _ _, fun k hk => by simp [Value.ownBlock] at hk, fun k hk => by simp [Value.ownBlock] at hk, Far.nil _, Fr.refl _ _⟩
          case round =>
            obtain ⟨i, oa3, ocap3, ba3, bcap3, hi, rfl, rfl, rfl, hvo, hvb, hno, hnb, hfab, hf⟩ := hrel
            have Hvo := Lib.hid hvo
            have Hvb := Lib.hid hvb
            have Hno := Lib.hid hno
            have Hnb := Lib.hid hnb
            have Hfab := Lib.hid hfab
            have Hf := Lib.hid hf
            clear hvo hvb hno hnb hfab hf
            by_cases hlt : i < k
            · have hrow := apart_row k hkp turns turns.length i hlt
              have hgl := graphW_len (upTo k) (apTs k hkp turns turns.length)
              rw [(upTo_ok k (by omega)).1] at hgl
              obtain ⟨gb1, goff, gcap, hgv, hgc⟩ := (HG5.out.fr0 Hf.out).form (by omega)
              rw [hgl] at hgv
              simp only [Value.slice.injEq, Option.some.injEq, Addr.mk.injEq, true_and, and_true] at hgv
              obtain ⟨⟨rfl, rfl⟩, rfl⟩ := hgv
              obtain ⟨u, q0, hux, _⟩ := hgc i _ hrow
              rw [Nat.zero_add] at q0
              obtain ⟨ua, ucap, rfl⟩ := hux.shape
              rw [List.length_nil] at q0
              have hii : (i : Int) < (k : Int) := by omega
              have Hlen : Hid (i + 1 ≤ 1000000) := by
                have : i + 1 ≤ 1000000 := by omega
                exact this
              clear hgc hux hrow hgl
              go_wp2_with (at_builtin; refine wpList_app _ rfl _ _ 28 rfl Try.sltInt _ rfl (World.ownsRow.alloc Hvo.out _) _ rfl (one_at _ _ _ _ (by simp)) (ints_one _) Hlen.out ?_)
              intro g3 cap3 w3 ho3 hg3 hb3
              have h1 := own_next (f := fun i : Nat => (i : Int)) Hno.out Hf.out.size rfl ho3 hg3 hb3
              have hfar1 := Far.of (B := 0) Hfab.out hb3 (fun k hk => Nat.lt_succ_of_lt (World.ownsRow.lt Hvb.out k hk).2)
              have Hvb3 := Lib.hid (Hvb.out.fr h1.2.2 fun k hk h2 => Hfab.out.symm k hk h2)
              have H1 := Lib.hid h1
              have HF1 := Lib.hid hfar1
              have HF3 : Hid (Fr w5 w3 Nil) := Hf.out.trans h1.2.2 fun j hj hj2 => absurd hj (by have := Hno.out j hj2; omega)
              clear h1 hfar1 ho3 hg3 hb3 q0 Hvo Hvb Hf
              go_wp2_with (at_builtin; refine wpList_app _ rfl _ _ 28 rfl Try.sltInt _ rfl (World.ownsRow.alloc Hvb3.out _) _ rfl (one_at _ _ _ _ (by simp)) (ints_one _) Hlen.out ?_)
              intro g4 cap4 w4 ho4 hg4 hb4
              have h2 := own_next (f := fun i : Nat => (k : Int) - 1 - (i : Int)) Hnb.out HF3.out.size rfl ho4 hg4 hb4
              have hfar2 := Far.of (B := 0) HF1.out.symm hb4 (fun k hk => Nat.lt_succ_of_lt (World.ownsRow.lt H1.out.1 k hk).2)
              have Hvo4 := Lib.hid (H1.out.1.fr h2.2.2 fun k hk h2 => HF1.out k hk h2)
              have H2 := Lib.hid h2
              have HFF := Lib.hid hfar2.symm
              have HF4 : Hid (Fr w5 w4 Nil) := HF3.out.trans h2.2.2 fun j hj hj2 => absurd hj (by have := Hnb.out j hj2; omega)
              clear h2 hfar2 ho4 hg4 hb4
              go_wp2_with fail
              go_roundw
              case rel => exact ⟨i + 1, g3, cap3, g4, cap4, by omega, by go_num, rfl, rfl, Hvo4.out, H2.out.1, H1.out.2.1, H2.out.2.1, HFF.out, HF4.out⟩
              case measure => simp [intOf]; omega
            · obtain rfl : i = k := by omega
              have HUP : Hid (IntsAt wr (.slice oa3 i ocap3) (upTo i)) := Hvo.out.own.at
              have HDN : Hid (IntsAt wr (.slice ba3 i bcap3) (downTo i)) := Hvb.out.own.at
              have HG6 := Lib.hid (HG5.out.fr0 Hf.out)
              have HF6 := Lib.hid (HF5.out.trans0 Hf.out)
              have HWO6 := Lib.hid (HWO5.out.fr Hf.out fun _ _ h => h)
              have HTS6 : Hid (TouchesAt wr (.slice oa2 turns.length ocap2) (apTs i hkp turns turns.length)) := SlAt.fr0 HTS5.out Hf.out
              have hgl := graphW_len (upTo i) (apTs i hkp turns turns.length)
              rw [(upTo_ok i (by omega)).1] at hgl
              have hgl2 : (graphW (upTo i) (apTs i hkp turns turns.length)).length ≤ 100000 := by omega
              clear Hvo Hvb Hno Hnb Hfab Hf HG5 HF5 HWO5 HTS5
              go_wp2_with fail
              refine (is_any _ _ _ (upTo i) _ HG6.out HUP.out hgl2).mono ?_
              rintro e w7 ⟨rfl, hf7⟩
              rw [apart_up]
              have HUP7 := Lib.hid (fr0i HUP.out hf7)
              have HDN7 := Lib.hid (fr0i HDN.out hf7)
              have HG7 := Lib.hid (HG6.out.fr0 hf7)
              have HF7 := Lib.hid (HF6.out.trans0 hf7)
              have HWO7 := Lib.hid (HWO6.out.fr hf7 fun _ _ h => h)
              have HTS7 : Hid (TouchesAt w7 (.slice oa2 turns.length ocap2) (apTs i hkp turns turns.length)) := SlAt.fr0 HTS6.out hf7
              clear hf7 HUP HDN HG6 HF6 HWO6 HTS6
              go_wp2_with fail
              refine (is_any _ _ _ (downTo i) _ HG7.out HDN7.out hgl2).mono ?_
              rintro e w8 ⟨rfl, hf8⟩
              rw [apart_down]
              have HUP8 := Lib.hid (fr0i HUP7.out hf8)
              have HDN8 := Lib.hid (fr0i HDN7.out hf8)
              have HF8 := Lib.hid (HF7.out.trans0 hf8)
              have HWO8 := Lib.hid (HWO7.out.fr hf8 fun _ _ h => h)
              have HTS8 : Hid (TouchesAt w8 (.slice oa2 turns.length ocap2) (apTs i hkp turns turns.length)) := SlAt.fr0 HTS7.out hf8
              clear hf8 HUP7 HDN7 HG7 HF7 HWO7 HTS7 hgl hgl2
              have hz1 : ((i : Int) == 0) = false := by rw [beq_eq_false_iff_ne]; omega
              have hz2 : ¬ (i : Int) = 0 := by omega
              obtain ⟨x, hx, hxi⟩ : ∃ x : Nat, a % (i : Int) = (x : Int) ∧ x < i := ⟨(a % (i : Int)).toNat, by have := Int.emod_nonneg a hz2; omega, by have := Int.emod_nonneg a hz2; have := Int.emod_lt_of_pos a (show (0 : Int) < i by omega); omega⟩
              obtain ⟨y, hy, hyi⟩ : ∃ y : Nat, b % (i : Int) = (y : Int) ∧ y < i := ⟨(b % (i : Int)).toNat, by have := Int.emod_nonneg b hz2; omega, by have := Int.emod_nonneg b hz2; have := Int.emod_lt_of_pos b (show (0 : Int) < i by omega); omega⟩
              have ha2 : a.tmod (i : Int) = (x : Int) := by rw [Int.tmod_eq_emod_of_nonneg ha.1, hx]
              have hb2 : b.tmod (i : Int) = (y : Int) := by rw [Int.tmod_eq_emod_of_nonneg hb.1, hy]
              obtain ⟨z, hzi, hzx, hzz⟩ : ∃ z : Nat, z < i ∧ x ≠ z ∧ ((x ≠ y ∧ z = y) ∨ (x = y ∧ ((x : Int) + 1) % (i : Int) = (z : Int))) := by
                by_cases e : x = y
                · by_cases e2 : x + 1 = i
                  · exact ⟨0, by omega, by omega, .inr ⟨e, by rw [show ((x : Int) + 1) = (i : Int) by omega]; simp⟩⟩
                  · exact ⟨x + 1, by omega, by omega, .inr ⟨e, by rw [Int.emod_eq_of_lt (by omega) (by omega)]; omega⟩⟩
                · exact ⟨y, hyi, e, .inl ⟨e, rfl⟩⟩
              have hal : (apTs i hkp turns turns.length).length = turns.length := apTs_len _ _ _ _
              have HSL : Hid (∀ w', Fr w8 w' Nil → SlAt w' 5 (.slice oa2 turns.length ocap2) turns.length ((apTs i hkp turns turns.length).flatMap TouchD.vals)) := fun w' hf => by
                have h := SlAt.fr0 HTS8.out hf
                rw [hal] at h
                exact h
              have Hlen : Hid (2 + turns.length ≤ 1000000) := by
                have : 2 + turns.length ≤ 1000000 := by omega
                exact this
              have HNE : Hid (∀ n m : Nat, n < i → m < i → n ≠ m → decide ((n : Int) < (m : Int)) = decide (n < m)) := by
                have : ∀ n m : Nat, n < i → m < i → n ≠ m → decide ((n : Int) < (m : Int)) = decide (n < m) := fun n m _ _ _ => by rw [decide_eq_decide]; omega
                exact this
              have HAL := Lib.hid hal
              clear hal HTS8
              cases wrote with
              | false =>
                rcases hzz with ⟨h1, rfl⟩ | ⟨rfl, h2⟩
                · go_wp2_with fail
                  go_quiet (fail)
                  go_wp2_with (at_builtin; refine wpList_app _ rfl _ _ 23 rfl Try.sltTouch _ rfl (own_new _ _ _ 2 5 _ (by simp) rfl (by decide)) _ rfl (HSL.out _ (((Fr.refl _ Nil).drewN _).alloc _)) (touch_ones _) Hlen.out ?_)
                  intro g9 cap9 w9 ho9 hg9 hb9
                  have hf9 : Fr w8 w9 Nil := (((Fr.refl w8 (fun k => w8.heap.size ≤ k)).drewN nq).alloc _).grown hg9 (fun k hk _ => by cases hk; exact Nat.le_refl _) |>.mono fun k hk h => absurd hk (by omega)
                  have hpair := own_pair (ts := apTs i hkp turns turns.length) ⟨x, 1, false, 0, false, wf_nat hxi hk2⟩ ⟨z, 1, true, 3, true, wf_nat hzi hk2⟩ ho9 (by rw [HAL.out]) rfl
                  have HC : Hid (conf ⟨x, 1, false, 0, false, wf_nat hxi hk2⟩ ⟨z, 1, true, 3, true, wf_nat hzi hk2⟩ = true) := by
                    have : conf ⟨x, 1, false, 0, false, wf_nat hxi hk2⟩ ⟨z, 1, true, 3, true, wf_nat hzi hk2⟩ = true := by simp [conf]; omega
                    exact this
                  have HF9 := Lib.hid hf9
                  clear ho9 hg9 hb9 hf9
                  have HTT := Lib.hid hpair
                  have HWO9 := Lib.hid (fr0i HWO8.out.at HF9.out)
                  have HUP9 := Lib.hid (fr0i HUP8.out HF9.out)
                  have HDN9 := Lib.hid (fr0i HDN8.out HF9.out)
                  clear hpair HSL
                  go_wp2_with fail
                  refine (graph_up HWO9.out (by omega) HTT.out.1 HTT.out.2 (by simp [HAL.out]; omega)).mono ?_
                  rintro e w10 ⟨g2, rfl, hg10, hf10⟩
                  have hrow := tied_row (hk := hkp) (turns := turns) (n := turns.length) (o1 := ⟨x, 1, false, 0, false, wf_nat hxi hk2⟩) (o2 := ⟨z, 1, true, 3, true, wf_nat hzi hk2⟩) HC.out rfl rfl rfl rfl hxi hzi
                  have hup := tied_up (hk := hkp) (turns := turns) (n := turns.length) (o1 := ⟨x, 1, false, 0, false, wf_nat hxi hk2⟩) (o2 := ⟨z, 1, true, 3, true, wf_nat hzi hk2⟩) HC.out rfl rfl rfl rfl hxi
                  have hdn := tied_down (hk := hkp) (turns := turns) (n := turns.length) (o1 := ⟨x, 1, false, 0, false, wf_nat hxi hk2⟩) (o2 := ⟨z, 1, true, 3, true, wf_nat hzi hk2⟩) HC.out rfl rfl rfl rfl hxi hzi
                  have hgl := graphW_len (upTo i) (⟨x, 1, false, 0, false, wf_nat hxi hk2⟩ :: ⟨z, 1, true, 3, true, wf_nat hzi hk2⟩ :: apTs i hkp turns turns.length)
                  rw [(upTo_ok i (by omega)).1] at hgl
                  have hgl2 : (graphW (upTo i) (⟨x, 1, false, 0, false, wf_nat hxi hk2⟩ :: ⟨z, 1, true, 3, true, wf_nat hzi hk2⟩ :: apTs i hkp turns turns.length)).length ≤ 100000 := by omega
                  generalize graphW (upTo i) (⟨x, 1, false, 0, false, wf_nat hxi hk2⟩ :: ⟨z, 1, true, 3, true, wf_nat hzi hk2⟩ :: apTs i hkp turns turns.length) = G at *
                  obtain ⟨gb1, goff, gcap, hgv, hgc⟩ := hg10.form (by omega)
                  rw [hgl] at hgv
                  simp only [Value.slice.injEq, Option.some.injEq, Addr.mk.injEq, true_and, and_true] at hgv
                  obtain ⟨⟨rfl, rfl⟩, rfl⟩ := hgv
                  obtain ⟨u, q0, hux, _⟩ := hgc x _ hrow
                  rw [Nat.zero_add] at q0
                  obtain ⟨ub, uoff, ucap, rfl, huc⟩ := hux.form (by simp)
                  have q1 := huc 0 _ rfl
                  rw [Nat.add_zero] at q1
                  simp only [List.length_cons, List.length_nil] at q0
                  have hpx : (x : Int) < (i : Int) := by omega
                  obtain ⟨c1, c2, e1, e2, h3⟩ : ∃ c1 c2, decide (x < z) = c1 ∧ decide (z < x) = c2 ∧ ((c1 = true ∧ c2 = false ∧ (x : Int) < (z : Int) ∧ ¬ (z : Int) < (x : Int)) ∨ (c1 = false ∧ c2 = true ∧ ¬ (x : Int) < (z : Int) ∧ (z : Int) < (x : Int))) := by
                    refine ⟨_, _, rfl, rfl, ?_⟩
                    simp only [decide_eq_true_eq, decide_eq_false_iff_not]
                    omega
                  rw [e1] at hup
                  rw [e2] at hdn
                  have HG := Lib.hid hg10
                  have HUP10 := Lib.hid (fr0i HUP9.out hf10)
                  have HDN10 := Lib.hid (fr0i HDN9.out hf10)
                  have HF10 := Lib.hid (HF9.out.trans0 hf10)
                  have HU := Lib.hid hup
                  have HD := Lib.hid hdn
                  clear hrow hgc hux huc hg10 hf10 hup hdn HWO9 HTT HUP9 HDN9 HF9
                  have hnn : ((i : Int) != (i : Int)) = false := by simp
                  have hqq : ((z : Int) != (z : Int)) = false := by simp
                  clear e1 e2
                  rcases h3 with ⟨rfl, rfl, h4, h5⟩ | ⟨rfl, rfl, h4, h5⟩
                  all_goals
                    go_wp2_with fail
                    refine (is_any _ _ G (upTo i) _ HG.out HUP10.out hgl2).mono ?_
                    rintro e w11 ⟨rfl, hf11⟩
                    rw [HU.out]
                    have HG11 := Lib.hid (HG.out.fr0 hf11)
                    have HDN11 := Lib.hid (fr0i HDN10.out hf11)
                    have HF11 := Lib.hid (HF10.out.trans0 hf11)
                    clear hf11 HG HDN10 HF10 HUP10 q0 q1
                    go_wp2_with fail
                    refine (is_any _ _ G (downTo i) _ HG11.out HDN11.out hgl2).mono ?_
                    rintro e w12 ⟨rfl, hf12⟩
                    rw [HD.out]
                    have HF12 := Lib.hid (HF11.out.trans0 hf12)
                    clear hf12 HG11 HDN11 HF11
                    go_wp2_with fail
                    refine (works_any _).mono ?_
                    rintro e w13 ⟨rfl, hf13⟩
                    have HF13 := Lib.hid ((HF8.out.trans0 HF12.out).trans0 hf13)
                    clear hf13 HF12
                    go_wp2_with fail
                    go_ret
                    refine ⟨congrArg (fun z => Ending.returned (.bool z)) ?_, HF13.out⟩
                    simp
                    omega
                · go_wp2_with fail
                  go_quiet (fail)
                  go_wp2_with (at_builtin; refine wpList_app _ rfl _ _ 23 rfl Try.sltTouch _ rfl (own_new _ _ _ 2 5 _ (by simp) rfl (by decide)) _ rfl (HSL.out _ (((Fr.refl _ Nil).drewN _).alloc _)) (touch_ones _) Hlen.out ?_)
                  intro g9 cap9 w9 ho9 hg9 hb9
                  have hf9 : Fr w8 w9 Nil := (((Fr.refl w8 (fun k => w8.heap.size ≤ k)).drewN nq).alloc _).grown hg9 (fun k hk _ => by cases hk; exact Nat.le_refl _) |>.mono fun k hk h => absurd hk (by omega)
                  have hpair := own_pair (ts := apTs i hkp turns turns.length) ⟨x, 1, false, 0, false, wf_nat hxi hk2⟩ ⟨z, 1, true, 3, true, wf_nat hzi hk2⟩ ho9 (by rw [HAL.out]) rfl
                  have HC : Hid (conf ⟨x, 1, false, 0, false, wf_nat hxi hk2⟩ ⟨z, 1, true, 3, true, wf_nat hzi hk2⟩ = true) := by
                    have : conf ⟨x, 1, false, 0, false, wf_nat hxi hk2⟩ ⟨z, 1, true, 3, true, wf_nat hzi hk2⟩ = true := by simp [conf]; omega
                    exact this
                  have HF9 := Lib.hid hf9
                  clear ho9 hg9 hb9 hf9
                  have HTT := Lib.hid hpair
                  have HWO9 := Lib.hid (fr0i HWO8.out.at HF9.out)
                  have HUP9 := Lib.hid (fr0i HUP8.out HF9.out)
                  have HDN9 := Lib.hid (fr0i HDN8.out HF9.out)
                  clear hpair HSL
                  go_wp2_with fail
                  refine (graph_up HWO9.out (by omega) HTT.out.1 HTT.out.2 (by simp [HAL.out]; omega)).mono ?_
                  rintro e w10 ⟨g2, rfl, hg10, hf10⟩
                  have hrow := tied_row (hk := hkp) (turns := turns) (n := turns.length) (o1 := ⟨x, 1, false, 0, false, wf_nat hxi hk2⟩) (o2 := ⟨z, 1, true, 3, true, wf_nat hzi hk2⟩) HC.out rfl rfl rfl rfl hxi hzi
                  have hup := tied_up (hk := hkp) (turns := turns) (n := turns.length) (o1 := ⟨x, 1, false, 0, false, wf_nat hxi hk2⟩) (o2 := ⟨z, 1, true, 3, true, wf_nat hzi hk2⟩) HC.out rfl rfl rfl rfl hxi
                  have hdn := tied_down (hk := hkp) (turns := turns) (n := turns.length) (o1 := ⟨x, 1, false, 0, false, wf_nat hxi hk2⟩) (o2 := ⟨z, 1, true, 3, true, wf_nat hzi hk2⟩) HC.out rfl rfl rfl rfl hxi hzi
                  have hgl := graphW_len (upTo i) (⟨x, 1, false, 0, false, wf_nat hxi hk2⟩ :: ⟨z, 1, true, 3, true, wf_nat hzi hk2⟩ :: apTs i hkp turns turns.length)
                  rw [(upTo_ok i (by omega)).1] at hgl
                  have hgl2 : (graphW (upTo i) (⟨x, 1, false, 0, false, wf_nat hxi hk2⟩ :: ⟨z, 1, true, 3, true, wf_nat hzi hk2⟩ :: apTs i hkp turns turns.length)).length ≤ 100000 := by omega
                  generalize graphW (upTo i) (⟨x, 1, false, 0, false, wf_nat hxi hk2⟩ :: ⟨z, 1, true, 3, true, wf_nat hzi hk2⟩ :: apTs i hkp turns turns.length) = G at *
                  obtain ⟨gb1, goff, gcap, hgv, hgc⟩ := hg10.form (by omega)
                  rw [hgl] at hgv
                  simp only [Value.slice.injEq, Option.some.injEq, Addr.mk.injEq, true_and, and_true] at hgv
                  obtain ⟨⟨rfl, rfl⟩, rfl⟩ := hgv
                  obtain ⟨u, q0, hux, _⟩ := hgc x _ hrow
                  rw [Nat.zero_add] at q0
                  obtain ⟨ub, uoff, ucap, rfl, huc⟩ := hux.form (by simp)
                  have q1 := huc 0 _ rfl
                  rw [Nat.add_zero] at q1
                  simp only [List.length_cons, List.length_nil] at q0
                  have hpx : (x : Int) < (i : Int) := by omega
                  obtain ⟨c1, c2, e1, e2, h3⟩ : ∃ c1 c2, decide (x < z) = c1 ∧ decide (z < x) = c2 ∧ ((c1 = true ∧ c2 = false ∧ (x : Int) < (z : Int) ∧ ¬ (z : Int) < (x : Int)) ∨ (c1 = false ∧ c2 = true ∧ ¬ (x : Int) < (z : Int) ∧ (z : Int) < (x : Int))) := by
                    refine ⟨_, _, rfl, rfl, ?_⟩
                    simp only [decide_eq_true_eq, decide_eq_false_iff_not]
                    omega
                  rw [e1] at hup
                  rw [e2] at hdn
                  have HG := Lib.hid hg10
                  have HUP10 := Lib.hid (fr0i HUP9.out hf10)
                  have HDN10 := Lib.hid (fr0i HDN9.out hf10)
                  have HF10 := Lib.hid (HF9.out.trans0 hf10)
                  have HU := Lib.hid hup
                  have HD := Lib.hid hdn
                  clear hrow hgc hux huc hg10 hf10 hup hdn HWO9 HTT HUP9 HDN9 HF9
                  have hnn : ((i : Int) != (i : Int)) = false := by simp
                  have hqq : ((z : Int) != (z : Int)) = false := by simp
                  clear e1 e2
                  rcases h3 with ⟨rfl, rfl, h4, h5⟩ | ⟨rfl, rfl, h4, h5⟩
                  all_goals
                    go_wp2_with fail
                    refine (is_any _ _ G (upTo i) _ HG.out HUP10.out hgl2).mono ?_
                    rintro e w11 ⟨rfl, hf11⟩
                    rw [HU.out]
                    have HG11 := Lib.hid (HG.out.fr0 hf11)
                    have HDN11 := Lib.hid (fr0i HDN10.out hf11)
                    have HF11 := Lib.hid (HF10.out.trans0 hf11)
                    clear hf11 HG HDN10 HF10 HUP10 q0 q1
                    go_wp2_with fail
                    refine (is_any _ _ G (downTo i) _ HG11.out HDN11.out hgl2).mono ?_
                    rintro e w12 ⟨rfl, hf12⟩
                    rw [HD.out]
                    have HF12 := Lib.hid (HF11.out.trans0 hf12)
                    clear hf12 HG11 HDN11 HF11
                    go_wp2_with fail
                    refine (works_any _).mono ?_
                    rintro e w13 ⟨rfl, hf13⟩
                    have HF13 := Lib.hid ((HF8.out.trans0 HF12.out).trans0 hf13)
                    clear hf13 HF12
                    go_wp2_with fail
                    go_ret
                    refine ⟨congrArg (fun z => Ending.returned (.bool z)) ?_, HF13.out⟩
                    simp
                    omega
              | true =>
                rcases hzz with ⟨h1, rfl⟩ | ⟨rfl, h2⟩
                · go_wp2_with fail
                  go_quiet (fail)
                  go_wp2_with fail
                  have hbk := Bk.new (w8.drewN nq) 46 #[.int .i64 x, .int .i64 1, .bool false, .int .i64 0, .bool false, .int .i64 z, .int .i64 1, .bool true, .int .i64 3, .bool true]
                  have hfw : Fr w8 ((w8.drewN nq).alloc (.cells #[.int .i64 x, .int .i64 1, .bool false, .int .i64 0, .bool false, .int .i64 z, .int .i64 1, .bool true, .int .i64 3, .bool true] 46)) Nil := ((Fr.refl _ Nil).drewN _).alloc _
                  generalize (w8.drewN nq).alloc (.cells #[.int .i64 x, .int .i64 1, .bool false, .int .i64 0, .bool false, .int .i64 z, .int .i64 1, .bool true, .int .i64 3, .bool true] 46) = w9 at *
                  have hsz : (w8.drewN nq).heap.size = w8.heap.size := by simp
                  rw [hsz] at hbk
                  have q0 := hbk.cell 0
                  have q1 := hbk.cell 1
                  have q2 := hbk.cell 2
                  have q3 := hbk.cell 3
                  have q4 := hbk.cell 4
                  have q5 := hbk.cell 5
                  have q6 := hbk.cell 6
                  have q7 := hbk.cell 7
                  have q8 := hbk.cell 8
                  have q9 := hbk.cell 9
                  have qf := hbk.free
                  have HBK := Lib.hid hbk
                  have HFW := Lib.hid hfw
                  have HB8 := Lib.hid (Nat.le_refl w8.heap.size)
                  clear hbk hfw hsz
                  generalize hb8 : w8.heap.size = b8 at *
                  have HB8 := Lib.hid hb8
                  clear hb8
                  go_region
                  refine swap_world HBK.out ?_
                  intro w9 hbk hfw
                  have HFA : Hid (Fr w8 w9 Nil) := (Fr.trans (S := fun k => k = b8) HFW.out.of_nil hfw fun j hj h => h).mono fun k hk h => absurd hk (by have := HB8.out; omega)
                  have HBK2 := Lib.hid hbk
                  clear hbk hfw q0 q1 q2 q3 q4 q5 q6 q7 q8 q9 qf HBK HFW
                  go_wp2_with (at_builtin; refine wpList_app _ rfl _ _ 23 rfl Try.sltTouch _ rfl (own_bk (n := 2) (size := 5) HBK2.out rfl (by decide)) _ rfl (HSL.out _ HFA.out) (touch_ones _) Hlen.out ?_)
                  intro g9 cap9 w10 ho9 hg9 hb9
                  have hf9 : Fr w8 w10 Nil := (Fr.grown (S := fun k => k = b8) HFA.out.of_nil hg9 (fun k hk _ => by cases hk; rfl)).mono fun k hk h => absurd hk (by have := HB8.out; omega)
                  have hpair := own_pair (ts := apTs i hkp turns turns.length) ⟨z, 1, true, 3, true, wf_nat hzi hk2⟩ ⟨x, 1, false, 0, false, wf_nat hxi hk2⟩ ho9 (by rw [HAL.out]) rfl
                  have HC : Hid (conf ⟨z, 1, true, 3, true, wf_nat hzi hk2⟩ ⟨x, 1, false, 0, false, wf_nat hxi hk2⟩ = true) := by
                    have : conf ⟨z, 1, true, 3, true, wf_nat hzi hk2⟩ ⟨x, 1, false, 0, false, wf_nat hxi hk2⟩ = true := by simp [conf]; omega
                    exact this
                  have HF9 := Lib.hid hf9
                  clear ho9 hg9 hb9 hf9 HBK2 HFA HB8
                  have HTT := Lib.hid hpair
                  have HWO9 := Lib.hid (fr0i HWO8.out.at HF9.out)
                  have HUP9 := Lib.hid (fr0i HUP8.out HF9.out)
                  have HDN9 := Lib.hid (fr0i HDN8.out HF9.out)
                  clear hpair HSL
                  go_wp2_with fail
                  refine (graph_up HWO9.out (by omega) HTT.out.1 HTT.out.2 (by simp [HAL.out]; omega)).mono ?_
                  rintro e w10 ⟨g2, rfl, hg10, hf10⟩
                  have hrow := tied_row (hk := hkp) (turns := turns) (n := turns.length) (o1 := ⟨z, 1, true, 3, true, wf_nat hzi hk2⟩) (o2 := ⟨x, 1, false, 0, false, wf_nat hxi hk2⟩) HC.out rfl rfl rfl rfl hzi hxi
                  have hup := tied_up (hk := hkp) (turns := turns) (n := turns.length) (o1 := ⟨z, 1, true, 3, true, wf_nat hzi hk2⟩) (o2 := ⟨x, 1, false, 0, false, wf_nat hxi hk2⟩) HC.out rfl rfl rfl rfl hzi
                  have hdn := tied_down (hk := hkp) (turns := turns) (n := turns.length) (o1 := ⟨z, 1, true, 3, true, wf_nat hzi hk2⟩) (o2 := ⟨x, 1, false, 0, false, wf_nat hxi hk2⟩) HC.out rfl rfl rfl rfl hzi hxi
                  have hgl := graphW_len (upTo i) (⟨z, 1, true, 3, true, wf_nat hzi hk2⟩ :: ⟨x, 1, false, 0, false, wf_nat hxi hk2⟩ :: apTs i hkp turns turns.length)
                  rw [(upTo_ok i (by omega)).1] at hgl
                  have hgl2 : (graphW (upTo i) (⟨z, 1, true, 3, true, wf_nat hzi hk2⟩ :: ⟨x, 1, false, 0, false, wf_nat hxi hk2⟩ :: apTs i hkp turns turns.length)).length ≤ 100000 := by omega
                  generalize graphW (upTo i) (⟨z, 1, true, 3, true, wf_nat hzi hk2⟩ :: ⟨x, 1, false, 0, false, wf_nat hxi hk2⟩ :: apTs i hkp turns turns.length) = G at *
                  obtain ⟨gb1, goff, gcap, hgv, hgc⟩ := hg10.form (by omega)
                  rw [hgl] at hgv
                  simp only [Value.slice.injEq, Option.some.injEq, Addr.mk.injEq, true_and, and_true] at hgv
                  obtain ⟨⟨rfl, rfl⟩, rfl⟩ := hgv
                  obtain ⟨u, q0, hux, _⟩ := hgc z _ hrow
                  rw [Nat.zero_add] at q0
                  obtain ⟨ub, uoff, ucap, rfl, huc⟩ := hux.form (by simp)
                  have q1 := huc 0 _ rfl
                  rw [Nat.add_zero] at q1
                  simp only [List.length_cons, List.length_nil] at q0
                  have hpx : (z : Int) < (i : Int) := by omega
                  obtain ⟨c1, c2, e1, e2, h3⟩ : ∃ c1 c2, decide (z < x) = c1 ∧ decide (x < z) = c2 ∧ ((c1 = true ∧ c2 = false ∧ (z : Int) < (x : Int) ∧ ¬ (x : Int) < (z : Int)) ∨ (c1 = false ∧ c2 = true ∧ ¬ (z : Int) < (x : Int) ∧ (x : Int) < (z : Int))) := by
                    refine ⟨_, _, rfl, rfl, ?_⟩
                    simp only [decide_eq_true_eq, decide_eq_false_iff_not]
                    omega
                  rw [e1] at hup
                  rw [e2] at hdn
                  have HG := Lib.hid hg10
                  have HUP10 := Lib.hid (fr0i HUP9.out hf10)
                  have HDN10 := Lib.hid (fr0i HDN9.out hf10)
                  have HF10 := Lib.hid (HF9.out.trans0 hf10)
                  have HU := Lib.hid hup
                  have HD := Lib.hid hdn
                  clear hrow hgc hux huc hg10 hf10 hup hdn HWO9 HTT HUP9 HDN9 HF9
                  have hnn : ((i : Int) != (i : Int)) = false := by simp
                  have hqq : ((x : Int) != (x : Int)) = false := by simp
                  clear e1 e2
                  rcases h3 with ⟨rfl, rfl, h4, h5⟩ | ⟨rfl, rfl, h4, h5⟩
                  all_goals
                    go_wp2_with fail
                    refine (is_any _ _ G (upTo i) _ HG.out HUP10.out hgl2).mono ?_
                    rintro e w11 ⟨rfl, hf11⟩
                    rw [HU.out]
                    have HG11 := Lib.hid (HG.out.fr0 hf11)
                    have HDN11 := Lib.hid (fr0i HDN10.out hf11)
                    have HF11 := Lib.hid (HF10.out.trans0 hf11)
                    clear hf11 HG HDN10 HF10 HUP10 q0 q1
                    go_wp2_with fail
                    refine (is_any _ _ G (downTo i) _ HG11.out HDN11.out hgl2).mono ?_
                    rintro e w12 ⟨rfl, hf12⟩
                    rw [HD.out]
                    have HF12 := Lib.hid (HF11.out.trans0 hf12)
                    clear hf12 HG11 HDN11 HF11
                    go_wp2_with fail
                    refine (works_any _).mono ?_
                    rintro e w13 ⟨rfl, hf13⟩
                    have HF13 := Lib.hid ((HF8.out.trans0 HF12.out).trans0 hf13)
                    clear hf13 HF12
                    go_wp2_with fail
                    go_ret
                    refine ⟨congrArg (fun z => Ending.returned (.bool z)) ?_, HF13.out⟩
                    simp
                    omega
                · go_wp2_with fail
                  go_quiet (fail)
                  go_wp2_with fail
                  have hbk := Bk.new (w8.drewN nq) 46 #[.int .i64 x, .int .i64 1, .bool false, .int .i64 0, .bool false, .int .i64 z, .int .i64 1, .bool true, .int .i64 3, .bool true]
                  have hfw : Fr w8 ((w8.drewN nq).alloc (.cells #[.int .i64 x, .int .i64 1, .bool false, .int .i64 0, .bool false, .int .i64 z, .int .i64 1, .bool true, .int .i64 3, .bool true] 46)) Nil := ((Fr.refl _ Nil).drewN _).alloc _
                  generalize (w8.drewN nq).alloc (.cells #[.int .i64 x, .int .i64 1, .bool false, .int .i64 0, .bool false, .int .i64 z, .int .i64 1, .bool true, .int .i64 3, .bool true] 46) = w9 at *
                  have hsz : (w8.drewN nq).heap.size = w8.heap.size := by simp
                  rw [hsz] at hbk
                  have q0 := hbk.cell 0
                  have q1 := hbk.cell 1
                  have q2 := hbk.cell 2
                  have q3 := hbk.cell 3
                  have q4 := hbk.cell 4
                  have q5 := hbk.cell 5
                  have q6 := hbk.cell 6
                  have q7 := hbk.cell 7
                  have q8 := hbk.cell 8
                  have q9 := hbk.cell 9
                  have qf := hbk.free
                  have HBK := Lib.hid hbk
                  have HFW := Lib.hid hfw
                  have HB8 := Lib.hid (Nat.le_refl w8.heap.size)
                  clear hbk hfw hsz
                  generalize hb8 : w8.heap.size = b8 at *
                  have HB8 := Lib.hid hb8
                  clear hb8
                  go_region
                  refine swap_world HBK.out ?_
                  intro w9 hbk hfw
                  have HFA : Hid (Fr w8 w9 Nil) := (Fr.trans (S := fun k => k = b8) HFW.out.of_nil hfw fun j hj h => h).mono fun k hk h => absurd hk (by have := HB8.out; omega)
                  have HBK2 := Lib.hid hbk
                  clear hbk hfw q0 q1 q2 q3 q4 q5 q6 q7 q8 q9 qf HBK HFW
                  go_wp2_with (at_builtin; refine wpList_app _ rfl _ _ 23 rfl Try.sltTouch _ rfl (own_bk (n := 2) (size := 5) HBK2.out rfl (by decide)) _ rfl (HSL.out _ HFA.out) (touch_ones _) Hlen.out ?_)
                  intro g9 cap9 w10 ho9 hg9 hb9
                  have hf9 : Fr w8 w10 Nil := (Fr.grown (S := fun k => k = b8) HFA.out.of_nil hg9 (fun k hk _ => by cases hk; rfl)).mono fun k hk h => absurd hk (by have := HB8.out; omega)
                  have hpair := own_pair (ts := apTs i hkp turns turns.length) ⟨z, 1, true, 3, true, wf_nat hzi hk2⟩ ⟨x, 1, false, 0, false, wf_nat hxi hk2⟩ ho9 (by rw [HAL.out]) rfl
                  have HC : Hid (conf ⟨z, 1, true, 3, true, wf_nat hzi hk2⟩ ⟨x, 1, false, 0, false, wf_nat hxi hk2⟩ = true) := by
                    have : conf ⟨z, 1, true, 3, true, wf_nat hzi hk2⟩ ⟨x, 1, false, 0, false, wf_nat hxi hk2⟩ = true := by simp [conf]; omega
                    exact this
                  have HF9 := Lib.hid hf9
                  clear ho9 hg9 hb9 hf9 HBK2 HFA HB8
                  have HTT := Lib.hid hpair
                  have HWO9 := Lib.hid (fr0i HWO8.out.at HF9.out)
                  have HUP9 := Lib.hid (fr0i HUP8.out HF9.out)
                  have HDN9 := Lib.hid (fr0i HDN8.out HF9.out)
                  clear hpair HSL
                  go_wp2_with fail
                  refine (graph_up HWO9.out (by omega) HTT.out.1 HTT.out.2 (by simp [HAL.out]; omega)).mono ?_
                  rintro e w10 ⟨g2, rfl, hg10, hf10⟩
                  have hrow := tied_row (hk := hkp) (turns := turns) (n := turns.length) (o1 := ⟨z, 1, true, 3, true, wf_nat hzi hk2⟩) (o2 := ⟨x, 1, false, 0, false, wf_nat hxi hk2⟩) HC.out rfl rfl rfl rfl hzi hxi
                  have hup := tied_up (hk := hkp) (turns := turns) (n := turns.length) (o1 := ⟨z, 1, true, 3, true, wf_nat hzi hk2⟩) (o2 := ⟨x, 1, false, 0, false, wf_nat hxi hk2⟩) HC.out rfl rfl rfl rfl hzi
                  have hdn := tied_down (hk := hkp) (turns := turns) (n := turns.length) (o1 := ⟨z, 1, true, 3, true, wf_nat hzi hk2⟩) (o2 := ⟨x, 1, false, 0, false, wf_nat hxi hk2⟩) HC.out rfl rfl rfl rfl hzi hxi
                  have hgl := graphW_len (upTo i) (⟨z, 1, true, 3, true, wf_nat hzi hk2⟩ :: ⟨x, 1, false, 0, false, wf_nat hxi hk2⟩ :: apTs i hkp turns turns.length)
                  rw [(upTo_ok i (by omega)).1] at hgl
                  have hgl2 : (graphW (upTo i) (⟨z, 1, true, 3, true, wf_nat hzi hk2⟩ :: ⟨x, 1, false, 0, false, wf_nat hxi hk2⟩ :: apTs i hkp turns turns.length)).length ≤ 100000 := by omega
                  generalize graphW (upTo i) (⟨z, 1, true, 3, true, wf_nat hzi hk2⟩ :: ⟨x, 1, false, 0, false, wf_nat hxi hk2⟩ :: apTs i hkp turns turns.length) = G at *
                  obtain ⟨gb1, goff, gcap, hgv, hgc⟩ := hg10.form (by omega)
                  rw [hgl] at hgv
                  simp only [Value.slice.injEq, Option.some.injEq, Addr.mk.injEq, true_and, and_true] at hgv
                  obtain ⟨⟨rfl, rfl⟩, rfl⟩ := hgv
                  obtain ⟨u, q0, hux, _⟩ := hgc z _ hrow
                  rw [Nat.zero_add] at q0
                  obtain ⟨ub, uoff, ucap, rfl, huc⟩ := hux.form (by simp)
                  have q1 := huc 0 _ rfl
                  rw [Nat.add_zero] at q1
                  simp only [List.length_cons, List.length_nil] at q0
                  have hpx : (z : Int) < (i : Int) := by omega
                  obtain ⟨c1, c2, e1, e2, h3⟩ : ∃ c1 c2, decide (z < x) = c1 ∧ decide (x < z) = c2 ∧ ((c1 = true ∧ c2 = false ∧ (z : Int) < (x : Int) ∧ ¬ (x : Int) < (z : Int)) ∨ (c1 = false ∧ c2 = true ∧ ¬ (z : Int) < (x : Int) ∧ (x : Int) < (z : Int))) := by
                    refine ⟨_, _, rfl, rfl, ?_⟩
                    simp only [decide_eq_true_eq, decide_eq_false_iff_not]
                    omega
                  rw [e1] at hup
                  rw [e2] at hdn
                  have HG := Lib.hid hg10
                  have HUP10 := Lib.hid (fr0i HUP9.out hf10)
                  have HDN10 := Lib.hid (fr0i HDN9.out hf10)
                  have HF10 := Lib.hid (HF9.out.trans0 hf10)
                  have HU := Lib.hid hup
                  have HD := Lib.hid hdn
                  clear hrow hgc hux huc hg10 hf10 hup hdn HWO9 HTT HUP9 HDN9 HF9
                  have hnn : ((i : Int) != (i : Int)) = false := by simp
                  have hqq : ((x : Int) != (x : Int)) = false := by simp
                  clear e1 e2
                  rcases h3 with ⟨rfl, rfl, h4, h5⟩ | ⟨rfl, rfl, h4, h5⟩
                  all_goals
                    go_wp2_with fail
                    refine (is_any _ _ G (upTo i) _ HG.out HUP10.out hgl2).mono ?_
                    rintro e w11 ⟨rfl, hf11⟩
                    rw [HU.out]
                    have HG11 := Lib.hid (HG.out.fr0 hf11)
                    have HDN11 := Lib.hid (fr0i HDN10.out hf11)
                    have HF11 := Lib.hid (HF10.out.trans0 hf11)
                    clear hf11 HG HDN10 HF10 HUP10 q0 q1
                    go_wp2_with fail
                    refine (is_any _ _ G (downTo i) _ HG11.out HDN11.out hgl2).mono ?_
                    rintro e w12 ⟨rfl, hf12⟩
                    rw [HD.out]
                    have HF12 := Lib.hid (HF11.out.trans0 hf12)
                    clear hf12 HG11 HDN11 HF11
                    go_wp2_with fail
                    refine (works_any _).mono ?_
                    rintro e w13 ⟨rfl, hf13⟩
                    have HF13 := Lib.hid ((HF8.out.trans0 HF12.out).trans0 hf13)
                    clear hf13 HF12
                    go_wp2_with fail
                    go_ret
                    refine ⟨congrArg (fun z => Ending.returned (.bool z)) ?_, HF13.out⟩
                    simp
                    omega
set_option maxRecDepth 100000 in
set_option maxHeartbeats 1000000 in
theorem apart_out (count a b : Int) (wrote : Bool) (tv : Value) (turns : List Int) (w : World) (hc : 0 ≤ count ∧ count < 256) (ht : BytesAt w tv turns) (htl : 60 < turns.length) :
    Calls Try.prog 5 #[.int .u8 count, tv, .int .u8 a, .int .u8 b, .bool wrote] w fun e w' => e = .returned (.bool true) ∧ Fr w w' Nil := by
  obtain ⟨ta, tcap, rfl⟩ := SlAt.shape ht
  clear ht
  go_enter Try.func5, Try.ntmps5
  go_wp2_with fail
  refine (works_any _).mono ?_
  rintro e w9 ⟨rfl, hf9⟩
  have HF9 := Lib.hid hf9
  clear hf9
  go_wp2_with fail
  go_ret
  exact ⟨rfl, HF9.out⟩
theorem apart_any (count a b : Int) (wrote : Bool) (tv : Value) (turns : List Int) (w : World) (hc : 0 ≤ count ∧ count < 256) (ha : 0 ≤ a ∧ a < 256) (hb : 0 ≤ b ∧ b < 256) (ht : BytesAt w tv turns) (htr : ∀ x ∈ turns, 0 ≤ x ∧ x < 256) :
    Calls Try.prog 5 #[.int .u8 count, tv, .int .u8 a, .int .u8 b, .bool wrote] w fun e w' => e = .returned (.bool true) ∧ Fr w w' Nil := by
  by_cases h : turns.length ≤ 60
  · exact apart_main count a b wrote tv turns w hc ha hb ht htr h
  · exact apart_out count a b wrote tv turns w hc ht (by omega)
end Go.Proofs.Ytegejcmihojhbaa
