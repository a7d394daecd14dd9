/-
  Walk of graph: two graphs of the call's own out of rows of numbers.
  No condition but sizes.
-/
import Derived.Test.YtegejcmihojhbaaHsSame
import Derived.Test.YtegejcmihojhbaaHsOrder
namespace Go.Proofs.Ytegejcmihojhbaa
open Go Go.RowKit

/-- A row of rows of the call's own. -/
def GrOwn (w : World) (v : Value) (G : List (List Int)) : Prop :=
  ∃ vs : List Value, w.ownsRow 0 28 1 v G.length vs ∧ ∀ (i : Nat) (xs : List Int), G[i]? = some xs → ∃ u, vs[i]? = some u ∧ OwnInts w 3 u xs
theorem GrOwn.nil (w : World) : GrOwn w (.slice none 0 0) [] := ⟨[], World.ownsRow_nil _ _ _ _, fun i xs h => by simp at h⟩
theorem GrOwn.fr {w w' : World} {S : Nat → Prop} {v : Value} {G : List (List Int)} (h : GrOwn w v G) (hf : Fr w w' S) (hv : ∀ k, v.ownBlock = some k → ¬ S k) (hr : ∀ u xs, OwnInts w 3 u xs → ∀ k, u.ownBlock = some k → ¬ S k) : GrOwn w' v G := by
  obtain ⟨vs, h1, h2⟩ := h
  refine ⟨vs, hf.own h1 hv, fun i xs hi => ?_⟩
  obtain ⟨u, hu, hx⟩ := h2 i xs hi
  exact ⟨u, hu, hx.fr hf (hr u xs hx)⟩
theorem GrOwn.fr0 {w w' : World} {v : Value} {G : List (List Int)} (h : GrOwn w v G) (hf : Fr w w' Nil) : GrOwn w' v G := h.fr hf (fun _ _ h => h) fun _ _ _ _ _ h => h
theorem GrOwn.shape {w : World} {v : Value} {G : List (List Int)} (h : GrOwn w v G) : ∃ a cap, v = .slice a G.length cap := by
  obtain ⟨vs, h1, _⟩ := h
  exact (SlAt.of_own h1).1.shape
theorem GrOwn.at {w : World} {v : Value} {G : List (List Int)} (h : GrOwn w v G) (hl : ∀ xs ∈ G, xs.length ≤ 1000000) : GraphAt w v G := by
  obtain ⟨vs, h1, h2⟩ := h
  refine ⟨vs, (SlAt.of_own h1).1, fun i xs hi => ?_⟩
  obtain ⟨u, hu, hx⟩ := h2 i xs hi
  exact ⟨u, hu, hx.at, hl xs (List.mem_of_getElem? hi)⟩
theorem ptr_one (u : Value) (h : ∃ a n c, u = .slice a n c) : ∀ x ∈ [u], x.oneCell' = true := by
  obtain ⟨a, n, c, rfl⟩ := h
  intro x hx
  simp at hx; subst hx; rfl
/-- Behind 'g = append(g, a)'. -/
theorem GrOwn.app {w w' : World} {v v' u : Value} {G : List (List Int)} {xs : List Int} {ob : Obj} {vs : List Value} (h : w.ownsRow 0 28 1 v G.length vs) (hg0 : ∀ (i : Nat) (xs : List Int), G[i]? = some xs → ∃ u, vs[i]? = some u ∧ OwnInts w 3 u xs) (hu : OwnInts w 3 u xs)
    (ho : w'.ownsRow 0 28 1 v' (G.length + 1) (vs ++ [u])) (hg : (w.alloc ob).grownBy w' v.ownBlock) : GrOwn w' v' (G ++ [xs]) := by
  have hf : Fr w w' (fun k => v.ownBlock = some k) := ((Fr.refl w _).alloc ob).grown hg fun k hk _ => hk
  have hvl : vs.length = G.length := by rw [h.1, Nat.mul_one]
  refine ⟨vs ++ [u], by rw [List.length_append]; exact ho, fun i ys hi => ?_⟩
  by_cases hlt : i < G.length
  · rw [List.getElem?_append_left hlt] at hi
    obtain ⟨u2, h2, h3⟩ := hg0 i ys hi
    exact ⟨u2, by rw [List.getElem?_append_left (by omega)]; exact h2, h3.fr hf fun k hk => own_apart (by decide) h3 h k hk⟩
  · have hl := (List.getElem?_eq_some_iff.1 hi).1
    simp at hl
    obtain rfl : i = G.length := by omega
    simp at hi
    subst hi
    exact ⟨u, by rw [← hvl]; simp, hu.fr hf fun k hk => own_apart (by decide) hu h k hk⟩

theorem own_snocZ {w : World} {v : Value} {l : List Int} {x : Int} (h : w.ownsRow 0 3 1 v (l.length + 1) (l.map (Value.int .i64) ++ [.int .i64 x])) : OwnInts w 3 v (l ++ [x]) := by
  unfold OwnInts
  rw [List.length_append, List.map_append]
  exact h
theorem app_snocZ {B : Nat} {wr w' : World} {v v' : Value} {l : List Int} {x : Int} {o : Obj} (hn : NewFrom B v) (hB : B ≤ wr.heap.size)
    (ho : w'.ownsRow 0 3 1 v' (l.length + 1) (l.map (Value.int .i64) ++ [.int .i64 x])) (hg : (wr.alloc o).grownBy w' v.ownBlock) (hb : v'.ownBlock = v.ownBlock ∨ v'.ownBlock = some (wr.heap.size + 1)) :
    OwnInts w' 3 v' (l ++ [x]) ∧ NewFrom B v' ∧ Fr wr w' (fun j => v.ownBlock = some j) := by
  refine ⟨own_snocZ ho, fun k hk => ?_, ?_⟩
  · rcases hb with hb | hb
    · exact hn k (by rw [← hb, hk])
    · rw [hk] at hb; cases hb; omega
  · exact ((Fr.refl wr _).alloc o).grown hg fun k hk _ => hk

/-- One row: the numbers brought among n nodes, each once. -/
def rowTo1 (n : Nat) (xs : List Int) : List Int := xs.foldl (fun acc x => if acc.contains (x % (n : Int)) then acc else acc ++ [x % (n : Int)]) []
def graphP (L : List (List Int)) : List (List Int) := L.map (rowTo1 L.length)
theorem rowTo1_snoc (n : Nat) (xs : List Int) (x : Int) : rowTo1 n (xs ++ [x]) = if (rowTo1 n xs).contains (x % (n : Int)) then rowTo1 n xs else rowTo1 n xs ++ [x % (n : Int)] := by
  simp [rowTo1]
theorem rowTo1_len (n : Nat) (xs : List Int) : (rowTo1 n xs).length ≤ xs.length := by
  have : ∀ (xs acc : List Int), (xs.foldl (fun acc x => if acc.contains (x % (n : Int)) then acc else acc ++ [x % (n : Int)]) acc).length ≤ acc.length + xs.length := by
    intro xs
    induction xs with
    | nil => intro acc; simp
    | cons x xs ih =>
      intro acc
      rw [List.foldl_cons]
      refine Nat.le_trans (ih _) ?_
      split <;> simp <;> omega
  have := this xs []
  simpa [rowTo1] using this
/-- Blocks apart. -/
def Far (a b : Value) : Prop := ∀ k, a.ownBlock = some k → b.ownBlock ≠ some k
theorem Far.symm {a b : Value} (h : Far a b) : Far b a := fun k hk h2 => h k h2 hk
theorem Far.nil (b : Value) : Far (.slice none 0 0) b := fun k hk => by simp [Value.ownBlock] at hk
theorem Far.of {B : Nat} {v v' b : Value} {N : Nat} (h : Far v b) (hb : v'.ownBlock = v.ownBlock ∨ v'.ownBlock = some N) (hN : ∀ k, b.ownBlock = some k → k < N) : Far v' b := by
  have _ := B
  intro k hk h2
  rcases hb with hb | hb
  · exact h k (by rw [← hb, hk]) h2
  · rw [hk] at hb; cases hb
    have := hN _ h2; omega

def OfRet (L : List (List Int)) (w : World) (e : Ending) (w' : World) : Prop :=
  ∃ ga gcap ha hcap, e = .returned (.tuple #[.slice ga L.length gcap, .slice ha L.length hcap]) ∧ GraphAt w' (.slice ga L.length gcap) (graphP L) ∧ GraphAt w' (.slice ha L.length hcap) (graphP L) ∧ Fr w w' Nil
theorem Try.sltRows : SlT Try.prog 26 28 1 24 := SlT.mk Try.underlying26 (z := .slice none 0 0) (by kernel_rfl) rfl (by decide) (by decide)
theorem Try.sltRows2 : SlT Try.prog 25 28 1 24 := SlT.mk Try.underlying25 (z := .slice none 0 0) (by kernel_rfl) rfl (by decide) (by decide)

set_option maxRecDepth 100000 in
set_option maxHeartbeats 4000000 in
theorem graph_any (v : Value) (L : List (List Int)) (w : World) (h : RowsU8At w v L) (hl : L.length ≤ 20) (hl2 : ∀ xs ∈ L, xs.length ≤ 200) :
    Calls Try.prog 10 #[v] w (OfRet L w) := by
  obtain ⟨a, cap, rfl⟩ := h.shape
  have H := Lib.hid h
  have Hl2 := Lib.hid hl2
  clear h hl2
  go_enter Try.func10, Try.ntmps10
  go_wp2_with fail
  go_loopw [4, 5, 6, 7, 8, 9, 10, 11, 12] (fun vg vh vi _ _ _ _ _ _ wr => ∃ (k : Nat) (ga : Option Addr) (gcap : Nat) (ha : Option Addr) (hcap : Nat), k ≤ L.length ∧ vi = .int .i64 k ∧ vg = .slice ga k gcap ∧ vh = .slice ha k hcap ∧ GrOwn wr vg ((graphP L).take k) ∧ GrOwn wr vh ((graphP L).take k) ∧ NewFrom w.heap.size vg ∧ NewFrom w.heap.size vh ∧ Far vg vh ∧ Fr w wr Nil)
    (fun _ _ vi _ _ _ _ _ _ _ => L.length - (intOf vi).toNat)
  case atStart => exact ⟨0, none, 0, none, 0, by omega, rfl, rfl, rfl, GrOwn.nil _, GrOwn.nil _, fun k hk => by simp [Value.ownBlock] at hk, fun k hk => by simp [Value.ownBlock] at hk, Far.nil _, Fr.refl _ _⟩
  case round =>
    obtain ⟨k, ga, gcap, ha, hcap, hk, rfl, rfl, rfl, hg, hh, hng, hnh, hfar, hf⟩ := hrel
    obtain ⟨wo, rfl⟩ : ∃ wo : World, wo = wr := ⟨_, rfl⟩
    have Hg := Lib.hid hg
    have Hh := Lib.hid hh
    have Hng := Lib.hid hng
    have Hnh := Lib.hid hnh
    have Hfar := Lib.hid hfar
    have Hf := Lib.hid hf
    clear hg hh hng hnh hfar hf
    by_cases hlt : k < L.length
    · obtain ⟨b, off, cap2, hv, hc⟩ := H.out.form (by omega)
      simp only [Value.slice.injEq, true_and] at hv
      obtain ⟨rfl, rfl⟩ := hv
      have hgx := List.getElem?_eq_getElem hlt
      have hxm := Hl2.out _ (List.getElem_mem hlt)
      have HTK : Hid ((graphP L).take (k + 1) = (graphP L).take k ++ [rowTo1 L.length L[k]]) := by
        have : (graphP L).take (k + 1) = (graphP L).take k ++ [rowTo1 L.length L[k]] := by
          rw [List.take_add_one, graphP, List.getElem?_map, hgx]; rfl
        exact this
      generalize L[k] = xs at *
      obtain ⟨u, hu, hx, _, hxr⟩ := hc k xs hgx
      obtain ⟨xa, xcap, rfl⟩ := SlAt.shape hx
      have q0 := Hf.out.cell hu (fun h => h)
      have Hq : Hid (∀ v, Fr wo v Nil → v.cell? ⟨b, off + k, none⟩ = some (.slice xa xs.length xcap)) := fun v hv => hv.cell q0 fun h => h
      have HX : Hid (∀ v, Fr wo v Nil → BytesAt v (.slice xa xs.length xcap) xs) := fun v hv => SlAt.fr0 (SlAt.fr0 hx Hf.out) hv
      have Hxr := Lib.hid hxr
      clear hc hgx hu hx hxr q0
      go_wp2_with fail
      go_loopw [7, 8, 9, 10, 11, 12] (fun va vb vm _ _ _ wr => ∃ (m : Nat) (aa : Option Addr) (acap : Nat) (ba : Option Addr) (bcap : Nat), m ≤ xs.length ∧ vm = .int .i64 m ∧ va = .slice aa (rowTo1 L.length (xs.take m)).length acap ∧ vb = .slice ba (rowTo1 L.length (xs.take m)).length bcap ∧
          OwnInts wr 3 va (rowTo1 L.length (xs.take m)) ∧ OwnInts wr 3 vb (rowTo1 L.length (xs.take m)) ∧ NewFrom wo.heap.size va ∧ NewFrom wo.heap.size vb ∧ Far va vb ∧ Fr wo wr Nil)
        (fun _ _ vm _ _ _ _ => xs.length - (intOf vm).toNat)
      case atStart => exact ⟨0, none, 0, none, 0, by omega, rfl, rfl, rfl, World.ownsRow_nil _ _ _ _, World.ownsRow_nil _ _ _ _, fun k hk => by simp [Value.ownBlock] at hk, fun k hk => by simp [Value.ownBlock] at hk, Far.nil _, Fr.refl _ _⟩
      case round =>
        obtain ⟨m, aa, acap, ba, bcap, hm, rfl, rfl, rfl, hva, hvb, hna, hnb, hfab, hf⟩ := hrel
        obtain ⟨wi, rfl⟩ : ∃ wi : World, wi = wr := ⟨_, rfl⟩
        have Hva := Lib.hid hva
        have Hvb := Lib.hid hvb
        have Hna := Lib.hid hna
        have Hnb := Lib.hid hnb
        have Hfab := Lib.hid hfab
        have Hf2 := Lib.hid hf
        have hrl : (rowTo1 L.length (xs.take m)).length ≤ 200 := Nat.le_trans (rowTo1_len _ _) (by simp; omega)
        clear hva hvb hna hnb hfab hf
        have q0 := Hq.out wi Hf2.out
        by_cases hlm : m < xs.length
        · obtain ⟨xb, xoff, xcap2, hxv, hxc⟩ := (HX.out wi Hf2.out).form (by omega)
          simp only [Value.slice.injEq, true_and] at hxv
          obtain ⟨rfl, rfl⟩ := hxv
          have q1 := hxc m _ (List.getElem?_eq_getElem hlm)
          have hr := Hxr.out _ (List.getElem_mem hlm)
          have HRS : Hid (rowTo1 L.length (xs.take (m + 1)) = if (rowTo1 L.length (xs.take m)).contains (xs[m] % (L.length : Int)) then rowTo1 L.length (xs.take m) else rowTo1 L.length (xs.take m) ++ [xs[m] % (L.length : Int)]) := by
            have : rowTo1 L.length (xs.take (m + 1)) = if (rowTo1 L.length (xs.take m)).contains (xs[m] % (L.length : Int)) then rowTo1 L.length (xs.take m) else rowTo1 L.length (xs.take m) ++ [xs[m] % (L.length : Int)] := by
              rw [List.take_succ_eq_append_getElem hlm, rowTo1_snoc]
            exact this
          generalize xs[m] = x at *
          generalize rowTo1 L.length (xs.take m) = zs at *
          obtain ⟨hx0, hx1⟩ := hr
          have hw1 : wrap64 x = x := by unfold wrap64; omega
          have hz1 : ((L.length : Int) == 0) = false := by rw [beq_eq_false_iff_ne]; omega
          have hz2 : ¬ (L.length : Int) = 0 := by omega
          have hz3 : x.tmod (L.length : Int) = x % (L.length : Int) := Int.tmod_eq_emod_of_nonneg hx0
          have hy0 : 0 ≤ x % (L.length : Int) := Int.emod_nonneg _ hz2
          clear hxc
          go_wp2_with fail
          go_loopw [11, 12] (fun vf vj wr => ∃ j : Nat, j ≤ zs.length ∧ vj = .int .i64 j ∧ vf = .bool ((zs.take j).contains (x % (L.length : Int))) ∧ wi = wr) (fun _ vj _ => zs.length - (intOf vj).toNat)
          case atStart => exact ⟨0, by omega, rfl, by simp, rfl⟩
          case round =>
            obtain ⟨j, hj, rfl, rfl, rfl⟩ := hrel
            by_cases hlj : j < zs.length
            · obtain ⟨ab, acap2, hav, _⟩ := Hva.out.form (by omega)
              simp only [Value.slice.injEq, true_and] at hav
              obtain ⟨rfl, rfl⟩ := hav
              have q2 := Hva.out.cell rfl j hlj
              have HTS : Hid ((zs.take (j + 1)).contains (x % (L.length : Int)) = ((zs.take j).contains (x % (L.length : Int)) || (zs.getD j 0 == x % (L.length : Int)))) := by
                have : (zs.take (j + 1)).contains (x % (L.length : Int)) = ((zs.take j).contains (x % (L.length : Int)) || (zs.getD j 0 == x % (L.length : Int))) := by
                  rw [List.take_succ_eq_append_getElem hlj, show zs.getD j 0 = zs[j] by simp [List.getD_eq_getElem?_getD, hlj]]
                  rw [Bool.eq_iff_iff]
                  simp only [List.contains_iff_mem, List.mem_append, List.mem_singleton, Bool.or_eq_true, beq_iff_eq]
                  exact or_congr Iff.rfl eq_comm
                exact this
              generalize zs.getD j 0 = z at *
              cases hc : (zs.take j).contains (x % (L.length : Int)) with
              | true =>
                rw [hc] at HTS
                clear hc
                go_wp2_with fail
                go_roundw
                case rel => exact ⟨j + 1, by omega, by go_num, by rw [HTS.out]; rfl, by first | trivial | rfl⟩
                case measure => simp [intOf]; omega
              | false =>
                rw [hc] at HTS
                clear hc
                go_wp2_with fail
                go_roundw
                case rel => exact ⟨j + 1, by omega, by go_num, by rw [HTS.out]; simp, by first | trivial | rfl⟩
                case measure => simp [intOf]; omega
            · obtain rfl : j = zs.length := by omega
              rw [List.take_length]
              cases hc : zs.contains (x % (L.length : Int)) with
              | true =>
                rw [hc, if_pos rfl] at HRS
                clear hc
                go_wp2_with fail
                go_roundw
                case rel => exact ⟨m + 1, aa, acap, ba, bcap, by omega, by go_num, by rw [HRS.out], by rw [HRS.out], by rw [HRS.out]; exact Hva.out, by rw [HRS.out]; exact Hvb.out, Hna.out, Hnb.out, Hfab.out, Hf2.out⟩
                case measure => simp [intOf]; omega
              | false =>
                rw [hc, if_neg (by simp)] at HRS
                clear hc
                have Hlen : Hid (zs.length + 1 ≤ 1000000) := by
                  have : zs.length + 1 ≤ 1000000 := by omega
                  exact this
                generalize x % (L.length : Int) = y at *
                go_wp2_with (at_builtin; refine wpList_app _ rfl _ _ 28 rfl Try.sltInt _ rfl (World.ownsRow.alloc Hva.out _) _ rfl (one_at _ _ _ _ (by simp)) (ints_one _) Hlen.out ?_)
                intro g3 cap3 w3 ho3 hg3 hb3
                have h1 := app_snocZ Hna.out Hf2.out.size ho3 hg3 hb3
                have hfar1 := Far.of (B := 0) Hfab.out hb3 (fun k hk => Nat.lt_succ_of_lt (OwnInts.lt Hvb.out k hk))
                have Hvb3 := Lib.hid (Hvb.out.fr h1.2.2 fun k hk h2 => Hfab.out.symm k hk h2)
                have H1 := Lib.hid h1
                have HF1 := Lib.hid hfar1
                have HF3 : Hid (Fr wo w3 Nil) := Hf2.out.trans h1.2.2 fun j hj hj2 => absurd hj (by have := Hna.out j hj2; omega)
                clear h1 hfar1 ho3 hg3 hb3
                go_wp2_with (at_builtin; refine wpList_app _ rfl _ _ 28 rfl Try.sltInt _ rfl (World.ownsRow.alloc Hvb3.out _) _ rfl (one_at _ _ _ _ (by simp)) (ints_one _) Hlen.out ?_)
                intro g4 cap4 w4 ho4 hg4 hb4
                have h2 := app_snocZ Hnb.out HF3.out.size ho4 hg4 hb4
                have hfar2 := Far.of (B := 0) HF1.out.symm hb4 (fun k hk => Nat.lt_succ_of_lt (OwnInts.lt H1.out.1 k hk))
                have Hva4 := Lib.hid (H1.out.1.fr h2.2.2 fun k hk h2 => HF1.out k hk h2)
                have H2 := Lib.hid h2
                have HF2 := Lib.hid hfar2.symm
                have HF4 : Hid (Fr wo w4 Nil) := HF3.out.trans h2.2.2 fun j hj hj2 => absurd hj (by have := Hnb.out j hj2; omega)
                clear h2 hfar2 ho4 hg4 hb4
                go_wp2_with fail
                go_roundw
                case rel => exact ⟨m + 1, g3, cap3, g4, cap4, by omega, by go_num, by rw [HRS.out]; simp, by rw [HRS.out]; simp, by rw [HRS.out]; exact Hva4.out, by rw [HRS.out]; exact H2.out.1, H1.out.2.1, H2.out.2.1, HF2.out, HF4.out⟩
                case measure => simp [intOf]; omega
        · obtain rfl : m = xs.length := by omega
          rw [List.take_length] at Hva Hvb Hna Hnb Hfab hrl ⊢
          generalize rowTo1 L.length xs = zs at *
          have HGi := Lib.hid (Hg.out.fr0 Hf2.out)
          have HHi := Lib.hid (Hh.out.fr0 Hf2.out)
          have hlk : ((graphP L).take k).length = k := by simp [graphP]; omega
          obtain ⟨vs, hgo, hgr⟩ := HGi.out
          obtain ⟨us, hho, hhr⟩ := HHi.out
          rw [hlk] at hgo hho
          have Hgo := Lib.hid hgo
          have Hgr := Lib.hid hgr
          have Hho := Lib.hid hho
          have Hhr := Lib.hid hhr
          have HLK := Lib.hid hlk
          have Hlen : Hid (k + 1 ≤ 1000000) := by
            have : k + 1 ≤ 1000000 := by omega
            exact this
          have Hfw := Lib.hid (Hf.out.trans0 Hf2.out)
          clear hgo hgr hho hhr HGi HHi hlk
          go_wp2_with (at_builtin; refine wpList_app _ rfl _ _ 26 rfl Try.sltRows _ rfl (World.ownsRow.alloc Hgo.out _) _ rfl (one_at _ _ _ _ (by simp)) (ptr_one _ ⟨_, _, _, rfl⟩) Hlen.out ?_)
          intro g3 cap3 w3 ho3 hg3 hb3
          have hfr3 : Fr wi w3 (fun j => (Value.slice ga k gcap).ownBlock = some j) := ((Fr.refl wi _).alloc _).grown hg3 fun j hj _ => hj
          have H3 : Hid (GrOwn w3 (.slice g3 (k + 1) cap3) ((graphP L).take k ++ [zs])) := GrOwn.app (by rw [HLK.out]; exact Hgo.out) Hgr.out Hva.out (by rw [HLK.out]; exact ho3) hg3
          have HNg : Hid (NewFrom w.heap.size (.slice g3 (k + 1) cap3)) := by
            intro j hj
            rcases hb3 with hb | hb
            · exact Hng.out j (by rw [← hb, hj])
            · rw [hj] at hb; cases hb; have := Hfw.out.size; omega
          have HF1 := Lib.hid (Far.of (B := 0) Hfar.out hb3 (fun j hj => Nat.lt_succ_of_lt (World.ownsRow.lt Hho.out j hj).2))
          have Hho3 := Lib.hid (hfr3.own Hho.out fun j hj h2 => Hfar.out.symm j hj h2)
          have Hhr3 : Hid (∀ (i : Nat) (xs : List Int), ((graphP L).take k)[i]? = some xs → ∃ u, us[i]? = some u ∧ OwnInts w3 3 u xs) := fun i ys hi => by
            obtain ⟨u, hu, hx⟩ := Hhr.out i ys hi
            exact ⟨u, hu, hx.fr hfr3 fun j hj => own_apart (by decide) hx Hgo.out j hj⟩
          have Hvb3 := Lib.hid (Hvb.out.fr hfr3 fun j hj => own_apart (by decide) Hvb.out Hgo.out j hj)
          have HF3 : Hid (Fr w w3 Nil) := Hfw.out.trans hfr3 fun j hj hj2 => absurd hj (by have := Hng.out j hj2; omega)
          clear ho3 hg3 hb3 hfr3
          go_wp2_with (at_builtin; refine wpList_app _ rfl _ _ 25 rfl Try.sltRows2 _ rfl (World.ownsRow.alloc Hho3.out _) _ rfl (one_at _ _ _ _ (by simp)) (ptr_one _ ⟨_, _, _, rfl⟩) Hlen.out ?_)
          intro g4 cap4 w4 ho4 hg4 hb4
          have hfr4 : Fr w3 w4 (fun j => (Value.slice ha k hcap).ownBlock = some j) := ((Fr.refl w3 _).alloc _).grown hg4 fun j hj _ => hj
          have H4 : Hid (GrOwn w4 (.slice g4 (k + 1) cap4) ((graphP L).take k ++ [zs])) := GrOwn.app (by rw [HLK.out]; exact Hho3.out) Hhr3.out Hvb3.out (by rw [HLK.out]; exact ho4) hg4
          have HNh : Hid (NewFrom w.heap.size (.slice g4 (k + 1) cap4)) := by
            intro j hj
            rcases hb4 with hb | hb
            · exact Hnh.out j (by rw [← hb, hj])
            · rw [hj] at hb; cases hb; have := HF3.out.size; omega
          obtain ⟨vs3, hg3o, hg3r⟩ := H3.out
          have HF2 := Lib.hid (Far.of (B := 0) HF1.out.symm hb4 (fun j hj => Nat.lt_succ_of_lt (World.ownsRow.lt hg3o j hj).2)).symm
          have H34 : Hid (GrOwn w4 (.slice g3 (k + 1) cap3) ((graphP L).take k ++ [zs])) := H3.out.fr hfr4 (fun j hj h2 => HF1.out j hj h2) fun u xs hx j hj => own_apart (by decide) hx Hho3.out j hj
          have HF4 : Hid (Fr w w4 Nil) := HF3.out.trans hfr4 fun j hj hj2 => absurd hj (by have := Hnh.out j hj2; omega)
          clear ho4 hg4 hb4 hfr4 hg3o hg3r
          go_wp2_with fail
          go_roundw
          case rel => exact ⟨k + 1, g3, cap3, g4, cap4, by omega, by go_num, rfl, rfl, by rw [HTK.out]; exact H34.out, by rw [HTK.out]; exact H4.out, HNg.out, HNh.out, HF2.out, HF4.out⟩
          case measure => simp [intOf]; omega
    · obtain rfl : k = L.length := by omega
      have htk : (graphP L).take L.length = graphP L := List.take_of_length_le (by simp [graphP])
      rw [htk] at Hg Hh
      have HTK := Lib.hid htk
      clear htk
      go_wp2_with fail
      go_ret2
      have hbd : ∀ xs ∈ graphP L, xs.length ≤ 1000000 := by
        intro xs hxs
        obtain ⟨ys, hy, rfl⟩ := List.mem_map.1 hxs
        have := rowTo1_len L.length ys
        have := Hl2.out ys hy
        omega
      exact ⟨ga, gcap, ha, hcap, rfl, Hg.out.at hbd, Hh.out.at hbd, Hf.out⟩
end Go.Proofs.Ytegejcmihojhbaa
