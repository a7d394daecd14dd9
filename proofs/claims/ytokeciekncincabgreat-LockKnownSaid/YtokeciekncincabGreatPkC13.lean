/-
  slices.SortFunc of spots, by their order: the row sorted, in place.
  No condition but sizes.
  Walk of Spots: what one holds.
  No condition but sizes.
-/
import Derived.Test.YtokeciekncincabGreatPkC8
import Derived.Test.YtokeciekncincabGreatPkC12
import Derived.Test.YtokeciekncincabGreatPkC10
import Derived.Test.YtokeciekncincabGreatLkShelf
import Derived.Shelf.SlSortCmp.NoneTotal
import Derived.Sort.OwnSortedInts
namespace Go.Proofs.YtokeciekncincabGreat
open Go Go.RowKit Go.Maps Go.Sort Go.Shelf

theorem flatK_list (l : List Spot) : (flatK sp3 3 l.toArray).toList = l.flatMap sp3 := by
  refine List.ext_getElem? fun t => ?_
  by_cases ht : t < l.length * 3
  · have hd : t / 3 < l.length := (Nat.div_lt_iff_lt_mul (by decide)).2 ht
    have hm := Nat.mod_lt t (show 0 < 3 by decide)
    have he := Nat.div_add_mod t 3
    have h1 := flat_get (n := 3) (f := sp3) (fun _ => rfl) (List.getElem?_eq_getElem hd) (t % 3) hm
    rw [show t / 3 * 3 + t % 3 = t by omega] at h1
    rw [h1, Array.getElem?_toList]
    have h2 : t < (flatK sp3 3 l.toArray).size := by simpa using ht
    rw [Array.getElem?_eq_getElem h2]
    have h3 := get_flatK sp3 3 l.toArray t (by simpa using ht)
    rw [getElem!_pos _ t h2] at h3
    rw [h3]
    have h4 : l.toArray[t / 3]! = l[t / 3] := by rw [getElem!_pos _ _ (by simpa using hd)]; simp
    rw [h4]
    have h5 : t % 3 < (sp3 l[t / 3]).length := hm
    rw [getElem!_pos (sp3 l[t / 3]) (t % 3) h5, List.getElem?_eq_getElem h5]
  · rw [List.getElem?_eq_none (by simp; omega), List.getElem?_eq_none (by rw [flat_len (n := 3) (fun _ => rfl)]; omega)]
theorem holdsSp {w : World} {g n cap : Nat} {l : List Spot} (h : OwnSp w (.slice (some ⟨g, 0, none⟩) n cap) l) (hn : n = l.length) : HoldsK sp3 3 w g 0 l.toArray := by
  subst hn
  intro j hj
  have hj' : j < l.length * 3 := by simpa using hj
  have h1 := World.ownsRow.cellAt h j (by omega)
  have h2 : j < (flatK sp3 3 l.toArray).size := hj
  have h3 : (flatK sp3 3 l.toArray)[j]! = (flatK sp3 3 l.toArray)[j] := getElem!_pos _ j h2
  rw [Nat.zero_add]
  refine ⟨?_, World.ownsRow.frozenAt h j⟩
  rw [h1, ← flatK_list, h3, Array.getElem?_toList, Array.getElem?_eq_getElem h2]
  rfl
theorem heap_sortedV {w : World} {g n : Nat} {os : Array Obj} {cur : Array Value} {e : TypeId} {fr : Nat × Nat} (d : Array Value) (hb : w.heap[g]? = some (.cells cur e fr)) :
    (grow (putRow id (Sort.ahead w n) g 0 d) os).heap[g]? = some (.cells (putCells id 0 d cur) e fr) := by
  have hg : g < w.heap.size := (Array.getElem?_eq_some_iff.1 hb).1
  rw [heap_grow_old _ _ (by simpa using hg)]
  simp [putRow, mapBlock, Sort.ahead, Array.getElem?_modify, hb, onCells]
theorem grownBy_sortedV {w : World} {g n : Nat} {os : Array Obj} (d : Array Value) : w.grownBy (grow (putRow id (Sort.ahead w n) g 0 d) os) (some g) := by
  refine ⟨rfl, rfl, rfl, by simp, fun k hk hne => ?_⟩
  rw [heap_grow_old _ _ (by simpa using hk)]
  have : g ≠ k := fun e => hne (by rw [e])
  simp [putRow, mapBlock, Sort.ahead, Array.getElem?_modify, this]
theorem take_putCellsV (cur : Array Value) (ts : Array Value) (h : ts.size ≤ cur.size) : (putCells id 0 ts cur).toList.take ts.size = ts.toList := by
  apply List.ext_getElem?
  intro j
  by_cases hj : j < ts.size
  · rw [List.getElem?_take_of_lt hj, Array.getElem?_toList]
    simp [putCells, hj, show j < cur.size by omega]
  · rw [List.getElem?_take_eq_none (by omega), List.getElem?_eq_none (by simp; omega)]
theorem ownSp_sorted {w : World} {g cap n : Nat} {os : Array Obj} {l l' : List Spot} (h : OwnSp w (.slice (some ⟨g, 0, none⟩) l.length cap) l) (hl : l'.length = l.length) :
    OwnSp (sortWorldK sp3 3 w g 0 n l'.toArray os) (.slice (some ⟨g, 0, none⟩) l'.length cap) l' := by
  rcases h.2 with ⟨h1, _⟩ | ⟨g', cap', cur, h1, hb, hg, h2, h3, h4, h5⟩
  · cases h1
  cases h1
  refine ⟨flat_len (n := 3) (fun _ => rfl) _, .inr ⟨g, cap, _, rfl, hb, heap_sortedV _ hg, by omega, h3, by simp [putCells, h4], ?_⟩⟩
  have hsz : (flatK sp3 3 l'.toArray).size = l'.length * 3 := by simp
  rw [← hsz]
  have := take_putCellsV cur (flatK sp3 3 l'.toArray) (by rw [hsz, h4, hl]; omega)
  rw [this, flatK_list]
def leO (x y : Spot) : Bool := !decide (ordZ y x < 0)
def sortS (l : List Spot) : List Spot := l.mergeSort leO
theorem ordZ_total {x y : Spot} (h1 : decide (ordZ x y < 0) = false) (h2 : decide (ordZ y x < 0) = false) : x = y := by
  rw [ordZ_less] at h1 h2
  apply Classical.byContradiction
  intro hne
  have := lessS_total hne h1
  rw [h2] at this; cases this
theorem swoO : SWO (ltOf ordZ) where
  irrefl x := by show decide (ordZ x x < 0) = false; rw [ordZ_less]; exact lessS_irrefl x
  trans x y z h1 h2 := by
    have h1 : decide (ordZ x y < 0) = true := h1
    have h2 : decide (ordZ y z < 0) = true := h2
    show decide (ordZ x z < 0) = true
    rw [ordZ_less] at *
    exact lessS_trans h1 h2
  ntrans x y z h1 h2 := by
    have h1 : decide (ordZ x y < 0) = false := h1
    have h2 : decide (ordZ y z < 0) = false := h2
    show decide (ordZ x z < 0) = false
    rw [ordZ_less] at *
    cases h3 : lessS x z with
    | false => rfl
    | true =>
      by_cases e1 : x = y
      · subst e1; rw [h3] at h2; cases h2
      · have h4 := lessS_total e1 h1
        have h5 := lessS_trans h4 h3
        rw [h2] at h5; cases h5
def SortRetS (v : Value) (l : List Spot) (w : World) (e : Ending) (w' : World) : Prop :=
  e = .returned (.tuple #[]) ∧ OwnSp w' v (sortS l) ∧ Fr w w' (fun k => v.ownBlock = some k)
theorem Tryz.isAggSpot (w : World) : (isAgg 30).run Tryz.prog w = .ok true w := by kernel_rfl
theorem Tryz.sizeSpot (w : World) : (Go.sizeOf 30).run Tryz.prog w = .ok 3 w := by kernel_rfl
theorem sortS_len (l : List Spot) : (sortS l).length = l.length := List.length_mergeSort _
theorem sortsp_any (v : Value) (l : List Spot) (w : World) (h : OwnSp w v l) (hl : l.length ≤ 1000000) : Calls Tryz.prog 50 #[v, .func (.func 51) #[] #[]] w (SortRetS v l w) := by
  rcases h.2 with ⟨rfl, hn⟩ | ⟨g, cap, cur, rfl, _, hg, _⟩
  · obtain rfl : l = [] := List.eq_nil_of_length_eq_zero hn
    refine (AnyF.slices_SortFunc_none { Tryz.laysSortSp with } none 0 _ w).mono ?_
    rintro e w' ⟨rfl, rfl⟩
    exact ⟨rfl, by unfold sortS; simpa using h, Fr.refl _ _⟩
  · have eg : ∀ args w, (callFunc 51 args).run Tryz.prog w = .ok (.enter 51 args) w := enters_of Tryz.func51 (by kernel_rfl) rfl
    have hlt : g < w.heap.size := (Array.getElem?_eq_some_iff.1 hg).1
    have hcon := AnyQ.slices_SortFunc_total Tryz.laysSortSp 3 Tryz.isAggSpot Tryz.sizeSpot sp3 (fun _ => rfl) (fun x v hv => by simp at hv; rcases hv with rfl | rfl | rfl <;> rfl) ordZ swoO 51 #[] g 0 cap l.toArray w eg (fun m os dk _ x y => order_any x y _) (holdsSp h rfl) hlt (by simp; omega) (fun x y h1 h2 => ordZ_total h1 h2)
    refine hcon.mono ?_
    rintro e w' ⟨rfl, n, os, rfl⟩
    refine ⟨rfl, ?_, ?_⟩
    · have h1 := ownSp_sorted (n := n) (os := os) h (sortS_len l)
      rw [sortS_len] at h1
      exact h1
    · exact (Fr.refl w _).grown (grownBy_sortedV _) fun k hk _ => by simpa [Value.ownBlock] using hk
end Go.Proofs.YtokeciekncincabGreat
namespace Go.Proofs.YtokeciekncincabGreat
open Go Go.RowKit Go.Maps

theorem nodup_spots_le : ∀ (ks : List Spot) (H : List LkE), ks.Nodup → (∀ s ∈ ks, ∃ e ∈ H, e.s = s) → ks.length ≤ H.length
  | [], _, _, _ => Nat.zero_le _
  | k :: ks, H, hn, h => by
    obtain ⟨h1, h2⟩ := List.nodup_cons.1 hn
    obtain ⟨e, he, hes⟩ := h k List.mem_cons_self
    have h3 := nodup_spots_le ks (H.filter fun e => e.s != k) h2 fun s hs => by
      obtain ⟨e', he', hes'⟩ := h s (List.mem_cons_of_mem _ hs)
      refine ⟨e', List.mem_filter.2 ⟨he', ?_⟩, hes'⟩
      rw [bne_iff_ne, hes']
      exact fun e2 => h1 (by rw [← e2]; exact hs)
    have h4 : (H.filter fun e => e.s != k).length < H.length := by
      refine Nat.lt_of_le_of_ne (List.length_filter_le _ _) fun h5 => ?_
      rw [List.length_filter_eq_length_iff] at h5
      have := h5 e he
      simp [hes] at this
    rw [List.length_cons]
    omega
def selG (D : LkS) (who : Int) (p : Spot × GX) : Bool := ((holdsOf D.H p.1).map Prod.fst).contains who
def keysG (D : LkS) (who : Int) (L : List (Spot × GX)) : List Spot := (L.filter (selG D who)).map Prod.fst
theorem keysG_mid_yes {D : LkS} {who : Int} (A B : List (Spot × GX)) {p : Spot × GX} (h : selG D who p = true) : (keysG D who (A ++ p :: B)).Perm (p.1 :: keysG D who (A ++ B)) := by
  unfold keysG
  rw [List.filter_append, List.filter_append, List.filter_cons, if_pos h, List.map_append, List.map_append, List.map_cons]
  exact List.perm_middle
theorem keysG_mid_no {D : LkS} {who : Int} (A B : List (Spot × GX)) {p : Spot × GX} (h : selG D who p = false) : keysG D who (A ++ p :: B) = keysG D who (A ++ B) := by
  unfold keysG
  rw [List.filter_append, List.filter_append, List.filter_cons, h]
  rfl
theorem selG_iff {D : LkS} {who : Int} {p : Spot × GX} : selG D who p = true ↔ ∃ e ∈ D.H, e.who = who ∧ e.s = p.1 := by
  unfold selG
  rw [List.contains_iff_mem]
  constructor
  · intro h
    obtain ⟨q, hq, rfl⟩ := List.mem_map.1 h
    obtain ⟨e, he, rfl⟩ := List.mem_map.1 hq
    obtain ⟨h1, h2⟩ := List.mem_filter.1 he
    rw [beq_iff_eq] at h2
    exact ⟨e, h1, rfl, h2⟩
  · rintro ⟨e, he, rfl, hs⟩
    exact List.mem_map.2 ⟨(e.who, e.m), List.mem_map.2 ⟨e, List.mem_filter.2 ⟨he, by rw [beq_iff_eq]; exact hs⟩, rfl⟩, rfl⟩
theorem keysG_is {w : World} {lb sb wb : Nat} {D : LkS} {V : List (Int × Spot)} {G : List (Spot × GX)} {S : Nat → Prop} (h : LkV w lb sb wb D V G S) (who : Int) :
    (keysG D who G).Nodup ∧ (∀ s, s ∈ keysG D who G ↔ ∃ e ∈ D.H, e.who = who ∧ e.s = s) ∧ (keysG D who G).length ≤ D.H.length := by
  have h1 : (keysG D who G).Nodup := (List.Sublist.map _ List.filter_sublist).nodup h.spots.nodup
  have h2 : ∀ s, s ∈ keysG D who G ↔ ∃ e ∈ D.H, e.who = who ∧ e.s = s := fun s => by
    unfold keysG
    constructor
    · intro hs
      obtain ⟨p, hp, rfl⟩ := List.mem_map.1 hs
      exact selG_iff.1 (List.mem_filter.1 hp).2
    · rintro ⟨e, he, hw, hs⟩
      have h3 : ∃ g, (s, g) ∈ G := by
        apply Classical.byContradiction
        intro hn
        have h4 := (h.gone s fun p hp e2 => hn ⟨p.2, by rw [← e2]; exact hp⟩).1
        have h5 : (e.who, e.m) ∈ holdsOf D.H s := List.mem_map.2 ⟨e, List.mem_filter.2 ⟨he, by rw [beq_iff_eq]; exact hs⟩, rfl⟩
        rw [h4] at h5; cases h5
      obtain ⟨g, hg⟩ := h3
      exact List.mem_map.2 ⟨(s, g), List.mem_filter.2 ⟨hg, selG_iff.2 ⟨e, he, hw, hs⟩⟩, rfl⟩
  refine ⟨h1, h2, nodup_spots_le _ _ h1 fun s hs => ?_⟩
  obtain ⟨e, he, _, hs2⟩ := (h2 s).1 hs
  exact ⟨e, he, hs2⟩
theorem sortS_sorted {l : List Spot} (hn : l.Nodup) : SortedS (sortS l) ∧ ∀ x, x ∈ sortS l ↔ x ∈ l := by
  have hp := List.mergeSort_perm l leO
  have h1 := List.pairwise_mergeSort (le := leO) (fun a b c hab hbc => by
    unfold leO at *
    rw [Bool.not_eq_true'] at *
    exact swoO.ntrans _ _ _ hbc hab) (fun a b => by
    unfold leO
    rw [Bool.or_eq_true, Bool.not_eq_true', Bool.not_eq_true', ordZ_less, ordZ_less]
    cases h : lessS b a with
    | false => exact .inl rfl
    | true => exact .inr (lessS_asymm h)) l
  refine ⟨?_, fun x => hp.mem_iff⟩
  have h2 : (sortS l).Nodup := hp.nodup_iff.2 hn
  exact (h1.and (List.nodup_iff_pairwise_ne.1 h2)).imp fun {a b} h => by
    obtain ⟨h3, h4⟩ := h
    unfold leO at h3
    rw [Bool.not_eq_true', ordZ_less] at h3
    exact lessS_total (fun e => h4 e.symm) h3
theorem sortS_spots {l : List Spot} {H : List LkE} {who : Int} (hn : l.Nodup) (h : ∀ s, s ∈ l ↔ ∃ e ∈ H, e.who = who ∧ e.s = s) : sortS l = spotsL H who := by
  obtain ⟨h1, h2⟩ := sortS_sorted hn
  obtain ⟨h3, h4⟩ := spotsL_is H who
  exact sortedS_ext h1 h3 fun x => by rw [h2, h, h4]
theorem spotT : SlT Tryz.prog 50 30 3 24 := SlT.mk (z := spV (0, false, 0)) Tryz.underlying50 (by kernel_rfl) rfl (by decide) (by decide)
theorem sp_new (W : World) (s : Spot) : SlAt (W.alloc (.cells #[.int .i64 s.1, .bool s.2.1, .int .i64 s.2.2] 30)) 3 (.slice (some ⟨W.heap.size, 0, none⟩) 1 1) 1 (sp3 s) := by
  refine ⟨rfl, .inr ⟨⟨W.heap.size, 0, none⟩, 1, rfl, fun k u hu => ?_⟩⟩
  have h1 := (Bk.new W 30 #[.int .i64 s.1, .bool s.2.1, .int .i64 s.2.2]).cell k
  rw [Addr.add_lit, Nat.zero_add, h1]
  exact hu
theorem sp3_one (s : Spot) : ∀ u ∈ sp3 s, u.oneCell' = true := by
  intro u hu
  simp only [List.mem_cons, List.not_mem_nil, or_false] at hu
  rcases hu with rfl | rfl | rfl <;> rfl
/-- A new row of spots. -/
def NewSp (l : List Spot) (w : World) (e : Ending) (w' : World) : Prop :=
  ∃ v, e = .returned v ∧ OwnSp w' v l ∧ (∀ k, v.ownBlock = some k → w.heap.size ≤ k) ∧ Fr w w' Nil
set_option maxRecDepth 100000 in
set_option maxHeartbeats 4000000 in
theorem spots_any {lb : Nat} {D : LkS} {S : Nat → Prop} {N : Nat} (who : Int) (w : World) (h : LkA w lb D S) (hD : DOk N D) (hN : N ≤ 100000) (hw : (Lit.int .i64 who).wf = true) :
    Calls Tryz.prog 19 #[lkp lb, .int .i64 who] w (NewSp (spotsL D.H who) w) := by
  obtain ⟨sb, wb, G, hv⟩ := h
  obtain ⟨g1, g2, g3⟩ := keysG_is hv who
  have hlen : (keysG D who G).length ≤ 100000 := by have := hD.few; omega
  have HV := Lib.hid hv
  have HG1 := Lib.hid g1
  have HG2 := Lib.hid g2
  have HLEN := Lib.hid hlen
  have HW := Lib.hid hw
  have q1 : w.cell? ⟨lb, 1, none⟩ = some (.map (some sb)) := hv.root.cell 1
  clear g1 g2 g3 hlen hD hw
  go_enter Tryz.func19, Tryz.ntmps19
  go_wp2_with (at_range; refine wpList_map_range _ rfl _ 56 rfl 30 71 Tryz.keySpot Tryz.underlying56 spotKey sb G rfl HV.out.spots ?_; intro w0 hr0 hf0 hs0)
  have Hr0 := Lib.hid hr0
  have Hf0 : Hid (Fr w w0 Nil) := hf0
  clear hr0 hf0 hs0 q1 hv
  go_frame
  generalize hrb : w.heap.size = rb at *
  have HRB := Lib.hid hrb
  clear hrb
  go_loopw [5] (fun vo wr => ∃ (a : Option Addr) (n c : Nat) (out : List Spot) (L : List (Spot × GX)), vo = .slice a n c ∧ Hid (out.length = n) ∧ Hid (OwnSp wr (.slice a n c) out) ∧ Hid (∀ k, (Value.slice a n c).ownBlock = some k → rb < k) ∧ Hid ((out ++ keysG D who L).Perm (keysG D who G)) ∧ Hid (RangeAt Tryz.prog 30 skey GX.ptr wr sb rb G L) ∧ Hid (Fr w wr Nil)) (fun _ wr => wr.rangeLeft sb rb)
  case atStart => exact ⟨none, 0, 0, [], G, rfl, rfl, World.ownsRow_nil _ _ _ _, (fun k hk => by cases hk), List.Perm.refl _, Hr0.out, Hf0.out⟩
  case round =>
    clear Hr0 Hf0
    obtain ⟨a, n, c, out, L, rfl, HLN, HO, HON, HP, Hr, Hf⟩ := hrel
    go_wp2_with (at_next; refine next_sp _ rfl _ rfl sb rb G L rfl Hr.out ?_ ?_)
    · intro hL
      have HL := Lib.hid hL
      clear hL
      have hperm : out.Perm (keysG D who G) := by
        have h1 := HP.out
        rw [HL.out] at h1
        simpa [keysG] using h1
      have hnd : out.Nodup := hperm.nodup_iff.2 HG1.out
      have hsp := sortS_spots hnd fun s => (hperm.mem_iff).trans (HG2.out s)
      have hl1 : out.length ≤ 1000000 := by have := hperm.length_eq; have := HLEN.out; omega
      have cS := sortsp_any (.slice a n c) out wr HO.out hl1
      have HSP := Lib.hid hsp
      have hsl := sortS_len out
      rw [HLN.out] at hsl
      have HSL := Lib.hid hsl
      clear hperm hnd hsp hl1 hsl
      go_wp2_with fail
      refine cS.mono ?_
      rintro e w1 ⟨rfl, ho1, hf1⟩
      have HO1 := Lib.hid ho1
      have HF1 := Lib.hid hf1
      clear ho1 hf1 cS
      go_wp2_with fail
      go_ret
      refine ⟨_, rfl, by rw [← HSP.out]; exact HO1.out, fun k hk => ?_, Hf.out.trans HF1.out fun k hk hk2 => ?_⟩
      · have := HON.out k hk; have := HRB.out; omega
      · have := HON.out k hk2; have := HRB.out; omega
    · unfold MoreSp
      intro s g A B w1 hL hr1 hf1 hs1 hlt hen
      have Hr1 := Lib.hid hr1
      have Hf1 : Hid (Fr w w1 Nil) := Hf.out.trans hf1 fun j hj hj2 => by have := HRB.out; omega
      have HL := Lib.hid hL
      have Hlt := Lib.hid hlt
      have HO1 : Hid (OwnSp w1 (.slice a n c) out) := HO.out.fr hf1 fun k hk e => by have := HON.out k hk; omega
      have hrb1 := hr1.lt
      have HRL := Lib.hid hrb1
      have hin : (s, g) ∈ G := Hr.out.sub _ (by rw [hL]; exact List.mem_append.2 (.inr List.mem_cons_self))
      have hx := (HV.out.fr0 Hf1.out).at_ _ hin
      obtain ⟨W2, hW2⟩ : ∃ W2, w1.alloc (.cells #[.int .i64 s.1, .bool s.2.1, .int .i64 s.2.2] 30) = W2 := ⟨_, rfl⟩
      have hf2 : Fr w1 W2 Nil := by rw [← hW2]; exact (Fr.refl w1 Nil).alloc _
      have hx2 := hx.fr0 hf2
      have hlk := look_held_ok hx2.holds HW.out
      have hb6 : Bk W2 w1.heap.size 30 [.int .i64 s.1, .bool s.2.1, .int .i64 s.2.2] := by rw [← hW2]; exact Bk.new w1 _ _
      have q0 : W2.cell? ⟨g.xb, 0, none⟩ = some (.map (some g.hb)) := hx2.box.cell 0
      have r0 : W2.cell? ⟨w1.heap.size, 0, none⟩ = some (.int .i64 s.1) := hb6.cell 0
      have r1 : W2.cell? ⟨w1.heap.size, 1, none⟩ = some (.bool s.2.1) := hb6.cell 1
      have r2 : W2.cell? ⟨w1.heap.size, 2, none⟩ = some (.int .i64 s.2.2) := hb6.cell 2
      have HF2 := Lib.hid hf2
      obtain ⟨hm, hhm⟩ : ∃ x, getV (holdsOf D.H s) who 0 = x := ⟨_, rfl⟩
      rw [hhm] at hlk
      obtain ⟨bs, hbs⟩ : ∃ x, ((holdsOf D.H s).map Prod.fst).contains who = x := ⟨_, rfl⟩
      rw [hbs] at hlk
      have HBS : Hid (selG D who (s, g) = bs) := hbs
      have HO2 : Hid (OwnSp W2 (.slice a n c) out) := HO1.out.fr HF2.out fun _ _ h => h
      have HLB : Hid (out.length + 1 ≤ 1000000) := by
        have h1 := HP.out.length_eq
        have h2 := HLEN.out
        rw [List.length_append] at h1
        have : out.length + 1 ≤ 1000000 := by omega
        exact this
      have HONE := Lib.hid (sp_new W2 s)
      have HON1 := Lib.hid (sp3_one s)
      generalize g.xb = xb at *
      generalize g.hb = hb' at *
      clear hL hr1 hf1 hlt hin hx hf2 hx2 hb6 hhm hbs hrb1 hs1
      cases bs with
      | false =>
        go_wp2_with fail
        go_roundw
        case rel =>
          refine ⟨a, n, c, out, A ++ B, rfl, HLN.out, HO2.out, HON.out, ?_, Hr1.out.fr0 HF2.out, Hf1.out.trans0 HF2.out⟩
          have h1 := HP.out
          rw [HL.out, keysG_mid_no A B HBS.out] at h1
          exact h1
        case measure => rw [Hr1.out.left HF2.out (fun h => h) fun h => h]; exact Hlt.out
      | true =>
        have HOR : Hid ((W2.alloc (.cells #[.int .i64 s.1, .bool s.2.1, .int .i64 s.2.2] 30)).ownsRow 0 30 3 (.slice a n c) n (out.flatMap sp3)) := by
          have h1 := HO2.out
          unfold OwnSp at h1
          rw [HLN.out] at h1
          exact World.ownsRow.alloc h1 _
        have HLB2 : Hid (n + 1 ≤ 1000000) := by
          have h1 := HLB.out
          rw [HLN.out] at h1
          exact h1
        go_wp2_with (at_builtin; refine wpList_app _ rfl _ _ 50 rfl spotT (.slice a n c) rfl HOR.out _ rfl HONE.out HON1.out HLB2.out ?_)
        intro ga gc W3 ho3 hg3 hb3
        have HO3 := Lib.hid ho3
        have HF3 : Hid (Fr W2 W3 (fun k => (Value.slice a n c).ownBlock = some k)) := ((((Fr.refl W2 Nil).alloc (.cells #[.int .i64 s.1, .bool s.2.1, .int .i64 s.2.2] 30)).of_nil).grown hg3 fun k hk _ => hk)
        have HGN : Hid (∀ k, (Value.slice ga (n + 1) gc).ownBlock = some k → rb < k) := fun k hk => by
          rcases hb3 with h | h
          · exact HON.out k (h.symm.trans hk)
          · rw [h] at hk
            cases hk
            have h1 := HF2.out.size
            have h2 := HRL.out
            omega
        clear ho3 hg3 hb3
        go_wp2_with fail
        go_roundw
        case rel =>
          have hfw : Fr w1 W3 (fun k => (Value.slice a n c).ownBlock = some k) := HF2.out.of_nil.trans HF3.out fun _ _ h => h
          refine ⟨ga, n + 1, gc, out ++ [s], A ++ B, rfl, ?_, ?_, HGN.out, ?_, Hr1.out.fr hfw (fun h => ?_) (fun h => ?_), Hf1.out.trans hfw fun k hk h => ?_⟩
          · show (out ++ [s]).length = n + 1
            rw [List.length_append, HLN.out]; rfl
          · show World.ownsRow _ _ _ _ _ _ _
            rw [List.length_append, List.flatMap_append, HLN.out]
            have h1 := HO3.out
            simpa using h1
          · have h1 := HP.out
            rw [HL.out] at h1
            have h2 := keysG_mid_yes (who := who) A B HBS.out
            show ((out ++ [s]) ++ keysG D who (A ++ B)).Perm _
            rw [List.append_assoc]
            exact (List.Perm.append_left out h2.symm).trans h1
          · have := HON.out _ h; have h2 := HV.out.lt _ HV.out.inS; have := HRB.out; omega
          · have := HON.out _ h; omega
          · have := HON.out _ h; have := HRB.out; omega
        case measure =>
          have hfw : Fr w1 W3 (fun k => (Value.slice a n c).ownBlock = some k) := HF2.out.of_nil.trans HF3.out fun _ _ h => h
          rw [Hr1.out.left hfw (fun h => by have := HON.out _ h; have h2 := HV.out.lt _ HV.out.inS; have := HRB.out; omega) (fun h => by have := HON.out _ h; omega)]
          exact Hlt.out
end Go.Proofs.YtokeciekncincabGreat
