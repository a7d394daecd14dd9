/-
  The document's log: walks of Forget, Of.
  In which order the document takes entries back, and the program: no walk.
-/
import Derived.Test.YtjpenaodkfljhaaUgBack
namespace Go.Proofs.Ytjpenaodkfljhaa
open Go Go.RowKit

theorem dmods_forget (g : List DEnt) (who : Int) : dmods (g.filter (fun e => !(e.who == who))) = forgetL (dmods g) who := by
  unfold dmods forgetL
  rw [List.filter_map]
  rfl
theorem dmods_of (g : List DEnt) (who : Int) : (g.filter (fun e => e.who == who)).map (fun e => e.mod.2) = ofL (dmods g) who := by
  unfold dmods ofL
  rw [List.filter_map, List.map_map]
  rfl
set_option maxRecDepth 100000 in
set_option maxHeartbeats 2000000 in
theorem dforget_any {lb : Nat} {most : Int} {lv : Value} {g : List DEnt} (who : Int) (w : World) (h : DLogG w lb most lv g) (hl : g.length ≤ 100000) :
    Calls Try.prog 70 #[rptr lb, .int .i64 who] w fun e w' => e = .returned (.tuple #[]) ∧ DUpd w lb most lv g (forgetL (dmods g) who) w' := by
  obtain ⟨a, c, rfl, hc⟩ := h.shape
  have q1 := h.root.cell 1
  simp only [List.getElem?_cons_zero, List.getElem?_cons_succ] at q1
  have HG := Lib.hid h
  clear h
  go_enter Try.func70, Try.ntmps70
  go_wp2_with fail
  go_loopw [4, 5] (fun vo vi wr => ∃ (i n : Nat) (a2 : Option Addr) (c2 : Nat), i ≤ g.length ∧ vi = .int .i64 i ∧ vo = .slice a2 n c2 ∧ n = ((g.take i).filter (fun e => !(e.who == who))).length ∧ wr.ownsRow 0 133 5 (.slice a2 n c2) n (dvals ((g.take i).filter (fun e => !(e.who == who)))) ∧ (∀ k, (Value.slice a2 n c2).ownBlock = some k → w.heap.size ≤ k) ∧ Fr w wr Nil) (fun _ vi _ => g.length - (intOf vi).toNat)
  case atStart => exact ⟨0, 0, none, 0, by omega, rfl, rfl, rfl, World.ownsRow_nil _ _ _ _, (fun k hk => by cases hk), Fr.refl _ _⟩
  case round =>
    obtain ⟨i, n, a2, c2, hi, rfl, rfl, hn, ho, hnew, hfr⟩ := hrel
    have HO := Lib.hid ho
    have HN := Lib.hid hnew
    have HF := Lib.hid hfr
    have HLn := Lib.hid hn
    have hnl : n ≤ 100000 := by
      have := List.length_filter_le (fun e => !(e.who == who)) (g.take i)
      rw [List.length_take] at this
      omega
    have q2 := hfr.cell q1 fun h => h
    obtain ⟨wo, rfl⟩ : ∃ wo : World, wo = wr := ⟨_, rfl⟩
    clear ho hnew hn
    by_cases hlt : i < g.length
    · have hgt := List.getElem?_eq_getElem hlt
      have hts := List.take_succ_eq_append_getElem hlt
      generalize g[i] = t at hgt hts
      obtain ⟨b, off, cap, hv, p0, p1, p2, p3, p4⟩ := (HG.out.fr hfr fun _ _ h => h).cells hgt
      simp only [Value.slice.injEq, true_and] at hv
      obtain ⟨rfl, rfl⟩ := hv
      have hii : (i : Int) < (g.length : Int) := by omega
      have HC1 : Hid (t.cv.oneCell' = true) := (HG.out.ok t (List.mem_of_getElem? hgt)).ints.one
      clear hgt hfr
      by_cases hw : t.who = who
      · have HFi : Hid ((g.take (i + 1)).filter (fun e => !(e.who == who)) = (g.take i).filter (fun e => !(e.who == who))) := by
          have : (g.take (i + 1)).filter (fun e => !(e.who == who)) = (g.take i).filter (fun e => !(e.who == who)) := by
            rw [hts, List.filter_append]
            simp [hw]
          exact this
        clear hts
        subst hw
        go_wp2_with fail
        go_roundw
        case rel => exact ⟨i + 1, n, a2, c2, by omega, by go_num, rfl, by rw [HFi.out]; exact HLn.out, by rw [HFi.out]; exact HO.out, HN.out, HF.out⟩
        case measure => simp [intOf]; omega
      · have HFi : Hid ((g.take (i + 1)).filter (fun e => !(e.who == who)) = (g.take i).filter (fun e => !(e.who == who)) ++ [t]) := by
          have : (g.take (i + 1)).filter (fun e => !(e.who == who)) = (g.take i).filter (fun e => !(e.who == who)) ++ [t] := by
            rw [hts, List.filter_append]
            simp [hw]
          exact this
        have hw2 : (t.who == who) = false := by rw [beq_eq_false_iff_ne]; exact hw
        have hw3 : (t.who != who) = true := by rw [bne_iff_ne]; exact hw
        clear hts
        have HSL := Lib.hid (sl_dent wo 133 t)
        have HONE : Hid (∀ u ∈ dvals [t], u.oneCell' = true) := dvals_one fun e he => by rw [List.mem_singleton.1 he]; exact HC1.out
        have HOWN := Lib.hid (Fr.own ((Fr.refl wo Nil).alloc (.cells t.vals.toArray 133)) HO.out fun _ _ h => h)
        go_wp2_with (at_builtin; refine wpList_app _ rfl _ _ _ rfl slD (.slice a2 n c2) rfl HOWN.out _ rfl HSL.out HONE.out (by omega) ?_; intro a3 c3 w3 ho hg3 hat)
        have HO3 := Lib.hid ho
        have HN3 : Hid (∀ k, (Value.slice a3 (n + 1) c3).ownBlock = some k → w.heap.size ≤ k) := fresh_of2 hat HN.out (by have := HF.out.size; simp; omega)
        have HF3 : Hid (Fr w w3 Nil) := Fr.app (HF.out.alloc (.cells t.vals.toArray 133)) hg3 HN.out
        clear ho hg3 hat p0 p1 p2 p3 p4 q2 HSL HONE HOWN
        go_roundw
        case rel => exact ⟨i + 1, n + 1, a3, c3, by omega, by go_num, rfl, by rw [HFi.out, List.length_append, ← HLn.out]; rfl, by rw [HFi.out, dvals_append]; exact HO3.out, HN3.out, HF3.out⟩
        case measure => simp [intOf]; omega
    · obtain rfl : i = g.length := by omega
      have hAll := HLn.out
      rw [List.take_length] at hAll
      have HAll := Lib.hid hAll
      clear hAll
      have hroot := HG.out.root.fr HF.out fun h => h
      have q5 := hroot.free 1
      clear hfr
      go_wp2_with fail
      go_end0
      have ho := HO.out
      rw [List.take_length] at ho
      have hm : ∀ y ∈ g.filter (fun e => !(e.who == who)), y ∈ g := fun y hy => (List.mem_filter.1 hy).1
      have hlb := HG.out.root.lt
      obtain ⟨s1, s2⟩ := HG.out.store (HF.out.of_nil) (own_cast ho HAll.out) (fun k hk => by have := HN.out k hk; omega) (fun y hy => ⟨(HG.out.ok y (hm y hy)).fr HF.out fun _ _ h => h, fun k hk => ⟨(HG.out.neC y (hm y hy) k hk).1, fun hr => by have := HN.out k hr; have := (HG.out.ok y (hm y hy)).own.lt k hk; omega⟩⟩)
      refine ⟨rfl, _, _, s1, dmods_forget g who, fun j hj => ?_, s2⟩
      rcases hj with rfl | hj | ⟨y, hy, hj⟩
      · exact .inl (.inl rfl)
      · exact .inr (HN.out j hj)
      · exact .inl (.inr (.inr ⟨y, hm y hy, hj⟩))
def DOfRet (g : List DEnt) (who : Int) (w : World) (e : Ending) (w' : World) : Prop :=
  ∃ a c, e = .returned (.slice a (g.filter (fun e => e.who == who)).length c) ∧ w'.ownsRow 0 133 5 (.slice a (g.filter (fun e => e.who == who)).length c) (g.filter (fun e => e.who == who)).length (dvals (g.filter (fun e => e.who == who))) ∧ (∀ k, (Value.slice a (g.filter (fun e => e.who == who)).length c).ownBlock = some k → w.heap.size ≤ k) ∧ Fr w w' Nil
set_option maxRecDepth 100000 in
set_option maxHeartbeats 2000000 in
theorem dof_any {lb : Nat} {most : Int} {lv : Value} {g : List DEnt} (who : Int) (w : World) (h : DLogG w lb most lv g) (hl : g.length ≤ 100000) :
    Calls Try.prog 73 #[rptr lb, .int .i64 who] w (DOfRet g who w) := by
  obtain ⟨a, c, rfl, hc⟩ := h.shape
  have q1 := h.root.cell 1
  simp only [List.getElem?_cons_zero, List.getElem?_cons_succ] at q1
  have HG := Lib.hid h
  clear h
  go_enter Try.func73, Try.ntmps73
  go_wp2_with fail
  go_loopw [5, 6] (fun vo vi wr => ∃ (i n : Nat) (a2 : Option Addr) (c2 : Nat), i ≤ g.length ∧ vi = .int .i64 i ∧ vo = .slice a2 n c2 ∧ n = ((g.take i).filter (fun e => e.who == who)).length ∧ wr.ownsRow 0 133 5 (.slice a2 n c2) n (dvals ((g.take i).filter (fun e => e.who == who))) ∧ (∀ k, (Value.slice a2 n c2).ownBlock = some k → w.heap.size ≤ k) ∧ Fr w wr Nil) (fun _ vi _ => g.length - (intOf vi).toNat)
  case atStart => exact ⟨0, 0, none, 0, by omega, rfl, rfl, rfl, World.ownsRow_nil _ _ _ _, (fun k hk => by cases hk), Fr.refl _ _⟩
  case round =>
    obtain ⟨i, n, a2, c2, hi, rfl, rfl, hn, ho, hnew, hfr⟩ := hrel
    have HO := Lib.hid ho
    have HN := Lib.hid hnew
    have HF := Lib.hid hfr
    have HLn := Lib.hid hn
    have hnl : n ≤ 100000 := by
      have := List.length_filter_le (fun e => e.who == who) (g.take i)
      rw [List.length_take] at this
      omega
    have q2 := hfr.cell q1 fun h => h
    obtain ⟨wo, rfl⟩ : ∃ wo : World, wo = wr := ⟨_, rfl⟩
    clear ho hnew hn
    by_cases hlt : i < g.length
    · have hgt := List.getElem?_eq_getElem hlt
      have hts := List.take_succ_eq_append_getElem hlt
      generalize g[i] = t at hgt hts
      obtain ⟨b, off, cap, hv, p0, p1, p2, p3, p4⟩ := (HG.out.fr hfr fun _ _ h => h).cells hgt
      simp only [Value.slice.injEq, true_and] at hv
      obtain ⟨rfl, rfl⟩ := hv
      have hii : (i : Int) < (g.length : Int) := by omega
      have HC1 : Hid (t.cv.oneCell' = true) := (HG.out.ok t (List.mem_of_getElem? hgt)).ints.one
      clear hgt hfr
      by_cases hw : t.who = who
      · have HFi : Hid ((g.take (i + 1)).filter (fun e => e.who == who) = (g.take i).filter (fun e => e.who == who) ++ [t]) := by
          have : (g.take (i + 1)).filter (fun e => e.who == who) = (g.take i).filter (fun e => e.who == who) ++ [t] := by
            rw [hts, List.filter_append]
            simp [hw]
          exact this
        clear hts
        subst hw
        have HSL := Lib.hid (sl_dent wo 133 t)
        have HONE : Hid (∀ u ∈ dvals [t], u.oneCell' = true) := dvals_one fun e he => by rw [List.mem_singleton.1 he]; exact HC1.out
        have HOWN := Lib.hid (Fr.own ((Fr.refl wo Nil).alloc (.cells t.vals.toArray 133)) HO.out fun _ _ h => h)
        go_wp2_with (at_builtin; refine wpList_app _ rfl _ _ _ rfl slD (.slice a2 n c2) rfl HOWN.out _ rfl HSL.out HONE.out (by omega) ?_; intro a3 c3 w3 ho hg3 hat)
        have HO3 := Lib.hid ho
        have HN3 : Hid (∀ k, (Value.slice a3 (n + 1) c3).ownBlock = some k → w.heap.size ≤ k) := fresh_of2 hat HN.out (by have := HF.out.size; simp; omega)
        have HF3 : Hid (Fr w w3 Nil) := Fr.app (HF.out.alloc (.cells t.vals.toArray 133)) hg3 HN.out
        clear ho hg3 hat p0 p1 p2 p3 p4 q2 HSL HONE HOWN
        go_roundw
        case rel => exact ⟨i + 1, n + 1, a3, c3, by omega, by go_num, rfl, by rw [HFi.out, List.length_append, ← HLn.out]; rfl, by rw [HFi.out, dvals_append]; exact HO3.out, HN3.out, HF3.out⟩
        case measure => simp [intOf]; omega
      · have HFi : Hid ((g.take (i + 1)).filter (fun e => e.who == who) = (g.take i).filter (fun e => e.who == who)) := by
          have : (g.take (i + 1)).filter (fun e => e.who == who) = (g.take i).filter (fun e => e.who == who) := by
            rw [hts, List.filter_append]
            simp [hw]
          exact this
        have hw2 : (t.who == who) = false := by rw [beq_eq_false_iff_ne]; exact hw
        have hw3 : (t.who != who) = true := by rw [bne_iff_ne]; exact hw
        clear hts
        go_wp2_with fail
        go_roundw
        case rel => exact ⟨i + 1, n, a2, c2, by omega, by go_num, rfl, by rw [HFi.out]; exact HLn.out, by rw [HFi.out]; exact HO.out, HN.out, HF.out⟩
        case measure => simp [intOf]; omega
    · obtain rfl : i = g.length := by omega
      have hAll := HLn.out
      rw [List.take_length] at hAll
      have HAll := Lib.hid hAll
      clear hAll
      clear hfr
      go_wp2_with fail
      go_ret
      have ho := HO.out
      have hnw := HN.out
      rw [List.take_length] at ho
      have hA := HAll.out
      subst hA
      exact ⟨a2, c2, rfl, ho, hnw, HF.out⟩
end Go.Proofs.Ytjpenaodkfljhaa
namespace Go.Proofs.Ytjpenaodkfljhaa
open Go Go.RowKit

theorem inc_filter {l : List Int} (h : Inc l) (p : Int → Bool) : Inc (l.filter p) := h.filter _
theorem seqTo_filter (L : List (Int × Ent)) (p : Int → Bool) : ∀ ks : List Int, (∀ y ∈ ks, p y = false → ofL L y = []) → seqTo L ks = seqTo L (ks.filter p)
  | [], _ => rfl
  | y :: ks, h => by
    have ih := seqTo_filter L p ks fun z hz => h z (by simp [hz])
    show (ofL L y).reverse ++ seqTo L ks = _
    by_cases hp : p y = true
    · rw [List.filter_cons_of_pos hp, ih]
      rfl
    · rw [List.filter_cons_of_neg hp, ← ih, h y (by simp) (by simpa using hp)]
      rfl
theorem seq_any {L : List (Int × Ent)} {ks : List Int} (hi : Inc ks) (h : ∀ y ∈ keysL L, y ∈ ks) : cleanSeq L = seqTo L ks := by
  unfold cleanSeq
  rw [seqTo_filter L (fun y => (keysL L).contains y) ks fun y _ hp => ?_]
  · congr 1
    refine inc_ext (keysL_inc L) (inc_filter hi _) fun x => ?_
    rw [List.mem_filter]
    constructor
    · exact fun hx => ⟨h x hx, List.contains_iff_mem.2 hx⟩
    · exact fun hx => List.contains_iff_mem.1 hx.2
  · cases hc : ofL L y with
    | nil => rfl
    | cons e es =>
      have : y ∈ keysL L := mem_keysL.2 (mem_ofL.1 (by rw [hc]; simp))
      rw [List.contains_iff_mem.2 this] at hp; cases hp
theorem back_keys {L : List (Int × Ent)} {x y : Int} (h : y ∈ keysL (backL L x)) : y ∈ keysL L := by
  rw [mem_keysL] at h ⊢
  obtain ⟨p, hp, rfl⟩ := List.mem_map.1 h
  refine List.mem_map.2 ⟨p, ?_, rfl⟩
  unfold backL at hp
  split at hp
  · exact hp
  · exact List.mem_of_mem_eraseIdx hp
/-- One step of the document's. -/
theorem clean_step {L : List (Int × Ent)} {x : Int} {ds : List Ent} {e : Ent} (M : List MTab) (hmin : ∀ p ∈ L, x ≤ p.1) (h : ofL L x = ds ++ [e]) : cleanM (undoE M e) (backL L x) = cleanM M L := by
  obtain ⟨hb, _⟩ := back_some h
  have hx : x ∈ keysL L := mem_keysL.2 (mem_ofL.1 (by rw [h]; simp))
  have hinc := keysL_inc L
  obtain ⟨ks, hks⟩ : ∃ ks, keysL L = x :: ks := by
    cases hk : keysL L with
    | nil => rw [hk] at hx; cases hx
    | cons y ks =>
      rw [hk] at hx hinc
      rcases List.mem_cons.1 hx with rfl | hx
      · exact ⟨ks, rfl⟩
      · have h1 := (List.pairwise_cons.1 hinc).1 x hx
        have h2 : y ∈ L.map Prod.fst := mem_keysL.1 (by rw [hk]; simp)
        obtain ⟨p, hp, rfl⟩ := List.mem_map.1 h2
        have := hmin p hp
        omega
  have hinc2 := hinc
  rw [hks] at hinc2
  have hne := (List.pairwise_cons.1 hinc2).1
  unfold cleanM
  rw [seq_any (L := backL L x) hinc2 fun y hy => by rw [← hks]; exact back_keys hy]
  unfold cleanSeq
  rw [hks]
  show ((ofL (backL L x) x).reverse ++ seqTo (backL L x) ks).foldl undoE (undoE M e) = ((ofL L x).reverse ++ seqTo L ks).foldl undoE M
  rw [hb, if_pos rfl, h, List.reverse_append]
  have hs : seqTo (backL L x) ks = seqTo L ks := by
    unfold seqTo
    have : ∀ l : List Int, (∀ y ∈ l, y ≠ x) → (l.flatMap fun who => (ofL (backL L x) who).reverse) = l.flatMap fun who => (ofL L who).reverse := by
      intro l
      induction l with
      | nil => intro _; rfl
      | cons y l ih =>
        intro hy
        rw [List.flatMap_cons, List.flatMap_cons, ih fun z hz => hy z (by simp [hz]), hb, if_neg (hy y (by simp))]
    exact this ks fun y hy e2 => by have := hne y hy; omega
  rw [hs]
  rfl
def LeastIs (L : List (Int × Ent)) (i : Nat) (v : Int) : Prop := (i = 0 ∧ v = -1) ∨ ∃ (m : Nat) (p : Int × Ent), v = (m : Int) ∧ m < i ∧ L[m]? = some p ∧ ∀ j q, j < i → L[j]? = some q → p.1 ≤ q.1
theorem LeastIs.first {L : List (Int × Ent)} {q : Int × Ent} (h : L[0]? = some q) : LeastIs L 1 0 := .inr ⟨0, q, rfl, by omega, h, fun j r hj hr => by
  obtain rfl : j = 0 := by omega
  rw [h] at hr; cases hr; exact Int.le_refl _⟩
theorem LeastIs.less {L : List (Int × Ent)} {i : Nat} {p q : Int × Ent} (hp : ∀ j r, j < i → L[j]? = some r → p.1 ≤ r.1) (hq : L[i]? = some q) (hlt : q.1 < p.1) : LeastIs L (i + 1) i := .inr ⟨i, q, rfl, by omega, hq, fun j r hj hr => by
  by_cases e : j = i
  · subst e; rw [hq] at hr; cases hr; exact Int.le_refl _
  · have := hp j r (by omega) hr; omega⟩
theorem LeastIs.keep {L : List (Int × Ent)} {i m : Nat} {p q : Int × Ent} (hm : m < i) (hpm : L[m]? = some p) (hp : ∀ j r, j < i → L[j]? = some r → p.1 ≤ r.1) (hq : L[i]? = some q) (hlt : ¬ q.1 < p.1) : LeastIs L (i + 1) m := .inr ⟨m, p, rfl, by omega, hpm, fun j r hj hr => by
  by_cases e : j = i
  · subst e; rw [hq] at hr; cases hr; omega
  · exact hp j r (by omega) hr⟩
theorem clean_nil (M : List MTab) : cleanM M [] = M := clean_one (fun p hp => by cases hp) M
end Go.Proofs.Ytjpenaodkfljhaa
