/-
  What the statements about graphs of conflicts say, in plain lists. No walk.
  No condition.
-/
import Derived.Test.YtegejcmihojhbaaHsPairs
import Derived.Test.YtegejcmihojhbaaHsWay
namespace Go.Proofs.Ytegejcmihojhbaa
open Go

theorem conf_ne {a b : TouchD} (h : conf a b = true) : a.who ≠ b.who := by
  intro e
  unfold conf at h
  rw [e] at h
  simp at h
theorem pts_iff {ts : List TouchD} {x y : Int} : pts ts x y = true ↔ ∃ (i j : Nat) (a b : TouchD), j < i ∧ ts[i]? = some b ∧ ts[j]? = some a ∧ conf a b = true ∧ a.who = x ∧ b.who = y := by
  unfold pts
  rw [List.any_eq_true]
  constructor
  · rintro ⟨p, hp, h⟩
    simp only [Bool.and_eq_true, beq_iff_eq] at h
    obtain ⟨i, j, h1, h2, h3, h4⟩ := mem_aheadP.1 hp
    exact ⟨i, j, p.1, p.2, h1, h2, h3, h4, h.1, h.2⟩
  · rintro ⟨i, j, a, b, h1, h2, h3, h4, h5, h6⟩
    exact ⟨(a, b), mem_aheadP.2 ⟨i, j, h1, h2, h3, h4⟩, by simp [h5, h6]⟩
theorem mem_edgeRow {who : List Int} {ts : List TouchD} {x : Int} {k : Nat} : k ∈ edgeRow who ts x ↔ k < who.length ∧ pts ts x (who.getD k 0) = true := by
  unfold edgeRow
  rw [List.mem_filter, List.mem_range]
theorem pts_more {ts more : List TouchD} {x y : Int} (h : pts ts x y = true) : pts (ts ++ more) x y = true := by
  obtain ⟨i, j, a, b, h1, h2, h3, h4⟩ := pts_iff.1 h
  have hi := (List.getElem?_eq_some_iff.1 h2).1
  exact pts_iff.2 ⟨i, j, a, b, h1, by rw [List.getElem?_append_left hi]; exact h2, by rw [List.getElem?_append_left (by omega)]; exact h3, h4⟩
theorem mem_ints {l : List Nat} {y : Int} : y ∈ ints l ↔ ∃ k : Nat, k ∈ l ∧ y = (k : Int) := by
  unfold ints
  rw [List.mem_map]
  constructor
  · rintro ⟨k, h, e⟩; exact ⟨k, h, e.symm⟩
  · rintro ⟨k, h, e⟩; exact ⟨k, h, e.symm⟩
theorem edge_more {who : List Int} {ts more : List TouchD} {x y : Int} (h : y ∈ ints (edgeRow who ts x)) : y ∈ ints (edgeRow who (ts ++ more) x) := by
  obtain ⟨k, hk, e⟩ := mem_ints.1 h
  obtain ⟨h1, h2⟩ := mem_edgeRow.1 hk
  exact mem_ints.2 ⟨k, mem_edgeRow.2 ⟨h1, pts_more h2⟩, e⟩
theorem edge_self {who : List Int} {ts : List TouchD} {i : Nat} {x : Int} (hx : who[i]? = some x) : (i : Int) ∉ ints (edgeRow who ts x) := by
  intro h
  obtain ⟨k, hk, e⟩ := mem_ints.1 h
  obtain rfl : k = i := by omega
  obtain ⟨h1, h2⟩ := mem_edgeRow.1 hk
  rw [show who.getD k 0 = x by simp [List.getD_eq_getElem?_getD, hx]] at h2
  obtain ⟨_, _, a, b, _, _, _, h4, h5, h6⟩ := pts_iff.1 h2
  exact conf_ne h4 (h5.trans h6.symm)
theorem graphW_len (who : List Int) (ts : List TouchD) : (graphW who ts).length = who.length := by simp [graphW]
theorem graphW_at {who : List Int} {ts : List TouchD} {i : Nat} {x : Int} (hx : who[i]? = some x) : (graphW who ts)[i]? = some (ints (edgeRow who ts x)) := by simp [graphW, hx]
theorem edgeRow_len (who : List Int) (ts : List TouchD) (x : Int) : (edgeRow who ts x).length ≤ who.length := by
  unfold edgeRow
  refine Nat.le_trans (List.length_filter_le _ _) (by simp)

/-- All of who, each once. -/
def ownTo (acc : List Int) (l : List Int) : List Int := l.foldl (fun acc x => if acc.contains x then acc else acc ++ [x]) acc
theorem ownTo_snoc (l : List Int) (x : Int) : ownTo [] (l ++ [x]) = if (ownTo [] l).contains x then ownTo [] l else ownTo [] l ++ [x] := by simp [ownTo]
theorem ownTo_ok (l : List Int) : ∀ n, (ownTo [] (l.take n)).Nodup ∧ (ownTo [] (l.take n)).length ≤ n ∧ ∀ x ∈ ownTo [] (l.take n), x ∈ l := by
  intro n
  induction n with
  | zero => simp [ownTo]
  | succ n ih =>
    by_cases hn : n < l.length
    · rw [List.take_succ_eq_append_getElem hn, ownTo_snoc]
      split
      · exact ⟨ih.1, by omega, ih.2.2⟩
      · rename_i h
        refine ⟨List.nodup_append.2 ⟨ih.1, by simp, fun a ha b hb e => ?_⟩, by simp; omega, fun y hy => ?_⟩
        · simp at hb
          subst hb; subst e
          exact h (List.contains_iff_mem.2 ha)
        · rcases List.mem_append.1 hy with hy | hy
          · exact ih.2.2 y hy
          · simp at hy; subst hy; exact List.getElem_mem hn
    · rw [List.take_of_length_le (by omega)]
      rw [List.take_of_length_le (by omega)] at ih
      exact ⟨ih.1, by omega, ih.2.2⟩

/-- A touch of a row of its own key. -/
def apT (k : Nat) (hk : 0 < k ∧ k ≤ 12) (x : Int) (wrote : Bool) : TouchD :=
  ⟨x % (k : Int), 0, true, x % (k : Int), wrote, by
    have h1 := Int.emod_nonneg x (show (k : Int) ≠ 0 by omega)
    have h2 := Int.emod_lt_of_pos x (show (0 : Int) < k by omega)
    simp [Lit.wf, IntKind.min, IntKind.max, IntKind.signed, IntKind.bits]; omega⟩
def apTs (k : Nat) (hk : 0 < k ∧ k ≤ 12) (turns : List Int) (n : Nat) : List TouchD := (List.range n).map fun i => apT k hk (turns.getD i 0) (decide (i % 2 = 0))
theorem apTs_len (k : Nat) (hk : 0 < k ∧ k ≤ 12) (turns : List Int) (n : Nat) : (apTs k hk turns n).length = n := by simp [apTs]
theorem apTs_succ (k : Nat) (hk : 0 < k ∧ k ≤ 12) (turns : List Int) (n : Nat) : apTs k hk turns (n + 1) = apTs k hk turns n ++ [apT k hk (turns.getD n 0) (decide (n % 2 = 0))] := by simp [apTs, List.range_succ]
theorem apTs_mem {k : Nat} {hk : 0 < k ∧ k ≤ 12} {turns : List Int} {n : Nat} {t : TouchD} (h : t ∈ apTs k hk turns n) : t.tab = 0 ∧ t.row = true ∧ t.key = t.who := by
  unfold apTs at h
  obtain ⟨i, _, rfl⟩ := List.mem_map.1 h
  exact ⟨rfl, rfl, rfl⟩
theorem ap_conf {a b : TouchD} (ha : a.row = true ∧ a.key = a.who) (hb : b.row = true ∧ b.key = b.who) : conf a b = false := by
  cases h : conf a b with
  | false => rfl
  | true =>
    have hn := conf_ne h
    unfold conf at h
    rw [ha.1, hb.1, ha.2, hb.2] at h
    simp at h
    exact absurd h.2 hn
theorem apart_pts {k : Nat} {hk : 0 < k ∧ k ≤ 12} {turns : List Int} {n : Nat} (x y : Int) : pts (apTs k hk turns n) x y = false := by
  cases h : pts (apTs k hk turns n) x y with
  | false => rfl
  | true =>
    obtain ⟨i, j, a, b, _, h2, h3, h4, _⟩ := pts_iff.1 h
    have ha := apTs_mem (List.mem_of_getElem? h3)
    have hb := apTs_mem (List.mem_of_getElem? h2)
    rw [ap_conf ha.2 hb.2] at h4
    cases h4
/-- Two touches of another table, ahead of all. -/
theorem tied_pts {k : Nat} {hk : 0 < k ∧ k ≤ 12} {turns : List Int} {n : Nat} {o1 o2 : TouchD} (h12 : conf o1 o2 = true) (h1 : o1.tab = 1) (h2 : o2.tab = 1) (x y : Int) :
    pts (o1 :: o2 :: apTs k hk turns n) x y = (decide (x = o1.who) && decide (y = o2.who)) := by
  rw [Bool.eq_iff_iff, pts_iff]
  simp only [Bool.and_eq_true, decide_eq_true_eq]
  have hab : ∀ {a b : TouchD}, a.tab = 1 → b ∈ apTs k hk turns n → conf a b = true → False := by
    intro a b ha hb h
    unfold conf at h
    rw [ha, (apTs_mem hb).1] at h
    simp at h
  constructor
  · rintro ⟨i, j, a, b, hij, hb, ha, hc, rfl, rfl⟩
    match i, j, hij with
    | 1, 0, _ =>
      simp at ha hb
      subst ha; subst hb
      exact ⟨rfl, rfl⟩
    | i + 2, 0, _ =>
      simp at ha hb
      subst ha
      exact (hab h1 (List.mem_of_getElem? hb) hc).elim
    | i + 2, 1, _ =>
      simp at ha hb
      subst ha
      exact (hab h2 (List.mem_of_getElem? hb) hc).elim
    | i + 2, j + 2, _ =>
      simp at ha hb
      rw [ap_conf (apTs_mem (List.mem_of_getElem? ha)).2 (apTs_mem (List.mem_of_getElem? hb)).2] at hc
      cases hc
  · rintro ⟨rfl, rfl⟩
    exact ⟨1, 0, o1, o2, by omega, rfl, rfl, h12, rfl, rfl⟩

def upTo (k : Nat) : List Int := ints (List.range k)
def downTo (k : Nat) : List Int := (List.range k).map fun i : Nat => (k : Int) - 1 - (i : Int)
theorem upTo_getD {k p : Nat} (h : p < k) : (upTo k).getD p 0 = (p : Int) := by simp [upTo, ints, List.getD_eq_getElem?_getD, h]
theorem downTo_getD {k p : Nat} (h : p < k) : (downTo k).getD p 0 = (k : Int) - 1 - (p : Int) := by simp [downTo, List.getD_eq_getElem?_getD, h]
theorem graphW_sees {k : Nat} {ts : List TouchD} (i j : Nat) : sees (graphW (upTo k) ts) i j = (decide (i < k) && decide (j < k) && pts ts (i : Int) (j : Int)) := by
  unfold sees graphW
  by_cases hi : i < k
  · have : ((upTo k).map fun x => ints (edgeRow (upTo k) ts x)).getD i [] = ints (edgeRow (upTo k) ts (i : Int)) := by
      simp [upTo, ints, List.getD_eq_getElem?_getD, hi]
    rw [this, Bool.eq_iff_iff, List.contains_iff_mem, mem_ints]
    simp only [Bool.and_eq_true, decide_eq_true_eq]
    constructor
    · rintro ⟨m, hm, e⟩
      obtain rfl : j = m := by omega
      obtain ⟨h1, h2⟩ := mem_edgeRow.1 hm
      have h1 : j < k := by simpa [upTo, ints] using h1
      rw [upTo_getD h1] at h2
      exact ⟨⟨hi, h1⟩, h2⟩
    · rintro ⟨⟨_, h1⟩, h2⟩
      exact ⟨j, mem_edgeRow.2 ⟨by simpa [upTo, ints] using h1, by rw [upTo_getD h1]; exact h2⟩, rfl⟩
  · have : ((upTo k).map fun x => ints (edgeRow (upTo k) ts x)).getD i [] = [] := by
      simp [upTo, ints, List.getD_eq_getElem?_getD, hi]
    rw [this, decide_eq_false hi]
    simp
theorem isR_iff {G : List (List Int)} {ord : List Int} : isR G ord = true ↔ ord.length = G.length ∧ ∀ p, p < ord.length → isRow G ord p = true := by
  unfold isR
  simp only [Bool.and_eq_true, decide_eq_true_eq, List.all_eq_true, List.mem_range]
/-- Rows by a place for each node. -/
theorem isR_perm {k : Nat} {ts : List TouchD} {ord : List Int} (f : Nat → Nat) (hl : ord.length = k) (hf : ∀ p, p < k → ord.getD p 0 = (f p : Int) ∧ f p < k) (hi : ∀ p q, p < k → q < k → f p = f q → p = q) (hs : ∀ i, pts ts i i = false) :
    isP (graphW (upTo k) ts) ord = true ↔ ∀ p q, q < p → p < k → pts ts (f p : Int) (f q : Int) = false := by
  have hgl : (graphW (upTo k) ts).length = k := by simp [graphW, upTo, ints]
  rw [isP_isR, isR_iff, hgl]
  constructor
  · rintro ⟨_, h⟩ p q hq hp
    obtain ⟨_, _, _, h4⟩ := isRow_iff.1 (h p (by omega))
    have h5 := (h4 q hq).2
    rw [(hf p hp).1, (hf q (by omega)).1, graphW_sees] at h5
    simp only [Int.toNat_natCast] at h5
    rw [decide_eq_true (hf p hp).2, decide_eq_true (hf q (by omega)).2] at h5
    simpa using h5
  · intro h
    refine ⟨hl, fun p hp => isRow_iff.2 ?_⟩
    have hp : p < k := by omega
    rw [(hf p hp).1, hgl]
    refine ⟨by omega, by have := (hf p hp).2; omega, ?_, fun q hq => ⟨?_, ?_⟩⟩
    · rw [graphW_sees]
      simp [hs]
    · rw [(hf q (by omega)).1]
      intro e
      have := hi q p (by omega) hp (by omega)
      omega
    · rw [(hf q (by omega)).1, graphW_sees]
      simp only [Int.toNat_natCast]
      rw [h p q hq hp]
      simp
theorem up_perm {k : Nat} {ts : List TouchD} (hs : ∀ i, pts ts i i = false) : isP (graphW (upTo k) ts) (upTo k) = true ↔ ∀ p q : Nat, q < p → p < k → pts ts (p : Int) (q : Int) = false :=
  isR_perm (fun p => p) (by simp [upTo, ints]) (fun p hp => ⟨upTo_getD hp, hp⟩) (fun _ _ _ _ h => h) hs
theorem down_perm {k : Nat} {ts : List TouchD} (hs : ∀ i, pts ts i i = false) : isP (graphW (upTo k) ts) (downTo k) = true ↔ ∀ p q : Nat, q < p → p < k → pts ts ((k - 1 - p : Nat) : Int) ((k - 1 - q : Nat) : Int) = false :=
  isR_perm (fun p => k - 1 - p) (by simp [downTo]) (fun p hp => ⟨by rw [downTo_getD hp]; omega, by omega⟩) (fun p q hp hq h => by have h : k - 1 - p = k - 1 - q := h; omega) hs
theorem apart_up (k : Nat) (hk : 0 < k ∧ k ≤ 12) (turns : List Int) (n : Nat) : isP (graphW (upTo k) (apTs k hk turns n)) (upTo k) = true := (up_perm fun i => apart_pts i i).2 fun _ _ _ _ => apart_pts _ _
theorem apart_down (k : Nat) (hk : 0 < k ∧ k ≤ 12) (turns : List Int) (n : Nat) : isP (graphW (upTo k) (apTs k hk turns n)) (downTo k) = true := (down_perm fun i => apart_pts i i).2 fun _ _ _ _ => apart_pts _ _
theorem apart_row (k : Nat) (hk : 0 < k ∧ k ≤ 12) (turns : List Int) (n i : Nat) (hi : i < k) : (graphW (upTo k) (apTs k hk turns n))[i]? = some [] := by
  rw [graphW_at (x := (i : Int)) (by simp [upTo, ints, hi])]
  congr 1
  rw [show edgeRow (upTo k) (apTs k hk turns n) (i : Int) = [] from List.filter_eq_nil_iff.2 fun j _ => by rw [apart_pts]; simp]
  rfl
section
variable {k : Nat} {hk : 0 < k ∧ k ≤ 12} {turns : List Int} {n x y : Nat} {o1 o2 : TouchD}
theorem tied_self (h12 : conf o1 o2 = true) (h1 : o1.tab = 1) (h2 : o2.tab = 1) (i : Int) : pts (o1 :: o2 :: apTs k hk turns n) i i = false := by
  rw [tied_pts h12 h1 h2]
  have := conf_ne h12
  rw [Bool.and_eq_false_iff, decide_eq_false_iff_not, decide_eq_false_iff_not]
  by_cases e : i = o1.who
  · subst e; exact .inr this
  · exact .inl e
theorem tied_up (h12 : conf o1 o2 = true) (h1 : o1.tab = 1) (h2 : o2.tab = 1) (hx : o1.who = (x : Int)) (hy : o2.who = (y : Int)) (hxk : x < k) : isP (graphW (upTo k) (o1 :: o2 :: apTs k hk turns n)) (upTo k) = decide (x < y) := by
  have hne := conf_ne h12
  rw [hx, hy] at hne
  rw [Bool.eq_iff_iff, up_perm (tied_self h12 h1 h2), decide_eq_true_eq]
  constructor
  · intro h
    rcases Nat.lt_or_ge x y with h3 | h3
    · exact h3
    · have := h x y (by omega) hxk
      rw [tied_pts h12 h1 h2, hx, hy] at this
      simp at this
  · intro h p q hq hp
    rw [tied_pts h12 h1 h2, hx, hy, Bool.and_eq_false_iff, decide_eq_false_iff_not, decide_eq_false_iff_not]
    by_cases e : (p : Int) = x
    · right; omega
    · exact .inl e
theorem tied_down (h12 : conf o1 o2 = true) (h1 : o1.tab = 1) (h2 : o2.tab = 1) (hx : o1.who = (x : Int)) (hy : o2.who = (y : Int)) (hxk : x < k) (hyk : y < k) : isP (graphW (upTo k) (o1 :: o2 :: apTs k hk turns n)) (downTo k) = decide (y < x) := by
  have hne := conf_ne h12
  rw [hx, hy] at hne
  rw [Bool.eq_iff_iff, down_perm (tied_self h12 h1 h2), decide_eq_true_eq]
  constructor
  · intro h
    rcases Nat.lt_or_ge y x with h3 | h3
    · exact h3
    · have := h (k - 1 - x) (k - 1 - y) (by omega) (by omega)
      rw [show k - 1 - (k - 1 - x) = x by omega, show k - 1 - (k - 1 - y) = y by omega, tied_pts h12 h1 h2, hx, hy] at this
      simp at this
  · intro h p q hq hp
    rw [tied_pts h12 h1 h2, hx, hy, Bool.and_eq_false_iff, decide_eq_false_iff_not, decide_eq_false_iff_not]
    by_cases e : ((k - 1 - p : Nat) : Int) = x
    · right; omega
    · exact .inl e
theorem tied_row (h12 : conf o1 o2 = true) (h1 : o1.tab = 1) (h2 : o2.tab = 1) (hx : o1.who = (x : Int)) (hy : o2.who = (y : Int)) (hxk : x < k) (hyk : y < k) : (graphW (upTo k) (o1 :: o2 :: apTs k hk turns n))[x]? = some [(y : Int)] := by
  rw [graphW_at (x := (x : Int)) (by simp [upTo, ints, hxk])]
  congr 1
  refine sorted_ext (edge_sorted _ _ _).1 (by simp) (edge_sorted _ _ _).2 (by simp) fun z => ?_
  rw [mem_ints, List.mem_singleton]
  constructor
  · rintro ⟨m, hm, rfl⟩
    obtain ⟨h3, h4⟩ := mem_edgeRow.1 hm
    rw [upTo_getD (by simpa [upTo, ints] using h3), tied_pts h12 h1 h2, hy] at h4
    simp only [Bool.and_eq_true, decide_eq_true_eq] at h4
    exact h4.2
  · rintro rfl
    refine ⟨y, mem_edgeRow.2 ⟨by simpa [upTo, ints] using hyk, ?_⟩, rfl⟩
    rw [upTo_getD hyk, tied_pts h12 h1 h2, hx, hy]
    simp
end
end Go.Proofs.Ytegejcmihojhbaa
