/-
  Ways of a graph, as the document reckons them round by round; a graph without rings has an order, and no other one has. No program in sight.
  No condition.
-/
import Derived.Test.YtkeiphmhckkniaaHsPure
namespace Go.Proofs.Ytkeiphmhckkniaa

/-- One step of a round: may b be come to? -/
def wayStep (G : List (List Int)) (s : Nat) (inn : List Bool) (a b : Nat) : List Bool := inn.set b (inn.getD b false || (sees G a b && (decide (a = s) || inn.getD a false)))
def wayRow (G : List (List Int)) (s : Nat) (inn : List Bool) (a m : Nat) : List Bool := (List.range m).foldl (fun l b => wayStep G s l a b) inn
def wayRound (G : List (List Int)) (s : Nat) (inn : List Bool) (m : Nat) : List Bool := (List.range m).foldl (fun l a => wayRow G s l a G.length) inn
def wayGo (G : List (List Int)) (s : Nat) (r : Nat) : List Bool := (List.range r).foldl (fun l _ => wayRound G s l G.length) (List.replicate G.length false)
def wayP (G : List (List Int)) (s t : Nat) : Bool := (wayGo G s (G.length + 1)).getD t false
def acycP (G : List (List Int)) : Bool := (List.range G.length).all fun i => !wayP G i i

theorem wayRow_succ (G : List (List Int)) (s : Nat) (inn : List Bool) (a m : Nat) : wayRow G s inn a (m + 1) = wayStep G s (wayRow G s inn a m) a m := by
  simp [wayRow, List.range_succ]
theorem wayRound_succ (G : List (List Int)) (s : Nat) (inn : List Bool) (m : Nat) : wayRound G s inn (m + 1) = wayRow G s (wayRound G s inn m) m G.length := by
  simp [wayRound, List.range_succ]
theorem wayGo_succ (G : List (List Int)) (s r : Nat) : wayGo G s (r + 1) = wayRound G s (wayGo G s r) G.length := by
  simp [wayGo, List.range_succ]
theorem wayStep_len (G : List (List Int)) (s : Nat) (inn : List Bool) (a b : Nat) : (wayStep G s inn a b).length = inn.length := by simp [wayStep]
theorem wayRow_len (G : List (List Int)) (s : Nat) (inn : List Bool) (a m : Nat) : (wayRow G s inn a m).length = inn.length := by
  induction m with
  | zero => rfl
  | succ m ih => rw [wayRow_succ, wayStep_len, ih]
theorem wayRound_len (G : List (List Int)) (s : Nat) (inn : List Bool) (m : Nat) : (wayRound G s inn m).length = inn.length := by
  induction m with
  | zero => rfl
  | succ m ih => rw [wayRound_succ, wayRow_len, ih]
theorem wayGo_len (G : List (List Int)) (s r : Nat) : (wayGo G s r).length = G.length := by
  induction r with
  | zero => simp [wayGo]
  | succ m ih => rw [wayGo_succ, wayRound_len, ih]

def LeB (x y : List Bool) : Prop := ∀ i, x.getD i false = true → y.getD i false = true
theorem LeB.refl (x : List Bool) : LeB x x := fun _ h => h
theorem LeB.trans {x y z : List Bool} (h : LeB x y) (k : LeB y z) : LeB x z := fun i hi => k i (h i hi)
theorem wayStep_getD (G : List (List Int)) (s : Nat) (inn : List Bool) (a b i : Nat) (hb : b < inn.length) : (wayStep G s inn a b).getD i false = (inn.getD i false || (decide (b = i) && sees G a b && (decide (a = s) || inn.getD a false))) := by
  unfold wayStep
  simp only [List.getD_eq_getElem?_getD, List.getElem?_set]
  by_cases h : b = i
  · subst h
    simp [hb]
  · simp [h]
theorem wayStep_ge (G : List (List Int)) (s : Nat) (inn : List Bool) (a b : Nat) (hb : b < inn.length) : LeB inn (wayStep G s inn a b) := fun i hi => by
  rw [wayStep_getD G s inn a b i hb, hi]; rfl
theorem wayRow_ge (G : List (List Int)) (s : Nat) (inn : List Bool) (a m : Nat) (hm : m ≤ inn.length) : LeB inn (wayRow G s inn a m) := by
  induction m with
  | zero => exact LeB.refl _
  | succ m ih =>
    rw [wayRow_succ]
    exact (ih (by omega)).trans (wayStep_ge G s _ a m (by rw [wayRow_len]; omega))
theorem wayRound_ge (G : List (List Int)) (s : Nat) (inn : List Bool) (m : Nat) (hl : inn.length = G.length) : LeB inn (wayRound G s inn m) := by
  induction m with
  | zero => exact LeB.refl _
  | succ m ih =>
    rw [wayRound_succ]
    exact ih.trans (wayRow_ge G s _ m G.length (by rw [wayRound_len]; omega))

/-- There is a way of a step at least. -/
inductive Leads (G : List (List Int)) (s : Nat) : Nat → Prop
  | one {b : Nat} : sees G s b = true → s < G.length → b < G.length → Leads G s b
  | more {a b : Nat} : Leads G s a → sees G a b = true → b < G.length → Leads G s b
theorem Leads.lt {G : List (List Int)} {s b : Nat} (h : Leads G s b) : b < G.length := by cases h <;> assumption
theorem Leads.trans {G : List (List Int)} {s a b : Nat} (h : Leads G s a) (k : Leads G a b) : Leads G s b := by
  induction k with
  | one h1 h2 h3 => exact .more h h1 h3
  | more _ h1 h3 ih => exact .more ih h1 h3

theorem wayGo_sound {G : List (List Int)} {s : Nat} (r : Nat) : ∀ i, (wayGo G s r).getD i false = true → Leads G s i := by
  have step : ∀ (inn : List Bool) (a b : Nat), a < G.length → b < inn.length → inn.length = G.length → (∀ i, inn.getD i false = true → Leads G s i) → ∀ i, (wayStep G s inn a b).getD i false = true → Leads G s i := by
    intro inn a b ha hb hl h i hi
    rw [wayStep_getD G s inn a b i hb] at hi
    simp only [Bool.or_eq_true, Bool.and_eq_true, decide_eq_true_eq] at hi
    rcases hi with hi | ⟨⟨rfl, h1⟩, rfl | h2⟩
    · exact h i hi
    · exact .one h1 ha (by omega)
    · exact .more (h a h2) h1 (by omega)
  have row : ∀ (inn : List Bool) (a m : Nat), a < G.length → m ≤ G.length → inn.length = G.length → (∀ i, inn.getD i false = true → Leads G s i) → ∀ i, (wayRow G s inn a m).getD i false = true → Leads G s i := by
    intro inn a m ha hm hl h
    induction m with
    | zero => exact h
    | succ m ih =>
      rw [wayRow_succ]
      exact step _ a m ha (by rw [wayRow_len]; omega) (by rw [wayRow_len, hl]) (ih (by omega))
  have round : ∀ (inn : List Bool) (m : Nat), m ≤ G.length → inn.length = G.length → (∀ i, inn.getD i false = true → Leads G s i) → ∀ i, (wayRound G s inn m).getD i false = true → Leads G s i := by
    intro inn m hm hl h
    induction m with
    | zero => exact h
    | succ m ih =>
      rw [wayRound_succ]
      exact row _ m G.length (by omega) (Nat.le_refl _) (by rw [wayRound_len, hl]) (ih (by omega))
  induction r with
  | zero => intro i hi; simp [wayGo, List.getD_eq_getElem?_getD, List.getElem?_replicate] at hi; split at hi <;> simp at hi
  | succ r ih =>
    rw [wayGo_succ]
    exact round _ _ (Nat.le_refl _) (wayGo_len G s r) ih

/-- Behind a round that turned nothing there is nothing more to come to. -/
def Shut (G : List (List Int)) (s : Nat) (inn : List Bool) : Prop := ∀ a b, a < G.length → b < G.length → sees G a b = true → (a = s ∨ inn.getD a false = true) → inn.getD b false = true
theorem shut_of_round {G : List (List Int)} {s : Nat} {inn : List Bool} (hl : inn.length = G.length) (h : LeB (wayRound G s inn G.length) inn) : Shut G s inn := by
  intro a b ha hb hs hor
  apply h b
  have e1 : ∀ m, a < m → m ≤ G.length → LeB (wayRound G s inn (a + 1)) (wayRound G s inn m) := by
    intro m h1 h2
    induction m with
    | zero => omega
    | succ m ih =>
      by_cases e : a = m
      · subst e; exact LeB.refl _
      · rw [wayRound_succ G s inn m]
        exact (ih (by omega) (by omega)).trans (wayRow_ge G s _ m G.length (by rw [wayRound_len]; omega))
  apply e1 G.length ha (Nat.le_refl _)
  rw [wayRound_succ]
  have e2 : ∀ (x : List Bool) (m : Nat), x.length = G.length → b < m → m ≤ G.length → LeB (wayRow G s x a (b + 1)) (wayRow G s x a m) := by
    intro x m hx h1 h2
    induction m with
    | zero => omega
    | succ m ih =>
      by_cases e : b = m
      · subst e; exact LeB.refl _
      · rw [wayRow_succ G s x a m]
        exact (ih (by omega) (by omega)).trans (wayStep_ge G s _ a m (by rw [wayRow_len]; omega))
  have hxl : (wayRound G s inn a).length = G.length := by rw [wayRound_len, hl]
  apply e2 _ G.length hxl hb (Nat.le_refl _)
  rw [wayRow_succ, wayStep_getD _ _ _ _ _ _ (by rw [wayRow_len, hxl]; exact hb)]
  rcases hor with e | e
  · rw [hs, decide_eq_true e]; simp
  · have := (wayRow_ge G s _ a b (by rw [hxl]; omega)) a ((wayRound_ge G s inn a hl) a e)
    simp only [this, hs, Bool.or_true, Bool.and_true, decide_true, Bool.or_true]

def ones (x : List Bool) : Nat := x.count true
theorem ones_lt : ∀ {x y : List Bool}, x.length = y.length → LeB x y → ¬ LeB y x → ones x < ones y := by
  have le : ∀ {x y : List Bool}, x.length = y.length → LeB x y → ones x ≤ ones y := by
    intro x
    induction x with
    | nil => intro y h _; simp [ones]
    | cons a x ih =>
      intro y h hle
      cases y with
      | nil => simp at h
      | cons b y =>
        have := ih (y := y) (by simpa using h) fun i hi => by simpa using hle (i + 1) (by simpa using hi)
        have h0 := hle 0
        simp only [ones, List.count_cons] at this ⊢
        cases a <;> cases b <;> simp at h0 ⊢ <;> omega
  intro x
  induction x with
  | nil =>
    intro y h _ hn
    have : y = [] := List.eq_nil_of_length_eq_zero (by simpa using h.symm)
    subst this
    exact absurd (LeB.refl _) hn
  | cons a x ih =>
    intro y h hle hn
    cases y with
    | nil => simp at h
    | cons b y =>
      have hle2 : LeB x y := fun i hi => by simpa using hle (i + 1) (by simpa using hi)
      have hl2 : x.length = y.length := by simpa using h
      have h0 := hle 0
      have := le hl2 hle2
      by_cases hyx : LeB y x
      · have hab : a = false ∧ b = true := by
          cases a <;> cases b
          · exact absurd (fun i hi => by cases i with
              | zero => simp at hi
              | succ i => simpa using hyx i (by simpa using hi)) hn
          · exact ⟨rfl, rfl⟩
          · simp at h0
          · exact absurd (fun i hi => by cases i with
              | zero => simp
              | succ i => simpa using hyx i (by simpa using hi)) hn
        obtain ⟨rfl, rfl⟩ := hab
        simp only [ones, List.count_cons] at this ⊢
        simp; omega
      · have := ih hl2 hle2 hyx
        simp only [ones, List.count_cons] at this ⊢
        cases a <;> cases b <;> simp at h0 ⊢ <;> omega
theorem ones_le (x : List Bool) : ones x ≤ x.length := List.count_le_length
theorem wayGo_shut (G : List (List Int)) (s : Nat) : Shut G s (wayGo G s (G.length + 1)) := by
  have keep : ∀ r, LeB (wayGo G s (r + 1)) (wayGo G s r) → LeB (wayGo G s (r + 2)) (wayGo G s (r + 1)) := by
    intro r h
    have he : wayGo G s (r + 1) = wayGo G s r := by
      have hge : LeB (wayGo G s r) (wayGo G s (r + 1)) := by rw [wayGo_succ]; exact wayRound_ge _ _ _ _ (wayGo_len _ _ _)
      apply List.ext_getElem (by rw [wayGo_len, wayGo_len])
      intro i h1 h2
      have a1 := h i
      have a2 := hge i
      simp only [List.getD_eq_getElem?_getD, List.getElem?_eq_getElem h1, List.getElem?_eq_getElem h2, Option.getD_some] at a1 a2
      rw [Bool.eq_iff_iff]
      exact ⟨a1, a2⟩
    rw [wayGo_succ, he, ← wayGo_succ]
    rw [he]; exact LeB.refl _
  have grow : ∀ r, LeB (wayGo G s (r + 1)) (wayGo G s r) ∨ r + 1 ≤ ones (wayGo G s (r + 1)) := by
    intro r
    induction r with
    | zero =>
      by_cases h : LeB (wayGo G s 1) (wayGo G s 0)
      · exact .inl h
      · right
        have := ones_lt (by rw [wayGo_len, wayGo_len]) (show LeB (wayGo G s 0) (wayGo G s 1) by rw [wayGo_succ]; exact wayRound_ge _ _ _ _ (wayGo_len _ _ _)) h
        simp only [Nat.zero_add]
        omega
    | succ r ih =>
      by_cases h : LeB (wayGo G s (r + 1 + 1)) (wayGo G s (r + 1))
      · exact .inl h
      · right
        rcases ih with ih | ih
        · exact absurd (keep r ih) h
        · have := ones_lt (by rw [wayGo_len, wayGo_len]) (show LeB (wayGo G s (r + 1)) (wayGo G s (r + 1 + 1)) by rw [wayGo_succ G s (r + 1)]; exact wayRound_ge _ _ _ _ (wayGo_len _ _ _)) h
          omega
  have h1 : LeB (wayGo G s (G.length + 1)) (wayGo G s G.length) := by
    rcases grow G.length with h | h
    · exact h
    · have := ones_le (wayGo G s (G.length + 1))
      rw [wayGo_len] at this
      omega
  have h2 := keep _ h1
  rw [wayGo_succ G s (G.length + 1)] at h2
  exact shut_of_round (wayGo_len _ _ _) h2
theorem wayP_iff {G : List (List Int)} {s t : Nat} : wayP G s t = true ↔ Leads G s t := by
  constructor
  · exact wayGo_sound _ t
  · intro h
    induction h with
    | one h1 h2 h3 => exact wayGo_shut G s _ _ h2 h3 h1 (.inl rfl)
    | more h h1 h3 ih => exact wayGo_shut G s _ _ h.lt h3 h1 (.inr ih)

/-- Whoever can be next has nobody ahead that is not there. -/
theorem chain_before {G : List (List Int)} {out : List Nat} (hc : Chain G out) {p q a b : Nat} (ha : out[p]? = some a) (hb : out[q]? = some b) (hs : sees G a b = true) (hal : a < G.length) (hn : out.Nodup) : p < q := by
  rcases (mem_nextO.1 (hc q b hb)).2.2 a hal with h | h
  · obtain ⟨k, hk⟩ := List.getElem?_of_mem h
    rw [List.getElem?_take] at hk
    split at hk
    · have hp := (List.getElem?_eq_some_iff.1 ha).1
      have : p = k := (List.getElem?_inj hp hn).1 (by rw [ha, hk])
      omega
    · cases hk
  · rw [hs] at h; cases h

theorem acyc_of_order {G : List (List Int)} {picks : List Int} (h : (orderP G picks).length = G.length) : acycP G = true := by
  obtain ⟨hc, hk⟩ := orderP_chain G picks
  generalize orderP G picks = out at *
  have hfull := hk.full h
  have key : ∀ s t, Leads G s t → ∀ p q : Nat, out[p]? = some s → out[q]? = some t → p < q := by
    intro s t hl
    induction hl with
    | one h1 h2 h3 => intro p q hp hq; exact chain_before hc hp hq h1 h2 hk.1
    | more hl h1 h3 ih =>
      intro p q hp hq
      obtain ⟨r, hr⟩ := List.getElem?_of_mem (hfull _ hl.lt)
      have := ih p r hp hr
      have := chain_before hc hr hq h1 hl.lt hk.1
      omega
  unfold acycP
  simp only [List.all_eq_true, List.mem_range, Bool.not_eq_true']
  intro i hi
  cases hw : wayP G i i with
  | false => rfl
  | true =>
    obtain ⟨r, hr⟩ := List.getElem?_of_mem (hfull i hi)
    have := key i i (wayP_iff.1 hw) r r hr hr
    omega

def reachN (G : List (List Int)) (i : Nat) : Nat := ((List.range G.length).filter fun t => wayP G i t).length
theorem order_of_acyc {G : List (List Int)} {picks : List Int} (h : acycP G = true) : (orderP G picks).length = G.length := by
  obtain ⟨hc, hk⟩ := orderP_chain G picks
  have hst := orderP_stuck G picks
  generalize orderP G picks = out at *
  rcases Classical.em (out.length = G.length) with he | he
  · exact he
  exfalso
  have hlt : out.length < G.length := by have := hk.len; omega
  have hno : ∀ i, i < G.length → ¬ Leads G i i := by
    intro i hi hl
    unfold acycP at h
    simp only [List.all_eq_true, List.mem_range, Bool.not_eq_true'] at h
    have := h i hi
    rw [wayP_iff.2 hl] at this; cases this
  have hpred : ∀ i, i < G.length → i ∉ out → ∃ k, k < G.length ∧ k ∉ out ∧ sees G k i = true := by
    intro i hi hn
    apply Classical.byContradiction
    intro hx
    have hm : i ∈ nextO G out := mem_nextO.2 ⟨hi, hn, fun k hk => by
      rcases Classical.em (k ∈ out) with h1 | h1
      · exact .inl h1
      · right
        cases hs : sees G k i with
        | false => rfl
        | true => exact absurd ⟨k, hk, h1, hs⟩ hx⟩
    rw [hst] at hm; cases hm
  obtain ⟨i0, h0, h1⟩ : ∃ i, i < G.length ∧ i ∉ out := by
    apply Classical.byContradiction
    intro hx
    have : (List.range G.length).length ≤ out.length := sub_len List.nodup_range fun i hi => by
      apply Classical.byContradiction
      intro hn
      exact hx ⟨i, List.mem_range.1 hi, hn⟩
    simp at this; omega
  have climb : ∀ n : Nat, ∃ i, i < G.length ∧ i ∉ out ∧ n ≤ reachN G i := by
    intro n
    induction n with
    | zero => exact ⟨i0, h0, h1, Nat.zero_le _⟩
    | succ n ih =>
      obtain ⟨i, hi, hn, hr⟩ := ih
      obtain ⟨k, hk, hkn, hs⟩ := hpred i hi hn
      refine ⟨k, hk, hkn, ?_⟩
      have h3 : ((List.range G.length).filter fun t => wayP G i t).length < ((List.range G.length).filter fun t => wayP G k t).length := by
        have hki : wayP G k i = true := wayP_iff.2 (.one hs hk hi)
        have := sub_len (l := i :: (List.range G.length).filter fun t => wayP G i t) (m := (List.range G.length).filter fun t => wayP G k t)
          (List.nodup_cons.2 ⟨fun hm => hno i hi (wayP_iff.1 (List.mem_filter.1 hm).2), List.nodup_range.sublist List.filter_sublist⟩) (fun t ht => by
            rcases List.mem_cons.1 ht with rfl | ht
            · exact List.mem_filter.2 ⟨List.mem_range.2 hi, hki⟩
            · obtain ⟨a, b⟩ := List.mem_filter.1 ht
              exact List.mem_filter.2 ⟨a, wayP_iff.2 ((Leads.one hs hk hi).trans (wayP_iff.1 b))⟩)
        simp only [List.length_cons] at this; omega
      unfold reachN at hr ⊢
      omega
  obtain ⟨i, hi, _, hr⟩ := climb (G.length + 1)
  have : reachN G i ≤ G.length := by
    unfold reachN
    have := List.length_filter_le (fun t => wayP G i t) (List.range G.length)
    simpa using this
  omega
/-- There is an order just if there is no ring. -/
theorem ok_acyc (G : List (List Int)) (picks : List Int) : okP G picks = acycP G := by
  unfold okP
  rw [Bool.eq_iff_iff, decide_eq_true_eq]
  exact ⟨acyc_of_order, order_of_acyc⟩
end Go.Proofs.Ytkeiphmhckkniaa
