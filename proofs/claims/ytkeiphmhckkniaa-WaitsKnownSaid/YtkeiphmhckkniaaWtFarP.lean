/-
  How far each node is from reaching one: plain Lean.
  No condition.
-/
import Derived.Test.YtkeiphmhckkniaaWtReachP
namespace Go.Proofs.Ytkeiphmhckkniaa
open Go Go.RowKit

/-- So many steps from a to b. -/
inductive Steps (G : List (List Int)) (b : Nat) : Nat → Nat → Prop
  | zero : Steps G b 0 b
  | more {d p k : Nat} : sees G p k = true → p < G.length → k < G.length → Steps G b d k → Steps G b (d + 1) p
theorem Steps.lt {G : List (List Int)} {b d a : Nat} (h : Steps G b d a) (hb : b < G.length) : a < G.length := by cases h <;> assumption
/-- Rows turned about, i's being added. -/
def bput (i : Nat) (Bk : List (List Int)) (y : Int) : List (List Int) := Bk.set y.toNat (Bk.getD y.toNat [] ++ [(i : Int)])
def brow (i : Nat) (l : List Int) (Bk : List (List Int)) : List (List Int) := l.foldl (bput i) Bk
def backP (G : List (List Int)) (m : Nat) : List (List Int) := (List.range m).foldl (fun Bk i => brow i (ofP G i) Bk) (List.replicate G.length [])
theorem backP_succ (G : List (List Int)) (m : Nat) : backP G (m + 1) = brow m (ofP G m) (backP G m) := by simp [backP, List.range_succ]
theorem bput_len (i : Nat) (Bk : List (List Int)) (y : Int) : (bput i Bk y).length = Bk.length := by simp [bput]
theorem brow_len (i : Nat) : ∀ (l : List Int) (Bk : List (List Int)), (brow i l Bk).length = Bk.length
  | [], _ => rfl
  | y :: l, Bk => by show (brow i l (bput i Bk y)).length = _; rw [brow_len i l, bput_len]
theorem backP_len (G : List (List Int)) (m : Nat) : (backP G m).length = G.length := by
  induction m with
  | zero => simp [backP]
  | succ m ih => rw [backP_succ, brow_len, ih]
theorem bput_getD {i : Nat} {Bk : List (List Int)} {y : Int} {k : Nat} (hy : 0 ≤ y ∧ y < Bk.length) : (bput i Bk y).getD k [] = Bk.getD k [] ++ if (k : Int) = y then [(i : Int)] else [] := by
  unfold bput
  by_cases h : (k : Int) = y
  · rw [if_pos h]
    have e : y.toNat = k := by omega
    rw [e, List.getD_eq_getElem?_getD, List.getElem?_set_self (by omega)]
    rfl
  · rw [if_neg h, List.append_nil, List.getD_eq_getElem?_getD, List.getElem?_set_ne (by omega), ← List.getD_eq_getElem?_getD]
theorem brow_getD {i : Nat} : ∀ {l : List Int} {Bk : List (List Int)} {k : Nat}, (∀ y ∈ l, 0 ≤ y ∧ y < Bk.length) → l.Nodup → (brow i l Bk).getD k [] = Bk.getD k [] ++ if (k : Int) ∈ l then [(i : Int)] else []
  | [], Bk, k, _, _ => by simp [brow]
  | y :: l, Bk, k, h, hn => by
    obtain ⟨h1, h2⟩ := List.nodup_cons.1 hn
    show (brow i l (bput i Bk y)).getD k [] = _
    rw [brow_getD (fun z hz => by rw [bput_len]; exact h z (by simp [hz])) h2, bput_getD (h y (by simp)), List.append_assoc]
    congr 1
    by_cases e : (k : Int) = y
    · rw [if_pos e, if_neg (by rw [e]; exact h1), if_pos (by simp [e]), List.append_nil]
    · rw [if_neg e, List.nil_append]
      by_cases e2 : (k : Int) ∈ l
      · rw [if_pos e2, if_pos (by simp [e2])]
      · rw [if_neg e2, if_neg (by simp [e, e2])]
theorem ofP_in {G : List (List Int)} {i : Nat} : ∀ y ∈ ofP G i, 0 ≤ y ∧ y < G.length := fun _ hy => (mem_ofP.1 hy).2
theorem ofP_nodup (G : List (List Int)) (i : Nat) : (ofP G i).Nodup := (ofP_inc G i).imp fun h e => by omega
theorem ofP_few (G : List (List Int)) (i : Nat) : (ofP G i).length ≤ G.length := by
  have h1 : ((ofP G i).map Int.toNat).Nodup := by
    unfold List.Nodup
    rw [List.pairwise_map]
    refine (ofP_nodup G i).imp_of_mem fun {a b} ha hb hne e => hne ?_
    have := ofP_in a ha
    have := ofP_in b hb
    omega
  have := sub_len h1 (m := List.range G.length) fun x hx => by
    obtain ⟨a, ha, rfl⟩ := List.mem_map.1 hx
    have := ofP_in a ha
    exact List.mem_range.2 (by omega)
  simpa using this
theorem backP_getD (G : List (List Int)) (m k : Nat) : (backP G m).getD k [] = ((List.range m).filter fun i => (ofP G i).contains (k : Int)).map fun i : Nat => (i : Int) := by
  induction m with
  | zero => simp [backP, List.getD_eq_getElem?_getD, List.getElem?_replicate]; split <;> rfl
  | succ m ih =>
    rw [backP_succ, brow_getD (by rw [backP_len]; exact ofP_in) (ofP_nodup G m), ih, List.range_succ, List.filter_append, List.map_append]
    congr 1
    by_cases e : (k : Int) ∈ ofP G m
    · rw [if_pos e, List.filter_cons_of_pos (by simp [e])]; rfl
    · rw [if_neg e, List.filter_cons_of_neg (by simp [e])]; rfl
theorem backP_row (G : List (List Int)) (m k : Nat) : ((backP G m).getD k []).length ≤ m := by
  rw [backP_getD, List.length_map]
  have := List.length_filter_le (fun i => (ofP G i).contains (k : Int)) (List.range m)
  simpa using this
theorem brow_row {i k N : Nat} : ∀ (l : List Int) (Bk : List (List Int)), (∀ k, (Bk.getD k []).length ≤ N) → ((brow i l Bk).getD k []).length ≤ N + l.length
  | [], Bk, h => h k
  | y :: l, Bk, h => by
    show ((brow i l (bput i Bk y)).getD k []).length ≤ _
    have := brow_row (i := i) (k := k) (N := N + 1) l (bput i Bk y) fun k => by
      by_cases hy : 0 ≤ y ∧ y < Bk.length
      · rw [bput_getD hy]
        have := h k
        split <;> simp only [List.length_append, List.length_singleton, List.length_nil] <;> omega
      · unfold bput
        have h2 := h k
        by_cases e : y.toNat = k
        · by_cases hl : y.toNat < Bk.length
          · rw [← e, List.getD_eq_getElem?_getD, List.getElem?_set_self hl]
            have := h y.toNat
            simp only [Option.getD_some, List.length_append, List.length_singleton]; omega
          · rw [List.set_eq_of_length_le (by omega)]; omega
        · rw [List.getD_eq_getElem?_getD, List.getElem?_set_ne e, ← List.getD_eq_getElem?_getD]; omega
    simp only [List.length_cons]; omega
/-- Who points to k. -/
theorem mem_back {G : List (List Int)} {p k : Nat} (hk : k < G.length) : (p : Int) ∈ ofP (backP G G.length) k ↔ p < G.length ∧ sees G p k = true := by
  rw [mem_ofP, backP_getD, backP_len, List.mem_map]
  constructor
  · rintro ⟨⟨i, hi, e⟩, _, h⟩
    obtain rfl : i = p := by omega
    have h2 := (List.mem_filter.1 hi).2
    rw [List.contains_iff_mem] at h2
    exact ⟨by omega, (sees_ofP hk).1 h2⟩
  · rintro ⟨h1, h2⟩
    exact ⟨⟨p, List.mem_filter.2 ⟨List.mem_range.2 h1, by rw [List.contains_iff_mem]; exact (sees_ofP hk).2 h2⟩, rfl⟩, by omega, by omega⟩

/-- How many are known. -/
def setc (F : List Int) : Nat := F.countP fun x => decide (0 ≤ x)
theorem setc_le (F : List Int) : setc F ≤ F.length := List.countP_le_length
theorem setc_set {F : List Int} {k : Nat} {d : Int} (hk : k < F.length) (h : F.getD k 0 < 0) (hd : 0 ≤ d) : setc (F.set k d) = setc F + 1 := by
  unfold setc
  rw [List.countP_set hk]
  have h2 : F[k] < 0 := by simpa [List.getD_eq_getElem?_getD, hk] using h
  rw [if_neg (by simp; omega), if_pos (by simp; exact hd)]
  omega
theorem getD_set {F : List Int} {k j : Nat} {d : Int} (hk : k < F.length) : (F.set k d).getD j 0 = if j = k then d else F.getD j 0 := by
  by_cases e : j = k
  · subst e
    rw [if_pos rfl, List.getD_eq_getElem?_getD, List.getElem?_set_self hk]; rfl
  · rw [if_neg e, List.getD_eq_getElem?_getD, List.getElem?_set_ne (fun h => e h.symm), ← List.getD_eq_getElem?_getD]
/-- Q is still to be gone over; x is gone over: of those that point to it, come is done. -/
structure FQ (G : List (List Int)) (to : Nat) (Q : List Int) (F : List Int) : Prop where
  len : F.length = G.length
  low : ∀ k, k < G.length → F.getD k 0 = -1 ∨ ∃ d : Nat, F.getD k 0 = (d : Int) ∧ Steps G to d k
  qin : ∀ x ∈ Q, ∃ k : Nat, x = (k : Int) ∧ k < G.length ∧ 0 ≤ F.getD k 0
  mono : Q.Pairwise fun x y => F.getD x.toNat 0 ≤ F.getD y.toNat 0
  top : ∀ x ∈ Q.head?, ∀ k, k < G.length → F.getD k 0 ≤ F.getD x.toNat 0 + 1
  shut : ∀ k p, k < G.length → p < G.length → 0 ≤ F.getD k 0 → (k : Int) ∉ Q → sees G p k = true → 0 ≤ F.getD p 0 ∧ F.getD p 0 ≤ F.getD k 0 + 1
  this : F.getD to 0 = 0
  qlen : Q.length ≤ setc F
  small : ∀ k, k < G.length → F.getD k 0 < setc F
def far0 (n to : Nat) : List Int := (List.replicate n (-1 : Int)).set to 0
theorem far0_getD {n to k : Nat} (hto : to < n) (hk : k < n) : (far0 n to).getD k 0 = if k = to then 0 else -1 := by
  unfold far0
  rw [getD_set (by simpa using hto)]
  by_cases e : k = to
  · rw [if_pos e, if_pos e]
  · rw [if_neg e, if_neg e, List.getD_eq_getElem?_getD, List.getElem?_replicate, if_pos hk]; rfl
theorem FQ.start {G : List (List Int)} {to : Nat} (hto : to < G.length) : FQ G to [(to : Int)] (far0 G.length to) := by
  have hc : setc (far0 G.length to) = 1 := by
    unfold far0
    rw [setc_set (by simpa using hto) (by rw [List.getD_eq_getElem?_getD, List.getElem?_replicate, if_pos hto]; decide) (by omega)]
    simp [setc]
  refine ⟨by simp [far0], fun k hk => ?_, fun x hx => ?_, by simp, fun x hx k hk => ?_, fun k p hk hp h0 hq => ?_, ?_, by rw [hc]; simp, fun k hk => by rw [hc, far0_getD hto hk]; split <;> omega⟩
  · rw [far0_getD hto hk]
    by_cases e : k = to
    · rw [if_pos e]; exact .inr ⟨0, rfl, by rw [e]; exact .zero⟩
    · rw [if_neg e]; exact .inl rfl
  · rw [List.mem_singleton.1 hx]
    exact ⟨to, rfl, hto, by rw [far0_getD hto hto, if_pos rfl]; omega⟩
  · simp at hx
    subst hx
    rw [Int.toNat_natCast, far0_getD hto hk, far0_getD hto hto, if_pos rfl]
    split <;> omega
  · rw [far0_getD hto hk] at h0
    by_cases e : k = to
    · exact absurd (by rw [e]; simp) hq
    · rw [if_neg e] at h0; omega
  · rw [far0_getD hto hto, if_pos rfl]
/-- One more is known. -/
theorem FQ.push {G : List (List Int)} {to : Nat} {x p : Nat} {Q F : List Int} (h : FQ G to ((x : Int) :: Q) F) (hp : p < G.length) (hs : sees G p x = true) (hn : F.getD p 0 < 0) : FQ G to ((x : Int) :: Q ++ [(p : Int)]) (F.set p (F.getD x 0 + 1)) := by
  obtain ⟨x', e, hx, hx0⟩ := h.qin (x : Int) (by simp)
  obtain rfl : x = x' := by omega
  have hpl : p < F.length := by rw [h.len]; exact hp
  have hpx : x ≠ p := fun e => by rw [e] at hx0; omega
  have hto : to ≠ p := fun e => by have := h.this; rw [e] at this; omega
  have hq : ∀ y ∈ (x : Int) :: Q, y.toNat ≠ p := fun y hy e => by
    obtain ⟨k, rfl, hk, h0⟩ := h.qin y hy
    rw [Int.toNat_natCast] at e
    rw [e] at h0; omega
  have hxv := h.low x hx
  refine ⟨by simp [h.len], fun k hk => ?_, fun y hy => ?_, ?_, fun y hy k hk => ?_, fun k q hk hq2 h0 hnq hsee => ?_, ?_, ?_, fun k hk => ?_⟩
  · rw [getD_set hpl]
    by_cases e : k = p
    · rw [if_pos e]
      rcases hxv with hxv | ⟨d, hd, hst⟩
      · omega
      · exact .inr ⟨d + 1, by rw [hd]; rfl, by rw [e]; exact .more hs hp hx hst⟩
    · rw [if_neg e]; exact h.low k hk
  · rw [List.mem_append, List.mem_singleton] at hy
    rcases hy with hy | rfl
    · obtain ⟨k, rfl, hk, h0⟩ := h.qin y hy
      exact ⟨k, rfl, hk, by rw [getD_set hpl, if_neg (fun e => hq _ hy (by simpa using e))]; exact h0⟩
    · exact ⟨p, rfl, hp, by rw [getD_set hpl, if_pos rfl]; omega⟩
  · rw [List.pairwise_append]
    refine ⟨h.mono.imp_of_mem fun {a b} ha hb hab => ?_, by simp, fun a ha b hb => ?_⟩
    · rw [getD_set hpl, getD_set hpl, if_neg (hq a ha), if_neg (hq b hb)]; exact hab
    · rw [List.mem_singleton.1 hb, Int.toNat_natCast, getD_set hpl, getD_set hpl, if_neg (hq a ha), if_pos rfl]
      obtain ⟨k, rfl, hk, h0⟩ := h.qin a ha
      have := h.top (x : Int) (by simp) k hk
      simpa using this
  · simp at hy
    subst hy
    rw [Int.toNat_natCast, getD_set hpl, getD_set hpl, if_neg hpx]
    by_cases e : k = p
    · rw [if_pos e]; omega
    · rw [if_neg e]
      have := h.top (x : Int) (by simp) k hk
      simpa using this
  · have hkp : k ≠ p := fun e => hnq (by rw [e]; simp)
    rw [getD_set hpl, if_neg hkp] at h0
    rw [getD_set hpl, getD_set hpl, if_neg hkp]
    have hnq2 : (k : Int) ∉ (x : Int) :: Q := fun hm => hnq (List.mem_append_left _ hm)
    have h3 := h.shut k q hk hq2 h0 hnq2 hsee
    by_cases e : q = p
    · rw [e] at h3; omega
    · rw [if_neg e]; exact h3
  · rw [getD_set hpl, if_neg hto]; exact h.this
  · rw [setc_set hpl hn (by omega)]
    have := h.qlen
    simp only [List.length_append, List.length_cons, List.length_nil] at this ⊢
    omega
  · rw [getD_set hpl, setc_set hpl hn (by omega)]
    have h1 := h.small k hk
    have h2 := h.small x hx
    split <;> omega
theorem FQ.pop {G : List (List Int)} {to : Nat} {x : Nat} {Q F : List Int} (h : FQ G to ((x : Int) :: Q) F) (hd : ∀ p, p < G.length → sees G p x = true → 0 ≤ F.getD p 0) : FQ G to Q F := by
  obtain ⟨x', e, hx, hx0⟩ := h.qin (x : Int) (by simp)
  obtain rfl : x = x' := by omega
  obtain ⟨hm1, hm2⟩ := List.pairwise_cons.1 h.mono
  refine ⟨h.len, h.low, fun y hy => h.qin y (List.mem_cons_of_mem _ hy), hm2, fun y hy k hk => ?_, fun k p hk hp h0 hnq hs => ?_, h.this, by have := h.qlen; simp only [List.length_cons] at this; omega, h.small⟩
  · have h1 := hm1 y (List.mem_of_mem_head? hy)
    have h2 := h.top (x : Int) (by simp) k hk
    simp only [Int.toNat_natCast] at h1 h2
    omega
  · by_cases e : k = x
    · subst e
      have h2 := h.top (k : Int) (by simp) p hp
      simp only [Int.toNat_natCast] at h2
      exact ⟨hd p hp hs, h2⟩
    · exact h.shut k p hk hp h0 (fun hm => by
        rcases List.mem_cons.1 hm with hm | hm
        · omega
        · exact hnq hm) hs
/-- What far tells. -/
structure FarOk (G : List (List Int)) (to : Nat) (F : List Int) : Prop where
  len : F.length = G.length
  lt : ∀ k, k < G.length → F.getD k 0 < G.length
  val : ∀ k, k < G.length → (F.getD k 0 = -1 ∧ ∀ d, ¬ Steps G to d k) ∨ ∃ d : Nat, F.getD k 0 = (d : Int) ∧ Steps G to d k ∧ ∀ d', Steps G to d' k → d ≤ d'
theorem FQ.done {G : List (List Int)} {to : Nat} {F : List Int} (h : FQ G to [] F) : FarOk G to F := by
  have key : ∀ d k, k < G.length → Steps G to d k → 0 ≤ F.getD k 0 ∧ F.getD k 0 ≤ d := by
    intro d
    induction d with
    | zero =>
      intro k hk hs
      cases hs
      rw [h.this]; omega
    | succ d ih =>
      intro k hk hs
      cases hs with
      | more h1 h2 h3 h4 =>
        obtain ⟨i1, i2⟩ := ih _ h3 h4
        have := h.shut _ k h3 hk i1 (by simp) h1
        omega
  refine ⟨h.len, fun k hk => by have h1 := h.small k hk; have h2 := setc_le F; have h3 := h.len; omega, fun k hk => ?_⟩
  rcases h.low k hk with h1 | ⟨d, h1, h2⟩
  · exact .inl ⟨h1, fun d hd => by have := key d k hk hd; omega⟩
  · exact .inr ⟨d, h1, h2, fun d' hd' => by have := key d' k hk hd'; omega⟩
end Go.Proofs.Ytkeiphmhckkniaa
