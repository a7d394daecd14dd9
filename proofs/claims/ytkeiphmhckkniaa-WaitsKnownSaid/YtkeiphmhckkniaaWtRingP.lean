/-
  The first of the shortest rings from a node: gone over in depth, and step by step to who is nearest: plain Lean.
  No condition.
-/
import Derived.Test.YtkeiphmhckkniaaWtFarP
namespace Go.Proofs.Ytkeiphmhckkniaa
open Go Go.RowKit

/-- The first of them that is not empty. -/
def firstTo (f : Nat → List Nat) : Nat → List Nat
  | 0 => []
  | m + 1 => if (firstTo f m).isEmpty then f m else firstTo f m
theorem firstTo_nil {f : Nat → List Nat} : ∀ {m : Nat}, (∀ k, k < m → f k = []) → firstTo f m = []
  | 0, _ => rfl
  | m + 1, h => by
    unfold firstTo
    rw [firstTo_nil fun k hk => h k (by omega)]
    simp [h m (by omega)]
theorem firstTo_at {f : Nat → List Nat} {b : Nat} (hb : f b ≠ []) (h : ∀ k, k < b → f k = []) : ∀ {m : Nat}, b < m → firstTo f m = f b
  | m + 1, hm => by
    unfold firstTo
    by_cases e : b = m
    · subst e
      rw [firstTo_nil h]
      rfl
    · rw [firstTo_at hb h (by omega)]
      rw [if_neg (by simpa using hb)]
theorem firstTo_mem {f : Nat → List Nat} : ∀ {m : Nat}, firstTo f m ≠ [] → ∃ k, k < m ∧ firstTo f m = f k ∧ ∀ j, j < k → f j = []
  | 0, h => absurd rfl h
  | m + 1, h => by
    unfold firstTo at h ⊢
    by_cases e : firstTo f m = []
    · rw [e] at h ⊢
      refine ⟨m, by omega, rfl, fun j hj => ?_⟩
      rcases Decidable.em (f j = []) with h2 | h2
      · exact h2
      · exfalso
        have key : ∀ n, j < n → firstTo f n ≠ [] := by
          intro n
          induction n with
          | zero => intro h; omega
          | succ n ih =>
            intro hn
            unfold firstTo
            by_cases e2 : j = n
            · subst e2
              by_cases e3 : firstTo f j = []
              · rw [e3]; exact h2
              · rw [if_neg (by simpa using e3)]; exact e3
            · have := ih (by omega)
              rw [if_neg (by simpa using this)]; exact this
        exact key m hj e
    · rw [if_neg (by simpa using e)] at h ⊢
      obtain ⟨k, hk, h1, h2⟩ := firstTo_mem (m := m) e
      exact ⟨k, by omega, h1, h2⟩
/-- The rings of so many nodes more that go on from a way: the first one. -/
def ringsP (G : List (List Int)) (s : Nat) : Nat → List Nat → Nat → List Nat
  | 0, l, a => if sees G a s then l else []
  | f + 1, l, a => firstTo (fun b => if l.contains b || !sees G a b then [] else ringsP G s f (l ++ [b]) b) G.length
def ringP (G : List (List Int)) (s : Nat) : List Nat := firstTo (fun f => ringsP G s f [s] s) G.length
theorem rings_steps {G : List (List Int)} {s : Nat} (hs : s < G.length) : ∀ {f : Nat} {l : List Nat} {a : Nat}, a < G.length → ringsP G s f l a ≠ [] → Steps G s (f + 1) a
  | 0, l, a, ha, h => by
    unfold ringsP at h
    split at h
    · rename_i hh
      exact .more hh ha hs .zero
    · exact absurd rfl h
  | f + 1, l, a, ha, h => by
    unfold ringsP at h
    obtain ⟨b, hb, e, -⟩ := firstTo_mem h
    rw [e] at h
    split at h
    · exact absurd rfl h
    · rename_i hh
      simp only [Bool.or_eq_true, not_or, Bool.not_eq_true, Bool.not_eq_false'] at hh
      exact .more hh.2 ha hb (rings_steps hs hb h)
/-- The first one that is nearest. -/
def bestStep (F : List Int) (b k : Int) : Int := if 0 ≤ F.getD k.toNat 0 ∧ (b < 0 ∨ F.getD k.toNat 0 < F.getD b.toNat 0) then k else b
def bestP (F : List Int) (l : List Int) : Int := l.foldl (bestStep F) (-1)
theorem bestP_snoc (F : List Int) (l : List Int) (x : Int) : bestP F (l ++ [x]) = bestStep F (bestP F l) x := by simp [bestP]
theorem bestP_spec {F : List Int} : ∀ (n : Nat) (l : List Int), l.length = n → (∀ x ∈ l, 0 ≤ x) → Inc l → (bestP F l = -1 ∧ ∀ x ∈ l, F.getD x.toNat 0 < 0) ∨ (bestP F l ∈ l ∧ 0 ≤ F.getD (bestP F l).toNat 0 ∧ ∀ x ∈ l, F.getD x.toNat 0 < 0 ∨ F.getD (bestP F l).toNat 0 < F.getD x.toNat 0 ∨ (F.getD (bestP F l).toNat 0 = F.getD x.toNat 0 ∧ bestP F l ≤ x)) := by
  intro n
  induction n with
  | zero =>
    intro l hl _ _
    rw [List.eq_nil_of_length_eq_zero hl]
    exact .inl ⟨rfl, fun x hx => by cases hx⟩
  | succ n ih =>
    intro l hl h0 hi
    rcases List.eq_nil_or_concat l with rfl | ⟨m, x, rfl⟩
    · exact .inl ⟨rfl, fun x hx => by cases hx⟩
    · rw [List.concat_eq_append] at hl h0 hi ⊢
      unfold Inc at hi
      rw [List.pairwise_append] at hi
      have hx0 := h0 x (by simp)
      have ih := ih m (by simpa using hl) (fun y hy => h0 y (by simp [hy])) hi.1
      rw [bestP_snoc]
      unfold bestStep
      rcases ih with ⟨h1, h2⟩ | ⟨h1, h2, h3⟩
      · rw [h1]
        by_cases hp : 0 ≤ F.getD x.toNat 0
        · rw [if_pos ⟨hp, .inl (by omega)⟩]
          refine .inr ⟨by simp, hp, fun y hy => ?_⟩
          rcases List.mem_append.1 hy with hy | hy
          · exact .inl (h2 y hy)
          · rw [List.mem_singleton.1 hy]; exact .inr (.inr ⟨rfl, Int.le_refl _⟩)
        · rw [if_neg (fun h => hp h.1)]
          refine .inl ⟨rfl, fun y hy => ?_⟩
          rcases List.mem_append.1 hy with hy | hy
          · exact h2 y hy
          · rw [List.mem_singleton.1 hy]; omega
      · have hb0 := h0 _ (List.mem_append_left _ h1)
        have hbx := hi.2.2 _ h1 x (by simp)
        by_cases hp : 0 ≤ F.getD x.toNat 0 ∧ (bestP F m < 0 ∨ F.getD x.toNat 0 < F.getD (bestP F m).toNat 0)
        · rw [if_pos hp]
          refine .inr ⟨by simp, hp.1, fun y hy => ?_⟩
          rcases List.mem_append.1 hy with hy | hy
          · have := h3 y hy
            omega
          · rw [List.mem_singleton.1 hy]; exact .inr (.inr ⟨rfl, Int.le_refl _⟩)
        · rw [if_neg hp]
          refine .inr ⟨List.mem_append_left _ h1, h2, fun y hy => ?_⟩
          rcases List.mem_append.1 hy with hy | hy
          · exact h3 y hy
          · rw [List.mem_singleton.1 hy]; omega
/-- The nearest that a points to are f steps away. -/
structure Nx (G : List (List Int)) (F : List Int) (a f : Nat) : Prop where
  is : ∃ b, b < G.length ∧ sees G a b = true ∧ F.getD b 0 = (f : Int)
  low : ∀ b, b < G.length → sees G a b = true → F.getD b 0 < 0 ∨ (f : Int) ≤ F.getD b 0
theorem ofP_nodes {G : List (List Int)} {a : Nat} {x : Int} (hx : x ∈ ofP G a) : ∃ b : Nat, x = (b : Int) ∧ b < G.length ∧ sees G a b = true := by
  have h := ofP_in x hx
  refine ⟨x.toNat, by omega, by omega, ?_⟩
  have e : ((x.toNat : Nat) : Int) = x := by omega
  exact (sees_ofP (by omega)).1 (by rw [e]; exact hx)
/-- What the greedy step picks. -/
theorem Nx.best {G : List (List Int)} {F : List Int} {a f : Nat} (h : Nx G F a f) : ∃ b : Nat, bestP F (ofP G a) = (b : Int) ∧ b < G.length ∧ sees G a b = true ∧ F.getD b 0 = (f : Int) ∧ ∀ c, c < b → sees G a c = true → F.getD c 0 < 0 ∨ (f : Int) < F.getD c 0 := by
  obtain ⟨b0, hb0, hs0, hf0⟩ := h.is
  have hm0 : (b0 : Int) ∈ ofP G a := (sees_ofP hb0).2 hs0
  rcases bestP_spec (F := F) _ (ofP G a) rfl (fun x hx => (ofP_in x hx).1) (ofP_inc G a) with ⟨_, h2⟩ | ⟨h1, h2, h3⟩
  · have := h2 _ hm0
    rw [Int.toNat_natCast] at this; omega
  · obtain ⟨b, e, hb, hs⟩ := ofP_nodes h1
    rw [e] at h2 h3
    simp only [Int.toNat_natCast] at h2 h3
    have hl := h.low b hb hs
    have h4 := h3 _ hm0
    simp only [Int.toNat_natCast] at h4
    have hfb : F.getD b 0 = (f : Int) := by omega
    refine ⟨b, e, hb, hs, hfb, fun c hc hsc => ?_⟩
    have h5 := h3 _ ((sees_ofP (by omega)).2 hsc)
    simp only [Int.toNat_natCast] at h5
    omega
theorem FarOk.zero {G : List (List Int)} {s : Nat} {F : List Int} (h : FarOk G s F) (hs : s < G.length) : F.getD s 0 = 0 := by
  rcases h.val s hs with ⟨_, h2⟩ | ⟨d, h1, _, h3⟩
  · exact absurd Steps.zero (h2 0)
  · have := h3 0 .zero; omega
theorem FarOk.only {G : List (List Int)} {s : Nat} {F : List Int} (h : FarOk G s F) {b : Nat} (hb : b < G.length) (e : F.getD b 0 = 0) : b = s := by
  rcases h.val b hb with ⟨h1, _⟩ | ⟨d, h1, h2, _⟩
  · omega
  · obtain rfl : d = 0 := by omega
    cases h2; rfl
theorem FarOk.le {G : List (List Int)} {s : Nat} {F : List Int} (h : FarOk G s F) {b d : Nat} (hb : b < G.length) (hd : Steps G s d b) : 0 ≤ F.getD b 0 ∧ F.getD b 0 ≤ d := by
  rcases h.val b hb with ⟨_, h2⟩ | ⟨d', h1, _, h3⟩
  · exact absurd hd (h2 d)
  · have := h3 d hd; omega
theorem FarOk.nx {G : List (List Int)} {s : Nat} {F : List Int} (h : FarOk G s F) {b f : Nat} (hb : b < G.length) (e : F.getD b 0 = ((f + 1 : Nat) : Int)) : Nx G F b f := by
  rcases h.val b hb with ⟨h1, _⟩ | ⟨d, h1, h2, h3⟩
  · omega
  · obtain rfl : d = f + 1 := by omega
    have low : ∀ c, c < G.length → sees G b c = true → F.getD c 0 < 0 ∨ (f : Int) ≤ F.getD c 0 := fun c hc hsc => by
      rcases h.val c hc with ⟨g1, _⟩ | ⟨d2, g1, g2, _⟩
      · exact .inl (by omega)
      · have := h3 (d2 + 1) (.more hsc hb hc g2)
        exact .inr (by omega)
    cases h2 with
    | more k1 k2 k3 k4 =>
      refine ⟨⟨_, k3, k1, ?_⟩, low⟩
      have := h.le k3 k4
      have := low _ k3 k1
      omega
/-- Step by step to who is nearest. -/
def goP (G : List (List Int)) (F : List Int) : Nat → Nat → List Nat
  | 0, _ => []
  | f + 1, a => (bestP F (ofP G a)).toNat :: goP G F f (bestP F (ofP G a)).toNat
theorem rings_go {G : List (List Int)} {s : Nat} {F : List Int} (h : FarOk G s F) (hs : s < G.length) : ∀ {f : Nat} {l : List Nat} {a : Nat}, a < G.length → l ≠ [] → Nx G F a f → (∀ x ∈ l, x = s ∨ (f : Int) < F.getD x 0) → ringsP G s f l a = l ++ goP G F f a
  | 0, l, a, ha, hl, hn, _ => by
    obtain ⟨b, hb, hsb, hfb⟩ := hn.is
    obtain rfl := h.only hb hfb
    unfold ringsP goP
    rw [if_pos hsb, List.append_nil]
  | f + 1, l, a, ha, hl, hn, hx => by
    obtain ⟨b, e, hb, hsb, hfb, hlow⟩ := hn.best
    have hnl : l.contains b = false := by
      rw [← Bool.not_eq_true, List.contains_iff_mem]
      intro hm
      rcases hx b hm with rfl | h2
      · have := h.zero hs; omega
      · omega
    have hrec := rings_go h hs (f := f) (l := l ++ [b]) (a := b) hb (by simp) (h.nx hb hfb) fun x hm => by
      rcases List.mem_append.1 hm with hm | hm
      · rcases hx x hm with h2 | h2
        · exact .inl h2
        · exact .inr (by omega)
      · rw [List.mem_singleton.1 hm]; exact .inr (by omega)
    have hfun : (if (l.contains b || !sees G a b) = true then [] else ringsP G s f (l ++ [b]) b) = ringsP G s f (l ++ [b]) b := by
      rw [hnl, hsb]; rfl
    unfold ringsP goP
    rw [firstTo_at (b := b) (by rw [hfun, hrec]; simp) (fun k hk => ?_) hb, hfun, hrec, e]
    · simp
    · by_cases hc : (l.contains k || !sees G a k) = true
      · rw [if_pos hc]
      · rw [if_neg hc]
        simp only [Bool.or_eq_true, not_or, Bool.not_eq_true, Bool.not_eq_false'] at hc
        rcases Decidable.em (ringsP G s f (l ++ [k]) k = []) with h2 | h2
        · exact h2
        · have h3 := h.le (by omega) (rings_steps hs (by omega) h2)
          have h4 := hlow k hk hc.2
          omega
/-- How it ends. -/
theorem ring_none {G : List (List Int)} {s : Nat} {F : List Int} (h : FarOk G s F) (hs : s < G.length) (hn : ∀ b, b < G.length → sees G s b = true → F.getD b 0 < 0) : ringP G s = [] := by
  unfold ringP
  refine firstTo_nil fun f _ => ?_
  rcases Decidable.em (ringsP G s f [s] s = []) with h2 | h2
  · exact h2
  · have h3 := rings_steps hs hs h2
    cases h3 with
    | more k1 k2 k3 k4 =>
      have := h.le k3 k4
      have := hn _ k3 k1
      omega
theorem ring_some {G : List (List Int)} {s : Nat} {F : List Int} (h : FarOk G s F) (hs : s < G.length) {f : Nat} (hf : f < G.length) (hn : Nx G F s f) : ringP G s = s :: goP G F f s := by
  have h1 := rings_go h hs (l := [s]) hs (by simp) hn (fun x hx => .inl (List.mem_singleton.1 hx))
  unfold ringP
  rw [firstTo_at (b := f) (by rw [h1]; simp) (fun k hk => ?_) hf, h1]
  · rfl
  · rcases Decidable.em (ringsP G s k [s] s = []) with h2 | h2
    · exact h2
    · have h3 := rings_steps hs hs h2
      cases h3 with
      | more k1 k2 k3 k4 =>
        have := h.le k3 k4
        have := hn.low _ k3 k1
        omega
/-- A round of the program: where it stands. -/
structure RingAt (G : List (List Int)) (s : Nat) (F : List Int) (a : Nat) (out : List Nat) : Prop where
  lt : a < G.length
  len : out.length ≤ G.length
  at' : (out = [s] ∧ a = s) ∨ ∃ f : Nat, F.getD a 0 = ((f + 1 : Nat) : Int) ∧ out.length + f ≤ G.length ∧ ringP G s = out ++ goP G F f a
theorem RingAt.start {G : List (List Int)} {s : Nat} {F : List Int} (hs : s < G.length) : RingAt G s F s [s] := ⟨hs, by simp; omega, .inl ⟨rfl, rfl⟩⟩
/-- What it does next. -/
theorem RingAt.next {G : List (List Int)} {s : Nat} {F : List Int} (h : FarOk G s F) (hs : s < G.length) {a : Nat} {out : List Nat} (hr : RingAt G s F a out) :
    (bestP F (ofP G a) = -1 ∧ ringP G s = []) ∨ (bestP F (ofP G a) = (s : Int) ∧ ringP G s = out) ∨ ∃ b : Nat, bestP F (ofP G a) = (b : Int) ∧ b ≠ s ∧ RingAt G s F b (out ++ [b]) ∧ out.length + 1 ≤ G.length := by
  rcases hr.at' with ⟨rfl, rfl⟩ | ⟨f, hf, hl, hg⟩
  · rcases bestP_spec (F := F) _ (ofP G a) rfl (fun x hx => (ofP_in x hx).1) (ofP_inc G a) with ⟨h1, h2⟩ | ⟨h1, h2, h3⟩
    · exact .inl ⟨h1, ring_none h hs fun b hb hsb => by have := h2 _ ((sees_ofP hb).2 hsb); simpa using this⟩
    · obtain ⟨b, e, hb, hsb⟩ := ofP_nodes h1
      rw [e] at h2 h3
      simp only [Int.toNat_natCast] at h2 h3
      have hbl := h.lt b hb
      have hnx : Nx G F a (F.getD b 0).toNat := ⟨⟨b, hb, hsb, by omega⟩, fun c hc hsc => by
        have := h3 _ ((sees_ofP hc).2 hsc)
        simp only [Int.toNat_natCast] at this
        omega⟩
      have hr := ring_some h hs (by omega) hnx
      by_cases hz : F.getD b 0 = 0
      · obtain rfl := h.only hb hz
        refine .inr (.inl ⟨e, ?_⟩)
        rw [hr, hz]; rfl
      · obtain ⟨f, hf⟩ : ∃ f : Nat, F.getD b 0 = ((f + 1 : Nat) : Int) := ⟨(F.getD b 0).toNat - 1, by omega⟩
        have hbs : b ≠ a := fun e2 => by rw [e2, h.zero hs] at hz; exact hz rfl
        have hn2 : 2 ≤ G.length := by omega
        refine .inr (.inr ⟨b, e, hbs, ⟨hb, by simpa using hn2, .inr ⟨f, hf, by simp; omega, ?_⟩⟩, by simpa using hn2⟩)
        rw [hr, hf, Int.toNat_natCast]
        conv => lhs; unfold goP
        rw [e]; rfl
  · have hnx := h.nx hr.lt hf
    obtain ⟨b, e, hb, hsb, hfb, -⟩ := hnx.best
    cases f with
    | zero =>
      obtain rfl := h.only hb hfb
      refine .inr (.inl ⟨e, ?_⟩)
      rw [hg]; simp [goP]
    | succ f =>
      have hbs : b ≠ s := fun e2 => by rw [e2, h.zero hs] at hfb; omega
      refine .inr (.inr ⟨b, e, hbs, ⟨hb, by simp; omega, .inr ⟨f, hfb, by simp; omega, ?_⟩⟩, by omega⟩)
      rw [hg]
      conv => lhs; unfold goP
      rw [e]; simp
end Go.Proofs.Ytkeiphmhckkniaa
