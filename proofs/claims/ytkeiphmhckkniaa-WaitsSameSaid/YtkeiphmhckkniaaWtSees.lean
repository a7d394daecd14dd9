/-
  Graphs that point the same way, and graphs turned about: plain Lean.
  No condition.
-/
import Derived.Test.YtkeiphmhckkniaaWtRingLP
import Derived.Test.YtkeiphmhckkniaaWtKit
namespace Go.Proofs.Ytkeiphmhckkniaa
open Go Go.RowKit

/-- They point to the same nodes. -/
structure SameS (G H : List (List Int)) : Prop where
  len : H.length = G.length
  sees : ∀ i j, i < G.length → j < G.length → sees H i j = sees G i j
theorem SameS.leads {G H : List (List Int)} (h : SameS G H) {a b : Nat} (hl : Leads G a b) : Leads H a b := by
  induction hl with
  | one h1 h2 h3 => exact Leads.one (by rw [h.sees _ _ h2 h3]; exact h1) (by rw [h.len]; exact h2) (by rw [h.len]; exact h3)
  | more h1 h2 h3 ih => exact Leads.more ih (by rw [h.sees _ _ h1.lt h3]; exact h2) (by rw [h.len]; exact h3)
theorem SameS.symm {G H : List (List Int)} (h : SameS G H) : SameS H G := ⟨h.len.symm, fun i j hi hj => by rw [h.len] at hi hj; exact (h.sees i j hi hj).symm⟩
theorem SameS.way {G H : List (List Int)} (h : SameS G H) (a b : Nat) : wayP H a b = wayP G a b := by
  rw [Bool.eq_iff_iff, wayP_iff, wayP_iff]
  exact ⟨h.symm.leads, h.leads⟩
theorem SameS.reach {G H : List (List Int)} (h : SameS G H) (s : Nat) : reachP H s = reachP G s := by
  unfold reachP
  rw [h.len]
  congr 1
  exact List.filter_congr fun t _ => h.way s t
theorem SameS.parts {G H : List (List Int)} (h : ∀ a b, wayP H a b = wayP G a b) (hl : H.length = G.length) : partsP H = partsP G := by
  have he : ∀ a b, eqvB H a b = eqvB G a b := fun a b => by unfold eqvB; rw [h, h]
  have hd : ∀ m k, doneB H m k = doneB G m k := fun m k => by unfold doneB; congr 1; funext j; exact he j k
  unfold partsP partsTo partOf
  rw [hl]
  congr 1
  · funext i; congr 1; congr 1; funext k; exact he i k
  · congr 1; funext i; rw [hd]
theorem SameS.firstTo {f g : Nat → List Nat} : ∀ {m : Nat}, (∀ k, k < m → f k = g k) → firstTo f m = firstTo g m
  | 0, _ => rfl
  | m + 1, h => by
    unfold Go.Proofs.Ytkeiphmhckkniaa.firstTo
    rw [SameS.firstTo fun k hk => h k (by omega), h m (by omega)]
theorem SameS.rings {G H : List (List Int)} (h : SameS G H) {s : Nat} (hs : s < G.length) : ∀ {f : Nat} {l : List Nat} {a : Nat}, a < G.length → ringsP H s f l a = ringsP G s f l a
  | 0, l, a, ha => by unfold ringsP; rw [h.sees a s ha hs]
  | f + 1, l, a, ha => by
    unfold ringsP
    rw [h.len]
    refine SameS.firstTo fun b hb => ?_
    rw [h.sees a b ha hb, SameS.rings h hs hb]
theorem SameS.ring {G H : List (List Int)} (h : SameS G H) {s : Nat} (hs : s < G.length) : ringP H s = ringP G s := by
  unfold ringP
  rw [h.len]
  exact SameS.firstTo fun f _ => h.rings hs hs
theorem SameS.next {G H : List (List Int)} (h : SameS G H) (o : List Nat) : nextO H o = nextO G o := by
  unfold nextO
  rw [h.len]
  refine List.filter_congr fun i hi => ?_
  congr 1
  rw [Bool.eq_iff_iff, List.all_eq_true, List.all_eq_true]
  refine forall_congr' fun k => forall_congr' fun hk => ?_
  rw [h.sees k i (List.mem_range.1 hk) (List.mem_range.1 hi)]
theorem SameS.order {G H : List (List Int)} (h : SameS G H) : orderP H [] = orderP G [] := by
  have key : ∀ f o, orderGo H [] f o = orderGo G [] f o := by
    intro f
    induction f with
    | zero => intro o; rfl
    | succ f ih => intro o; unfold orderGo; rw [h.next o]; split; rfl; exact ih _
  unfold orderP
  rw [h.len]; exact key _ _
theorem SameS.ok {G H : List (List Int)} (h : SameS G H) : okP H [] = okP G [] := by unfold okP; rw [h.order, h.len]

/-- H is G turned about. -/
structure TurnS (G H : List (List Int)) : Prop where
  len : H.length = G.length
  sees : ∀ i j, i < G.length → j < G.length → sees H j i = sees G i j
theorem TurnS.symm {G H : List (List Int)} (h : TurnS G H) : TurnS H G := ⟨h.len.symm, fun i j hi hj => by rw [h.len] at hi hj; exact (h.sees j i hj hi).symm⟩
theorem TurnS.leads {G H : List (List Int)} (h : TurnS G H) {a b : Nat} (hl : Leads G a b) : Leads H b a := by
  induction hl with
  | one h1 h2 h3 => exact Leads.one (by rw [h.sees _ _ h2 h3]; exact h1) (by rw [h.len]; exact h3) (by rw [h.len]; exact h2)
  | more h1 h2 h3 ih => exact (Leads.one (by rw [h.sees _ _ h1.lt h3]; exact h2) (by rw [h.len]; exact h3) (by rw [h.len]; exact h1.lt)).trans ih
theorem TurnS.way {G H : List (List Int)} (h : TurnS G H) (a b : Nat) : wayP H b a = wayP G a b := by
  rw [Bool.eq_iff_iff, wayP_iff, wayP_iff]
  exact ⟨h.symm.leads, h.leads⟩
theorem TurnS.parts {G H : List (List Int)} (h : TurnS G H) : partsP H = partsP G := by
  have he : ∀ a b, eqvB H a b = eqvB G a b := fun a b => by unfold eqvB; rw [h.way, h.way, Bool.and_comm]
  have hd : ∀ m k, doneB H m k = doneB G m k := fun m k => by unfold doneB; congr 1; funext j; exact he j k
  unfold partsP partsTo partOf
  rw [h.len]
  congr 1
  · funext i; congr 1; congr 1; funext k; exact he i k
  · congr 1; funext i; rw [hd]
theorem TurnS.ok {G H : List (List Int)} (h : TurnS G H) : okP H [] = okP G [] := by
  rw [ok_acyc, ok_acyc]
  unfold acycP
  rw [h.len]
  congr 1
  funext i
  rw [h.way]
theorem Steps.snoc {G : List (List Int)} {b d a c : Nat} (h : Steps G b d a) (hs : sees G b c = true) (hb : b < G.length) (hc : c < G.length) : Steps G c (d + 1) a := by
  induction h with
  | zero => exact .more hs hb hc .zero
  | more h1 h2 h3 h4 ih => exact .more h1 h2 h3 ih
theorem TurnS.steps {G H : List (List Int)} (h : TurnS G H) {b d a : Nat} (hs : Steps G b d a) : Steps H a d b := by
  induction hs with
  | zero => exact .zero
  | more h1 h2 h3 h4 ih => exact ih.snoc (by rw [h.sees _ _ h2 h3]; exact h1) (by rw [h.len]; exact h3) (by rw [h.len]; exact h2)
/-- How long a ring is. -/
theorem ring_size {G : List (List Int)} {s : Nat} {F : List Int} (h : FarOk G s F) (hs : s < G.length) : (∃ f : Nat, (ringP G s).length = f + 1 ∧ Steps G s (f + 1) s ∧ ∀ d, Steps G s (d + 1) s → f ≤ d) ∨ ((ringP G s).length = 0 ∧ ∀ d, ¬ Steps G s (d + 1) s) := by
  rcases Decidable.em (ringP G s = []) with he | he
  · refine .inr ⟨by rw [he]; rfl, fun d hd => ?_⟩
    have h1 := ring_iff h hs
    rw [he] at h1
    have h2 : wayP G s s = true := wayP_iff.2 hd.leads
    rw [h2] at h1
    simp at h1
  · have hp : 0 < (ringP G s).length := by cases hr : ringP G s with | nil => exact absurd hr he | cons x l => simp
    rcases bestP_spec (F := F) _ (ofP G s) rfl (fun x hx => (ofP_in x hx).1) (ofP_inc G s) with ⟨h1, h2⟩ | ⟨h1, h2, h3⟩
    · exfalso
      refine he (ring_none h hs fun b hb hsb => ?_)
      have := h2 _ ((sees_ofP hb).2 hsb)
      simpa using this
    · obtain ⟨c, e, hc, hsc⟩ := ofP_nodes h1
      rw [e] at h2 h3
      simp only [Int.toNat_natCast] at h2 h3
      have hnx : Nx G F s (F.getD c 0).toNat := ⟨⟨c, hc, hsc, by omega⟩, fun x hx hsx => by
        have := h3 _ ((sees_ofP hx).2 hsx)
        simp only [Int.toNat_natCast] at this
        omega⟩
      have hlt := h.lt c hc
      have hr := ring_some h hs (by omega) hnx
      have hgl : ∀ f a, (goP G F f a).length = f := by
        intro f
        induction f with
        | zero => intro a; rfl
        | succ f ih => intro a; unfold goP; rw [List.length_cons, ih]
      refine .inl ⟨(F.getD c 0).toNat, by rw [hr, List.length_cons, hgl], ?_, fun d hd => ?_⟩
      · rcases h.val c hc with ⟨h4, _⟩ | ⟨d, h4, h5, _⟩
        · omega
        · have e2 : (F.getD c 0).toNat = d := by omega
          rw [e2]; exact .more hsc hs hc h5
      · cases hd with
        | more k1 k2 k3 k4 =>
          have h5 := h.le k3 k4
          have h6 := hnx.low _ k3 k1
          omega
theorem TurnS.size {G H : List (List Int)} (h : TurnS G H) {s : Nat} (hs : s < G.length) {F E : List Int} (hf : FarOk G s F) (he : FarOk H s E) : (ringP H s).length = (ringP G s).length := by
  have hs2 : s < H.length := by rw [h.len]; exact hs
  rcases ring_size hf hs with ⟨f, h1, h2, h3⟩ | ⟨h1, h2⟩
  · rcases ring_size he hs2 with ⟨g, k1, k2, k3⟩ | ⟨k1, k2⟩
    · have := h3 _ (h.symm.steps k2)
      have := k3 _ (h.steps h2)
      omega
    · exact absurd (h.steps h2) (k2 f)
  · rcases ring_size he hs2 with ⟨g, k1, k2, k3⟩ | ⟨k1, k2⟩
    · exact absurd (h.symm.steps k2) (h2 g)
    · omega
/-- Turned about, step by step. -/
def tput (n i : Nat) (B : List (List Int)) (y : Int) : List (List Int) := if 0 ≤ y ∧ y < n then bput i B y else B
def trow (n i : Nat) (xs : List Int) (B : List (List Int)) : List (List Int) := xs.foldl (tput n i) B
def turnP (G : List (List Int)) (m : Nat) : List (List Int) := (List.range m).foldl (fun B i => trow G.length i (G.getD i []) B) (List.replicate G.length [])
theorem turnP_succ (G : List (List Int)) (m : Nat) : turnP G (m + 1) = trow G.length m (G.getD m []) (turnP G m) := by simp [turnP, List.range_succ]
theorem trow_snoc (n i : Nat) (xs : List Int) (y : Int) (B : List (List Int)) : trow n i (xs ++ [y]) B = tput n i (trow n i xs B) y := by simp [trow]
theorem tput_len (n i : Nat) (B : List (List Int)) (y : Int) : (tput n i B y).length = B.length := by unfold tput; split; exact bput_len i B y; rfl
theorem trow_len (n i : Nat) : ∀ (xs : List Int) (B : List (List Int)), (trow n i xs B).length = B.length
  | [], _ => rfl
  | y :: xs, B => by show (trow n i xs (tput n i B y)).length = _; rw [trow_len n i xs, tput_len]
theorem turnP_len (G : List (List Int)) (m : Nat) : (turnP G m).length = G.length := by
  induction m with
  | zero => simp [turnP]
  | succ m ih => rw [turnP_succ, trow_len, ih]
theorem mem_tput {n i : Nat} {B : List (List Int)} {y x : Int} {j : Nat} (hB : B.length = n) (hj : j < n) : x ∈ (tput n i B y).getD j [] ↔ x ∈ B.getD j [] ∨ (y = (j : Int) ∧ x = (i : Int)) := by
  unfold tput
  by_cases h : 0 ≤ y ∧ y < n
  · rw [if_pos h, bput_getD (by rw [hB]; exact h), List.mem_append]
    by_cases e : (j : Int) = y
    · rw [if_pos e, List.mem_singleton]
      exact ⟨fun h => h.imp id fun h => ⟨e.symm, h⟩, fun h => h.imp id fun h => h.2⟩
    · rw [if_neg e]
      exact ⟨fun h => h.elim .inl (fun h => by cases h), fun h => h.elim .inl (fun h => absurd h.1.symm e)⟩
  · rw [if_neg h]
    exact ⟨.inl, fun h2 => h2.elim id (fun h2 => by omega)⟩
theorem mem_trow {n i : Nat} {x : Int} {j : Nat} (hj : j < n) : ∀ {xs : List Int} {B : List (List Int)}, B.length = n → (x ∈ (trow n i xs B).getD j [] ↔ x ∈ B.getD j [] ∨ ((j : Int) ∈ xs ∧ x = (i : Int)))
  | [], B, _ => by simp [trow]
  | y :: xs, B, hB => by
    show x ∈ (trow n i xs (tput n i B y)).getD j [] ↔ _
    rw [mem_trow hj (by rw [tput_len]; exact hB), mem_tput hB hj, List.mem_cons]
    constructor
    · rintro ((h | h) | h)
      · exact .inl h
      · exact .inr ⟨.inl h.1.symm, h.2⟩
      · exact .inr ⟨.inr h.1, h.2⟩
    · rintro (h | ⟨h | h, h2⟩)
      · exact .inl (.inl h)
      · exact .inl (.inr ⟨h.symm, h2⟩)
      · exact .inr ⟨h, h2⟩
theorem mem_turn {G : List (List Int)} {x : Int} {j : Nat} (hj : j < G.length) (m : Nat) : x ∈ (turnP G m).getD j [] ↔ ∃ i : Nat, i < m ∧ x = (i : Int) ∧ (j : Int) ∈ G.getD i [] := by
  induction m with
  | zero =>
    have : (turnP G 0).getD j [] = [] := by simp [turnP, List.getD_eq_getElem?_getD, hj]
    rw [this]
    exact ⟨fun h => (by cases h), fun ⟨i, h, _⟩ => (by omega)⟩
  | succ m ih =>
    rw [turnP_succ, mem_trow hj (turnP_len G m), ih]
    constructor
    · rintro (⟨i, h1, h2, h3⟩ | ⟨h1, h2⟩)
      · exact ⟨i, by omega, h2, h3⟩
      · exact ⟨m, by omega, h2, h1⟩
    · rintro ⟨i, h1, h2, h3⟩
      by_cases e : i = m
      · subst e; exact .inr ⟨h3, h2⟩
      · exact .inl ⟨i, by omega, h2, h3⟩
theorem turn_is (G : List (List Int)) : TurnS G (turnP G G.length) := ⟨turnP_len G _, fun i j hi hj => by
  unfold sees
  rw [Bool.eq_iff_iff, List.contains_iff_mem, List.contains_iff_mem, mem_turn hj]
  exact ⟨fun ⟨k, _, e, h⟩ => by rw [show i = k by omega]; exact h, fun h => ⟨i, hi, rfl, h⟩⟩⟩
theorem tput_row {n i N j : Nat} {B : List (List Int)} {y : Int} (h : ∀ k, (B.getD k []).length ≤ N) : ((tput n i B y).getD j []).length ≤ N + 1 := by
  unfold tput
  split
  · have := brow_row (i := i) (k := j) (N := N) [y] B h
    simpa [brow] using this
  · have := h j; omega
theorem trow_row {n i : Nat} : ∀ (xs : List Int) {N : Nat} {B : List (List Int)}, (∀ k, (B.getD k []).length ≤ N) → ∀ k, ((trow n i xs B).getD k []).length ≤ N + xs.length
  | [], N, B, h, k => h k
  | y :: xs, N, B, h, k => by
    have := trow_row (n := n) (i := i) xs (N := N + 1) (B := tput n i B y) (fun k => tput_row h) k
    show ((trow n i xs (tput n i B y)).getD k []).length ≤ _
    simp only [List.length_cons]; omega
theorem turnP_row {G : List (List Int)} {b : Nat} (hb : ∀ xs ∈ G, xs.length ≤ b) (m : Nat) : ∀ k, ((turnP G m).getD k []).length ≤ m * b := by
  induction m with
  | zero => intro k; simp [turnP, List.getD_eq_getElem?_getD, List.getElem?_replicate]; split <;> simp
  | succ m ih =>
    intro k
    rw [turnP_succ]
    have h1 := trow_row (n := G.length) (i := m) (G.getD m []) ih k
    have h2 : (G.getD m []).length ≤ b := by
      rw [List.getD_eq_getElem?_getD]
      cases hg : G[m]? with
      | none => simp
      | some xs => exact hb xs (List.mem_of_getElem? hg)
    rw [Nat.succ_mul]; omega
end Go.Proofs.Ytkeiphmhckkniaa
