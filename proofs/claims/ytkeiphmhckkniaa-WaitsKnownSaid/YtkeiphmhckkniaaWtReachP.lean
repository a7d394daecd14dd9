/-
  What a node reaches, gone over in breadth: plain Lean.
  No condition.
-/
import Derived.Test.YtkeiphmhckkniaaWtOfW
import Derived.Test.YtkeiphmhckkniaaHsWay
namespace Go.Proofs.Ytkeiphmhckkniaa
open Go Go.RowKit

theorem sees_ofP {G : List (List Int)} {a b : Nat} (hb : b < G.length) : (b : Int) ∈ ofP G a ↔ sees G a b = true := by
  rw [mem_ofP]
  unfold sees
  rw [List.contains_iff_mem]
  exact ⟨fun h => h.1, fun h => ⟨h, by omega, by omega⟩⟩
/-- Q is still to be gone over; out has come. -/
structure RQ (G : List (List Int)) (s : Nat) (Q out : List Int) : Prop where
  nodup : out.Nodup
  leads : ∀ y ∈ out, ∃ t : Nat, y = (t : Int) ∧ Leads G s t
  qin : ∀ x ∈ Q, x = (s : Int) ∨ x ∈ out
  shut : ∀ x, x = (s : Int) ∨ x ∈ out → x ∈ Q ∨ ∀ y ∈ ofP G x.toNat, y ∈ out
  qlen : Q.length ≤ out.length + 1
theorem RQ.start (G : List (List Int)) (s : Nat) : RQ G s [(s : Int)] [] := ⟨List.Pairwise.nil, (fun y h => by cases h), (fun x hx => .inl (List.mem_singleton.1 hx)), fun x hx => .inl (by rcases hx with rfl | h; exact List.mem_singleton.2 rfl; cases h), by simp⟩
theorem RQ.node {G : List (List Int)} {s : Nat} {Q out : List Int} (h : RQ G s Q out) (hs : s < G.length) {x : Int} (hx : x = (s : Int) ∨ x ∈ out) : ∃ t : Nat, x = (t : Int) ∧ t < G.length ∧ (t = s ∨ Leads G s t) := by
  rcases hx with rfl | hx
  · exact ⟨s, rfl, hs, .inl rfl⟩
  · obtain ⟨t, e, hl⟩ := h.leads x hx
    exact ⟨t, e, hl.lt, .inr hl⟩
theorem RQ.push {G : List (List Int)} {s : Nat} {Q out : List Int} (h : RQ G s Q out) (hs : s < G.length) {x y : Int} (hx : x ∈ Q) (hy : y ∈ ofP G x.toNat) (hn : y ∉ out) : RQ G s (Q ++ [y]) (out ++ [y]) := by
  obtain ⟨t, rfl, ht, hl⟩ := h.node hs (h.qin x hx)
  obtain ⟨b, rfl⟩ : ∃ b : Nat, y = (b : Int) := ⟨y.toNat, by have := (mem_ofP.1 hy).2.1; omega⟩
  have hb : b < G.length := by have := (mem_ofP.1 hy).2.2; omega
  rw [Int.toNat_natCast] at hy
  have hsee := (sees_ofP hb).1 hy
  have hlb : Leads G s b := by
    rcases hl with rfl | hl
    · exact Leads.one hsee ht hb
    · exact Leads.more hl hsee hb
  refine ⟨?_, fun z hz => ?_, fun z hz => ?_, fun z hz => ?_, by have := h.qlen; simp only [List.length_append, List.length_singleton]; omega⟩
  · rw [List.nodup_append]
    exact ⟨h.nodup, by simp, fun a ha b' hb' e => hn (by rw [List.mem_singleton] at hb'; rw [← hb', ← e]; exact ha)⟩
  · rcases List.mem_append.1 hz with hz | hz
    · exact h.leads z hz
    · rw [List.mem_singleton.1 hz]; exact ⟨b, rfl, hlb⟩
  · rcases List.mem_append.1 hz with hz | hz
    · exact (h.qin z hz).imp id fun h => List.mem_append_left _ h
    · exact .inr (List.mem_append_right _ hz)
  · rcases hz with hz | hz
    · exact (h.shut z (.inl hz)).imp (fun h => List.mem_append_left _ h) fun h y hy => List.mem_append_left _ (h y hy)
    · rcases List.mem_append.1 hz with hz | hz
      · exact (h.shut z (.inr hz)).imp (fun h => List.mem_append_left _ h) fun h y hy => List.mem_append_left _ (h y hy)
      · exact .inl (List.mem_append_right _ hz)
theorem RQ.pop {G : List (List Int)} {s : Nat} {x : Int} {Q out : List Int} (h : RQ G s (x :: Q) out) (hx : ∀ y ∈ ofP G x.toNat, y ∈ out) : RQ G s Q out := by
  refine ⟨h.nodup, h.leads, fun z hz => h.qin z (List.mem_cons_of_mem _ hz), fun z hz => ?_, by have := h.qlen; simp only [List.length_cons] at this; omega⟩
  rcases h.shut z hz with hq | hc
  · rcases List.mem_cons.1 hq with rfl | hq
    · exact .inr hx
    · exact .inl hq
  · exact .inr hc
theorem RQ.done {G : List (List Int)} {s : Nat} {out : List Int} (h : RQ G s [] out) (t : Nat) : (t : Int) ∈ out ↔ Leads G s t := by
  constructor
  · intro ht
    obtain ⟨t', e, hl⟩ := h.leads _ ht
    rw [show t = t' by omega]; exact hl
  · intro hl
    induction hl with
    | one hsee ha hb =>
      rcases h.shut (s : Int) (.inl rfl) with hq | hc
      · cases hq
      · exact hc _ (by rw [Int.toNat_natCast]; exact (sees_ofP hb).2 hsee)
    | more hl hsee hb ih =>
      rcases h.shut _ (.inr ih) with hq | hc
      · cases hq
      · exact hc _ (by rw [Int.toNat_natCast]; exact (sees_ofP hb).2 hsee)
/-- What node s reaches, rising. -/
def reachP (G : List (List Int)) (s : Nat) : List Int := ((List.range G.length).filter fun t => wayP G s t).map fun t : Nat => (t : Int)
theorem mem_reachP {G : List (List Int)} {s : Nat} {y : Int} : y ∈ reachP G s ↔ ∃ t : Nat, y = (t : Int) ∧ Leads G s t := by
  unfold reachP
  rw [List.mem_map]
  constructor
  · rintro ⟨t, ht, rfl⟩
    exact ⟨t, rfl, wayP_iff.1 (List.mem_filter.1 ht).2⟩
  · rintro ⟨t, rfl, hl⟩
    exact ⟨t, List.mem_filter.2 ⟨List.mem_range.2 hl.lt, wayP_iff.2 hl⟩, rfl⟩
theorem reachP_inc (G : List (List Int)) (s : Nat) : Inc (reachP G s) := by
  unfold reachP Inc
  rw [List.pairwise_map]
  exact (List.pairwise_lt_range.filter _).imp fun h => by omega
theorem RQ.sorted {G : List (List Int)} {s : Nat} {out : List Int} (h : RQ G s [] out) : sortZ out = reachP G s := by
  refine inc_ext ?_ (reachP_inc G s) fun y => ?_
  · have h1 := sortZ_sorted out
    have h2 : (sortZ out).Nodup := (sortZ_perm out).nodup_iff.2 h.nodup
    exact (h1.and h2).imp fun {a b} h => by have := h.1; have := h.2; omega
  · rw [(sortZ_perm out).mem_iff, mem_reachP]
    constructor
    · exact fun hy => h.leads y hy
    · rintro ⟨t, rfl, hl⟩; exact (h.done t).2 hl
/-- No more than nodes. -/
theorem RQ.len {G : List (List Int)} {s : Nat} {Q out : List Int} (h : RQ G s Q out) : out.length ≤ G.length := by
  have h1 : (out.map Int.toNat).Nodup := by
    unfold List.Nodup
    rw [List.pairwise_map]
    refine h.nodup.imp_of_mem fun {a b} ha hb hne e => hne ?_
    obtain ⟨t, rfl, _⟩ := h.leads a ha
    obtain ⟨u, rfl, _⟩ := h.leads b hb
    have e : t = u := by simpa using e
    rw [e]
  have := sub_len h1 (m := List.range G.length) fun x hx => by
    obtain ⟨a, ha, rfl⟩ := List.mem_map.1 hx
    obtain ⟨t, rfl, hl⟩ := h.leads a ha
    exact List.mem_range.2 hl.lt
  simpa using this
end Go.Proofs.Ytkeiphmhckkniaa
