/-
  Spots as keys of maps: how a spot reads as a key.
  No condition.
-/
import Derived.Test.YtokeciekncincabGreatPkC1
import Derived.Test.YtokeciekncincabGreatPkC2
import Derived.DeepKeys4
import Derived.Test.YtokeciekncincabGreatProg
namespace Go.Proofs.YtokeciekncincabGreat
open Go Go.RowKit Go.Maps

def SWf (s : Spot) : Prop := (Lit.int .i64 s.1).wf = true ∧ (Lit.int .i64 s.2.2).wf = true
instance (s : Spot) : Decidable (SWf s) := by unfold SWf; exact inferInstance
def spLits (s : Spot) : List Lit := [.int .i64 s.1, .bool s.2.1, .int .i64 s.2.2]
def un (n : Int) : List UInt8 := List.replicate n.natAbs 1 ++ [if n < 0 then 2 else 0]
theorem rep_inj : ∀ {n m : Nat} {c d : UInt8} {x y : List UInt8}, c ≠ 1 → d ≠ 1 → List.replicate n 1 ++ c :: x = List.replicate m 1 ++ d :: y → n = m ∧ c = d ∧ x = y
  | 0, 0, c, d, x, y, _, _, h => by simpa using h
  | 0, m + 1, c, d, x, y, hc, _, h => by
    rw [List.replicate_succ] at h
    simp at h
    exact absurd h.1 hc
  | n + 1, 0, c, d, x, y, _, hd, h => by
    rw [List.replicate_succ] at h
    simp at h
    exact absurd h.1.symm hd
  | n + 1, m + 1, c, d, x, y, hc, hd, h => by
    rw [List.replicate_succ, List.replicate_succ, List.cons_append, List.cons_append] at h
    obtain ⟨h1, h2⟩ := rep_inj hc hd (List.cons.inj h).2
    exact ⟨by rw [h1], h2⟩
theorem un_inj {a b : Int} {x y : List UInt8} (h : un a ++ x = un b ++ y) : a = b ∧ x = y := by
  unfold un at h
  rw [List.append_assoc, List.append_assoc, List.singleton_append, List.singleton_append] at h
  obtain ⟨h1, h2, h3⟩ := rep_inj (by split <;> decide) (by split <;> decide) h
  refine ⟨?_, h3⟩
  split at h2 <;> split at h2
  · omega
  · exact absurd h2 (by decide)
  · exact absurd h2 (by decide)
  · omega
/-- A spot as a key; one that no program can hold: by a longer word. -/
def skey (s : Spot) : Lit := if SWf s then .string (keyBytes (spLits s)) else .string (un s.1 ++ (un s.2.2 ++ ((if s.2.1 then 1 else 0) :: List.replicate 18 0)))
theorem skey_len (s : Spot) : (keyBytes (spLits s)).length = 17 := by
  unfold keyBytes spLits
  simp only [List.flatMap_cons, List.flatMap_nil, List.length_append, Lit.keyBytes, length_bytesBE, List.length_nil]
  rfl
theorem spLits_inj {a b : Spot} (ha : SWf a) (hb : SWf b) (h : keyBytes (spLits a) = keyBytes (spLits b)) : a = b := by
  have h1 := keyBytes_inj (l := spLits a) (l' := spLits b) ⟨rfl, trivial, rfl, trivial⟩ (fun c hc => by
    simp only [spLits, List.mem_cons, List.not_mem_nil, or_false] at hc
    rcases hc with rfl | rfl | rfl
    · exact ha.1
    · trivial
    · exact ha.2) (fun c hc => by
    simp only [spLits, List.mem_cons, List.not_mem_nil, or_false] at hc
    rcases hc with rfl | rfl | rfl
    · exact hb.1
    · trivial
    · exact hb.2) h
  obtain ⟨a1, a2, a3⟩ := a
  obtain ⟨b1, b2, b3⟩ := b
  simp only [spLits, List.cons.injEq, Lit.int.injEq, Lit.bool.injEq, true_and, and_true] at h1
  obtain ⟨rfl, rfl, rfl⟩ := h1
  rfl
theorem spotKey : KeyOk skey := ⟨fun a b => by
  unfold skey
  by_cases ha : SWf a <;> by_cases hb : SWf b
  · rw [if_pos ha, if_pos hb]
    show (keyBytes (spLits a) == keyBytes (spLits b)) = true ↔ a = b
    rw [beq_iff_eq]
    exact ⟨spLits_inj ha hb, fun h => by rw [h]⟩
  · rw [if_pos ha, if_neg hb]
    show (keyBytes (spLits a) == _) = true ↔ a = b
    rw [beq_iff_eq]
    refine ⟨fun h => ?_, fun h => absurd (by rw [← h]; exact ha) hb⟩
    have := congrArg List.length h
    rw [skey_len] at this
    simp only [List.length_append, List.length_cons, List.length_replicate] at this
    omega
  · rw [if_neg ha, if_pos hb]
    show (_ == keyBytes (spLits b)) = true ↔ a = b
    rw [beq_iff_eq]
    refine ⟨fun h => ?_, fun h => absurd (by rw [h]; exact hb) ha⟩
    have := congrArg List.length h
    rw [skey_len] at this
    simp only [List.length_append, List.length_cons, List.length_replicate] at this
    omega
  · rw [if_neg ha, if_neg hb]
    show ((_ : List UInt8) == _) = true ↔ a = b
    rw [beq_iff_eq]
    refine ⟨fun h => ?_, fun h => by rw [h]⟩
    obtain ⟨h1, h2⟩ := un_inj h
    obtain ⟨h3, h4⟩ := un_inj h2
    obtain ⟨a1, a2, a3⟩ := a
    obtain ⟨b1, b2, b3⟩ := b
    simp only at h1 h3 h4
    subst h1; subst h3
    cases a2 <;> cases b2 <;> first | rfl | simp at h4⟩
/-- A spot as a value. -/
abbrev spV (s : Spot) : Value := .agg #[.int .i64 s.1, .bool s.2.1, .int .i64 s.2.2]
set_option maxRecDepth 100000 in
theorem Tryz.keySpot : Keyed Tryz.prog 30 := Keyed.of_law (deep_law_laid (by kernel_rfl) (m := 2) (by omega) (of_decide_eq_true (by kernel_rfl)) (by kernel_rfl) (by kernel_rfl))
theorem Tryz.keyTSpot : Tryz.prog.keyType 30 = true := by kernel_rfl
theorem Tryz.cellsSpot : Tryz.prog.cellsOf 30 = 3 := by kernel_rfl
theorem Tryz.wideSpot : (match Tryz.prog.underlying 30 with | some (.array _ _) | some (.struct _) => true | _ => false) = true := by rw [Tryz.underlying30]
theorem three_of {α : Type} : ∀ {l : List α}, l.length = 3 → ∃ a b c, l = [a, b, c]
  | [a, b, c], _ => ⟨a, b, c, rfl⟩
set_option maxRecDepth 100000 in
theorem spot_lits {cs : List Value} {d : Nat} {L : List Lit} (h : Tryz.prog.keyLits (d + 1) 30 cs = some L) : ∃ s : Spot, SWf s ∧ cs = [.int .i64 s.1, .bool s.2.1, .int .i64 s.2.2] ∧ L = spLits s := by
  have hwf := keyLits_wf h
  unfold Program.keyLits at h
  simp only [Tryz.underlying30, Tryz.cellsSpot] at h
  split at h
  · rename_i hl
    obtain ⟨hl, _⟩ := hl
    obtain ⟨a, b, c, rfl⟩ := three_of hl
    · rw [Option.map_eq_some_iff] at h
      obtain ⟨LL, hm, rfl⟩ := h
      simp only [List.mapM_cons, List.mapM_nil, bind, Option.bind_eq_some_iff, pure, Option.some.injEq] at hm
      obtain ⟨x1, h1, _, ⟨x2, h2, _, ⟨x3, h3, _, rfl, rfl⟩, rfl⟩, rfl⟩ := hm
      obtain ⟨n1, e1, rfl⟩ := keyLits_int' Tryz.underlying3 h1
      obtain ⟨n2, e2, rfl⟩ := keyLits_bool' Tryz.underlying4 h2
      obtain ⟨n3, e3, rfl⟩ := keyLits_int' Tryz.underlying2 h3
      rw [show Tryz.prog.cellsOf 3 = 1 by kernel_rfl] at e1
      rw [show Tryz.prog.cellsOf 4 = 1 by kernel_rfl] at e2
      rw [show Tryz.prog.cellsOf 2 = 1 by kernel_rfl] at e3
      simp at e1 e2 e3
      subst e1; subst e2; subst e3
      refine ⟨(n1, n2, n3), ⟨hwf (.int .i64 n1) (by simp), hwf (.int .i64 n3) (by simp)⟩, rfl, rfl⟩
  · cases h
set_option maxRecDepth 100000 in
theorem keySpot_inv {v : Value} {kl : Lit} (h : keyOf Tryz.prog 30 v = some kl) : ∃ s : Spot, v = spV s ∧ kl = skey s ∧ SWf s := by
  obtain ⟨xs, L, rfl, hL, rfl⟩ := keyOf_top Tryz.wideSpot h
  obtain ⟨s, hs, hx, rfl⟩ := spot_lits hL
  refine ⟨s, ?_, ?_, hs⟩
  · show Value.agg xs = _
    have : xs = #[.int .i64 s.1, .bool s.2.1, .int .i64 s.2.2] := by simpa using congrArg List.toArray hx
    rw [this]
  · unfold skey; rw [if_pos hs]
set_option maxRecDepth 100000 in
theorem keySpot {s : Spot} (h : SWf s) : keyOf Tryz.prog 30 (spV s) = some (skey s) := by
  unfold keyOf
  simp only [Tryz.underlying30]
  rw [if_pos (by rw [Tryz.keyTSpot]; simp [Value.formed, Tryz.underlying30, Tryz.cellsSpot])]
  obtain ⟨m, hm⟩ : ∃ m, Tryz.prog.types.size = m + 1 := ⟨Tryz.prog.types.size - 1, by have : 0 < Tryz.prog.types.size := of_decide_eq_true (by kernel_rfl); omega⟩
  rw [hm]
  unfold Program.keyLits
  simp only [Tryz.underlying30, Tryz.cellsSpot, Value.cells]
  rw [if_pos ⟨rfl, by kernel_rfl⟩]
  simp only [List.mapM_cons, List.mapM_nil, show Tryz.prog.cellsOf 3 = 1 by kernel_rfl, show Tryz.prog.cellsOf 4 = 1 by kernel_rfl, show Tryz.prog.cellsOf 2 = 1 by kernel_rfl]
  simp [Program.keyLits, Tryz.underlying3, Tryz.underlying4, Tryz.underlying2, h.1, h.2]
  unfold skey
  rw [if_pos h]
  rfl
end Go.Proofs.YtokeciekncincabGreat
