/-
 Walk of RunLooks: it answers true.
 No condition.
-/
import Derived.Test.YtgpekgnhbccnoaaGreatPkY33
import Derived.Test.YtgpekgnhbccnoaaGreatPkY35
import Derived.Test.YtgpekgnhbccnoaaGreatPkY23
import Derived.Test.YtgpekgnhbccnoaaGreatPkY2
namespace Go.Proofs.YtgpekgnhbccnoaaGreat
open Go Go.RowKit
attribute [local go_sem ↓] Go.wp_at_zero Go.wp_at_succ

abbrev stOf (sb : Nat) (lv tv vv ov : Value) (L : List InstrD) (TB : List Int) (s : MachD) : StV := ⟨sb, lv, tv, vv, ov, L, TB, s.at', s.vars, s.out⟩
theorem stOf_F {sb : Nat} {lv tv vv ov : Value} {L : List InstrD} {TB : List Int} {s : MachD} {nv N K : Nat} (h : SInv TB nv L.length N K s) (hc : COk TB nv L) (hf : FewC L) (hnv : nv ≤ 100000) (hTB : TB.length ≤ 100000) : StF (stOf sb lv tv vv ov L TB s) nv :=
 ⟨hf, h.len, hnv, h.at', hc, hTB⟩
def mach0 (nv : Nat) (args : List Int) (M : List MTab) : MachD := ⟨0, vars0 nv args, [], M, []⟩
theorem mach0_inv {TB : List Int} {nv : Int} {L : List InstrD} {args : List Int} {M : List MTab} (hr : RightP TB nv L) (ha : (args.length : Int) ≤ nv) (hf : FillOk TB (64 * 4) M) : SInv TB nv.toNat L.length 256 0 (mach0 nv.toNat args M) :=
 ⟨hf.good, hf.few, hf.cols, by show (vars0 _ _).length = _; unfold vars0; rw [List.length_append, List.length_replicate]; omega, hr.ne, Nat.zero_le _, Nat.zero_le _⟩
theorem new_lies {w0 W w' : World} {l : List Thing} {q : StV} {C : Nat → Prop} (h : Lies w0 W l) (hst : StAt w' q C) (hq : ∀ k, q.has C k → W.heap.size ≤ k) (hf : Fr W w' Nil) : Lies w0 w' (l ++ [stT q]) :=
 h.add (stT q) (S := q.has C) ⟨C, hst, fun _ => Iff.rfl⟩ hq hf
theorem SlRet.int {xs : List Int} {w w' : World} {e : Ending} (h : SlRet xs w e w') : ∃ a c, e = .returned (.slice a xs.length c) ∧ IntsAt w' (.slice a xs.length c) xs ∧ Fr w w' Nil := by
 obtain ⟨a, c, he, ho, hf⟩ := h
 exact ⟨a, c, he, SlAt.ints (SlAt.of_own ho).1, hf⟩
section
variable {w0 W : World} {l : List Thing} {sb : Nat} {lv tv vv ov : Value} {L : List InstrD} {TB : List Int} {s : MachD} {nv : Nat} {n : InstrD}
theorem go_yes (h : Lies w0 W l) (i : Nat) (hi : l[i]? = some (stT (stOf sb lv tv vv ov L TB s))) (hf : StF (stOf sb lv tv vv ov L TB s) nv) (hn : L[s.at']? = some n) (hk : goes (nextP n s.vars).kind = true) :
  Calls Tryz.prog 25 #[.pointer (some ⟨sb, 0, none⟩)] W fun e W' => e = .returned (.int .i64 0) ∧ Lies w0 W' (l.set i (stT (stOf sb lv tv vv ov L TB { s with at' := s.at' + 1 }))) := by
 have h9 := go_any h i hi hf hn
 simp only [if_pos hk] at h9
 exact h9
theorem go_no (h : Lies w0 W l) (i : Nat) (hi : l[i]? = some (stT (stOf sb lv tv vv ov L TB s))) (hf : StF (stOf sb lv tv vv ov L TB s) nv) (hn : L[s.at']? = some n) (hk : goes (nextP n s.vars).kind = false) :
  Calls Tryz.prog 25 #[.pointer (some ⟨sb, 0, none⟩)] W fun e W' => e = .returned (.int .i64 4) ∧ Lies w0 W' l := by
 have h9 := go_any h i hi hf hn
 simp only [hk, Bool.false_eq_true, if_false] at h9
 have hself : l.set i (stT (stOf sb lv tv vv ov L TB s)) = l := by
  have hlt := (List.getElem?_eq_some_iff.1 hi).1
  rw [← (List.getElem?_eq_some_iff.1 hi).2]
  exact List.set_getElem_self hlt
 rw [hself] at h9
 exact h9
end
section
variable (lv tv av : Value) (L : List InstrD) (TB args : List Int) (nv : Int) (mm sn : Nat) (w : World)
end
end Go.Proofs.YtgpekgnhbccnoaaGreat
