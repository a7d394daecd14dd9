/-
 What is read of an instruction stays, while another thing is turned; Note, with what it leaves.
 No condition but sizes.
 Walk of fits: has it just these tables?
 No condition but sizes.
-/
import Derived.Test.YtgpekgnhbccnoaaGreatPkY17
import Derived.Test.YtgpekgnhbccnoaaGreatPkY26
namespace Go.Proofs.YtgpekgnhbccnoaaGreat
open Go Go.RowKit

theorem CodeAt.instr {w : World} {b off n c : Nat} {L : List InstrD} (h : CodeAt w (.slice (some ⟨b, off, none⟩) n c) L) {i : Nat} {x : InstrD} (hx : L[i]? = some x) : InstrAt w b (off + i * 13) x := by
 obtain ⟨b', off', cap', hv, hc⟩ := h.form (by have := (List.getElem?_eq_some_iff.1 hx).1; omega)
 simp only [Value.slice.injEq, Option.some.injEq, Addr.mk.injEq, and_true] at hv
 obtain ⟨⟨rfl, rfl⟩, _, _⟩ := hv
 exact hc i x hx
theorem StAt.keepI {w w' : World} {q : StV} {C T : Nat → Prop} (h : StAt w q C) (hf : Fr w w' T) (hd : ∀ k, C k → ¬ T k) {b off n c : Nat} (hlv : q.lv = .slice (some ⟨b, off, none⟩) n c) {i : Nat} {x : InstrD} (hx : q.L[i]? = some x) {kv vv : Value}
  (c11 : w.cell? ⟨b, off + i * 13 + 11, none⟩ = some kv) (c12 : w.cell? ⟨b, off + i * 13 + 12, none⟩ = some vv) : TermsAt w' kv x.key ∧ ValsAt w' vv x.vals := by
 have hcode := h.code
 rw [hlv] at hcode
 have hC : C b := by
  apply Classical.byContradiction
  intro hn
  have h1 := hcode _ _ (Fr.store w b (off + i * 13 + 11) (.bool true)) (fun k hk e => hn (by have e : k = b := e; rw [← e]; exact hk))
  obtain ⟨kv', vv', hc, ht, _⟩ := h1.instr hx
  have h2 := hc 11 kv' rfl
  rw [World.cell?_setCell_same w _ _ c11] at h2
  cases h2
  obtain ⟨a, c, he⟩ := ht.shape
  cases he
 obtain ⟨kv', vv', hc, ht, hv⟩ := (hcode w' T hf hd).instr hx
 have e1 := hf.cell c11 (hd b hC)
 have e2 := hf.cell c12 (hd b hC)
 rw [hc 11 kv' rfl] at e1
 rw [hc 12 vv' rfl] at e2
 cases e1
 cases e2
 exact ⟨ht, hv⟩
section
variable {w0 W : World} {l : List Thing}
def KeptC (W W' : World) (q : StV) : Prop := ∃ C T, StAt W q C ∧ Fr W W' T ∧ ∀ m, C m → ¬ T m
theorem st_noteK (h : Lies w0 W l) {lb rb : Nat} {most : Int} {L : List (Int × Ent)} {M : List MTab} (i j : Nat) (hi : l[i]? = some (logT lb most L)) (hj : l[j]? = some (rowsT rb M)) (s : Nat) {q : StV} (hs : l[s]? = some (stT q)) (his : i ≠ s) (who t k : Int) (hg : Good M) (hw : (Lit.int .i64 who).wf = true) (hl : L.length ≤ 100000) :
  Calls Tryz.prog 49 #[lptr lb, .int .i64 who, rptr rb, .int .i64 t, .int .i64 k] W fun e W' => e = .returned (.int .i64 (noteE M most L t)) ∧ Lies w0 W' (l.set i (logT lb most (noteL M most L who t k))) ∧ KeptC W W' q := by
 obtain ⟨S, R, h1, ⟨C, hst, hC⟩, hd, _⟩ := h.get2 i s _ _ hi hs his
 obtain ⟨T, h3, _⟩ := h.get j _ hj
 have h' := h
 obtain ⟨f1, F, f2, f3⟩ := h'
 obtain ⟨S, R, h1, ⟨C, hst, hC⟩, hd, h2⟩ := h.get2 i s _ _ hi hs his
 refine (unote_any who t k W h1 h3 hg hw hl).mono fun _ W' ⟨he, a, b⟩ => ⟨he, ?_, C, S, hst, b, fun m hm hs => hd m hs ((hC m).2 (.inr (.inr (.inr hm))))⟩
 have hx := h2 W' _ R (logT lb most (noteL M most L who t k)) (stT q) a ((stT q).fr (show (stT q).At W R from ⟨C, hst, hC⟩) b fun k hk hs => hd k hs hk) (fun k hk => hk.imp id fun h => h.1) (fun k hk => .inl hk) (fun k hk hr => hk.elim (fun hk => hd k hk hr) fun hk => by have := (stT q).lt (show (stT q).At W R from ⟨C, hst, hC⟩) k hr; have := hk.1; omega) (b.mono fun k _ hk => .inl hk)
 have e : ((l.set i (logT lb most (noteL M most L who t k))).set s (stT q)) = l.set i (logT lb most (noteL M most L who t k)) := by
  have hlt := (List.getElem?_eq_some_iff.1 hs).1
  have hg : (l.set i (logT lb most (noteL M most L who t k)))[s]? = some (stT q) := by rw [List.getElem?_set_ne his]; exact hs
  have hlt2 := (List.getElem?_eq_some_iff.1 hg).1
  rw [← (List.getElem?_eq_some_iff.1 hg).2]
  exact List.set_getElem_self hlt2
 rwa [e] at hx
/-- Three of them. -/
def L3 (l : List Thing) (i j k : Nat) (x y z : Thing) : List Thing := ((l.set i x).set j y).set k z
section
variable {i j k : Nat} {x y z : Thing}
theorem L3.geti (hij : i ≠ j) (hik : i ≠ k) (hi : i < l.length) : (L3 l i j k x y z)[i]? = some x := by
 unfold L3
 rw [List.getElem?_set_ne (Ne.symm hik), List.getElem?_set_ne (Ne.symm hij), List.getElem?_set_self hi]
theorem L3.getj (hjk : j ≠ k) (hj : j < l.length) : (L3 l i j k x y z)[j]? = some y := by
 unfold L3
 rw [List.getElem?_set_ne (Ne.symm hjk), List.getElem?_set_self (by simpa using hj)]
theorem L3.getk (hk : k < l.length) : (L3 l i j k x y z)[k]? = some z := by
 unfold L3
 rw [List.getElem?_set_self (by simpa using hk)]
theorem L3.get {m : Nat} (hi : m ≠ i) (hj : m ≠ j) (hk : m ≠ k) : (L3 l i j k x y z)[m]? = l[m]? := by
 unfold L3
 rw [List.getElem?_set_ne (Ne.symm hk), List.getElem?_set_ne (Ne.symm hj), List.getElem?_set_ne (Ne.symm hi)]
theorem L3.seti (hij : i ≠ j) (hik : i ≠ k) (x' : Thing) : (L3 l i j k x y z).set i x' = L3 l i j k x' y z := by
 unfold L3
 rw [List.set_comm _ _ (Ne.symm hik), List.set_comm _ _ (Ne.symm hij), List.set_set]
theorem L3.setj (hjk : j ≠ k) (y' : Thing) : (L3 l i j k x y z).set j y' = L3 l i j k x y' z := by
 unfold L3
 rw [List.set_comm _ _ (Ne.symm hjk), List.set_set]
theorem L3.setk (z' : Thing) : (L3 l i j k x y z).set k z' = L3 l i j k x y z' := by
 unfold L3
 rw [List.set_set]
theorem L3.self (hi : l[i]? = some x) (hj : l[j]? = some y) (hk : l[k]? = some z) : L3 l i j k x y z = l := by
 have self : ∀ {l : List Thing} {i : Nat} {x : Thing}, l[i]? = some x → l.set i x = l := fun {l i x} h => by
  have hlt := (List.getElem?_eq_some_iff.1 h).1
  rw [← (List.getElem?_eq_some_iff.1 h).2]
  exact List.set_getElem_self hlt
 unfold L3
 rw [self hi, self hj, self hk]
theorem L3.take {m : List Thing} (hi : i < l.length) (hj : j < l.length) (hk : k < l.length) : (L3 (l ++ m) i j k x y z).take l.length = L3 l i j k x y z := by
 unfold L3
 rw [List.set_append_left _ _ hi, List.set_append_left _ _ (by simpa using hj), List.set_append_left _ _ (by simpa using hk), List.take_left' (by simp)]
end
end
end Go.Proofs.YtgpekgnhbccnoaaGreat
namespace Go.Proofs.YtgpekgnhbccnoaaGreat
open Go Go.RowKit

theorem cols_at {M : List MTab} {TB : List Int} (h : colsN M = TB) {i : Nat} {x : Int} (hx : TB[i]? = some x) : ((mtab M (i : Int)).1 : Int) = x := by
 subst h
 unfold colsN at hx
 rw [List.getElem?_map] at hx
 unfold mtab
 rw [if_pos (by omega), Int.toNat_natCast]
 cases e : M[i]? with
 | none => rw [e] at hx; cases hx
 | some T =>
  rw [e] at hx
  simp only [Option.map_some, Option.some.injEq] at hx
  exact hx
set_option maxRecDepth 100000 in
set_option maxHeartbeats 1000000 in
theorem fits_any {w0 W : World} {l : List Thing} {rb : Nat} {M : List MTab} {TB : List Int} (h : Lies w0 W l) (j : Nat) (hj : l[j]? = some (rowsT rb M)) (tv : Value) (ht : IntsAt W tv TB) (hg : Good M) (hc : colsN M = TB) :
  Calls Tryz.prog 48 #[rptr rb, tv] W fun e W' => e = .returned (.bool true) ∧ Fr W W' Nil := by
 have hlen : TB.length = M.length := by rw [← hc]; simp [colsN]
 have hTl : TB.length ≤ 64 := by have := hg.few; omega
 obtain ⟨ta, tc, rfl⟩ := ht.shape
 obtain ⟨S, hr, _⟩ := h.get j _ hj
 have HR := Lib.hid hr
 have HT := Lib.hid ht
 have HG := Lib.hid hg
 have HC := Lib.hid hc
 have HLN := Lib.hid hlen
 clear h hr ht hg hc hlen hj
 go_enter Tryz.func48, Tryz.ntmps48
 go_wp2_with fail
 go_loopw [9] (fun vi wr => ∃ i : Nat, i ≤ TB.length ∧ vi = .int .i64 i ∧ Fr W wr Nil) (fun vi _ => TB.length - (intOf vi).toNat)
 case atStart => exact ⟨0, by omega, rfl, Fr.refl _ _⟩
 case round =>
  obtain ⟨i, hi, rfl, hf⟩ := hrel
  have HF := Lib.hid hf
  clear hf
  by_cases hlt : i < TB.length
  ·obtain ⟨b, off, cap, hv, hcl⟩ := (HT.out.fr0 HF.out).form (by omega)
   simp only [Value.slice.injEq, true_and] at hv
   obtain ⟨rfl, rfl⟩ := hv
   have hx := List.getElem?_eq_getElem hlt
   have p0 := hcl i _ hx
   have hco := cols_at HC.out hx
   generalize TB[i] = x at p0 hco
   have HCO := Lib.hid hco
   have hii : (i : Int) < (TB.length : Int) := by omega
   clear hcl hx hco
   go_wp2_with fail
   refine (api_cols (i : Int) (HR.out.fr0 HF.out) HG.out).mono ?_
   rintro e w2 ⟨he, hf⟩
   rw [HCO.out] at he
   subst he
   have HF2 := Lib.hid (HF.out.trans0 hf)
   have hne : (x != x) = false := by rw [bne_eq_false_iff_eq]
   clear hf p0
   go_wp2_with fail
   go_roundw
   case rel => exact ⟨i + 1, by omega, by go_num, HF2.out⟩
   case measure => simp [intOf]; omega
  ·have hii : ¬ (i : Int) < (TB.length : Int) := by omega
   go_wp2_with fail
   refine (api_tables (HR.out.fr0 HF.out) HG.out).mono ?_
   rintro e w2 ⟨he, rfl⟩
   rw [← HLN.out] at he
   subst he
   go_wp2_with fail
   go_ret
   exact ⟨rfl, HF.out⟩
end Go.Proofs.YtgpekgnhbccnoaaGreat
