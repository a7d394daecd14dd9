/-
  slices.Values of integers, gone over.
  No condition but sizes.
-/
import Derived.Laws.EntriesVeiled
import Derived.Test.YtkeiphmhckkniaaWtOfW
import Derived.OrdersIn
import Derived.RangeFuncNested
import Derived.RangeFuncBound
import Derived.RangeFuncCalls
import Derived.RangeFuncLeaves
import Derived.Shelf.AbstractIn
namespace Go.Proofs.Ytkeiphmhckkniaa
open Go Go.RowKit Go.Shelf

attribute [local go_sem] Oper.semAt_some

abbrev BI (es : List Int) := { x : Int // x ∈ es }
abbrev encI {es : List Int} (x : BI es) : Array Value := #[.int .i64 x.1]
/-- What has come behind k rounds. -/
def cameI (es : List Int) (k : Nat) : List (BI es) := es.attach.take k
theorem cameI_len (es : List Int) {k : Nat} (h : k ≤ es.length) : (cameI es k).length = k := by unfold cameI; rw [List.length_take, List.length_attach]; omega
theorem cameI_succ (es : List Int) {k : Nat} (h : k < es.length) : cameI es (k + 1) = cameI es k ++ [⟨es[k], List.getElem_mem h⟩] := by
  unfold cameI
  rw [List.take_succ_eq_append_getElem (by simpa using h), List.getElem_attach]
theorem cameI_pre (es : List Int) (k : Nat) : cameI es k <+: es.attach := List.take_prefix _ _
theorem cameI_all (es : List Int) : cameI es es.length = es.attach := by unfold cameI; exact List.take_of_length_le (by simp)
/-- What a round keeps: the iterator's box, and its row. -/
def KeepV (Bs cap : Nat) (a : Option Addr) (es : List Int) (w w' : World) : Prop := SeqAt w Bs a cap es → SeqAt w' Bs a cap es
theorem keepV_t {Bs cap : Nat} {av : Option Addr} {es : List Int} {a b c : World} (h : KeepV Bs cap av es a b) (k : KeepV Bs cap av es b c) : KeepV Bs cap av es a c := fun h0 => k (h h0)
theorem SeqAt.fr {w w' : World} {S : Nat → Prop} {bs : Nat} {a : Option Addr} {cap : Nat} {l : List Int} (h : SeqAt w bs a cap l) (hf : Fr w w' S) (h1 : ¬ S bs) (h2 : ∀ k, (Value.slice a l.length cap).ownBlock = some k → ¬ S k) : SeqAt w' bs a cap l := ⟨h.box.fr hf h1, h.own.fr hf h2, h.ne⟩
theorem SeqAt.cells {w : World} {bs : Nat} {a : Option Addr} {cap : Nat} {l : List Int} (h : SeqAt w bs a cap l) {k : Nat} {o : Obj} (hk : w.heap[k]? = some o) (ho : o.isCells = false) : k ≠ bs ∧ (Value.slice a l.length cap).ownBlock ≠ some k := by
  constructor
  · rintro rfl
    have := h.box
    unfold Bk at this
    rw [this] at hk; cases hk; cases ho
  · intro e
    rcases h.own.2 with ⟨h1, _⟩ | ⟨g, c, cur, h1, _, hg, _⟩
    · rw [h1] at e; cases e
    · rw [h1] at e; cases e; rw [hg] at hk; cases hk; cases ho
theorem keepV_b {Bs cap : Nat} {av : Option Addr} {es : List Int} {B : Nat} (W : World) (l : Nat) (o o' : Obj) (_ : B ≤ l) (h1 : W.heap[l]? = some o) (h2 : o.isCells = false) (_ : o.isWalk = false) : KeepV Bs cap av es W (W.putObj l o') := fun h => by
  have hn := h.cells h1 h2
  exact h.fr (S := fun k => k = l) ((Fr.refl W _).grown (grownBy_putObj' W l o') fun k e _ => by cases e; rfl) (fun e => hn.1 e.symm) (fun k hk e => hn.2 (by rw [← e]; exact hk))
set_option maxRecDepth 100000 in
set_option maxHeartbeats 2000000 in
theorem values1_in (n : Nat) (hn : 1 ≤ n) (l Bs cap : Nat) (a : Option Addr) (es : List Int) (hl : es.length ≤ 1000000) (J Jx : List (BI es) → World → Prop) (W : World)
    (hY : ∀ pre x W1, J pre W1 → pre.length < es.length → YieldAt Fence.wide (n - 1) Try.prog l (encI x) W1 fun e W' =>
      (e = .returned (.bool true) ∧ J (pre ++ [x]) W' ∧ KeepV Bs cap a es W1 W') ∨ (e = .returned (.bool false) ∧ Jx (pre ++ [x]) W'))
    (hT : SeqAt W Bs a cap es) (h0 : J [] W) :
    CallsIn Fence.wide n Try.prog 49 #[.func (.yield l) #[] #[], .pointer (some ⟨Bs, 0, none⟩)] W fun e W' => (∃ v, e = .returned v) ∧
      ((∃ ys, ys = es.attach ∧ J ys W') ∨ (∃ pre, pre <+: es.attach ∧ Jx pre W')) := by
  have hBs := hT.box.cell 0
  have HT := Lib.hid hT
  have HY := Lib.hid hY
  clear hT hY
  refine callsIn_of_wp Try.func49 rfl trivial ?_ rfl
  simp only [Try.ntmps49, List.size_toArray, List.length_cons, List.length_nil, Nat.reduceAdd, Nat.reduceSub, Array.replicate_succ, Array.replicate_zero, List.push_toArray, List.append_toArray, List.nil_append, List.cons_append]
  gi_wp2
  clear hBs
  gi_loopw [7] (fun vi wr => ∃ m : Nat, m ≤ es.length ∧ vi = .int .i64 m ∧ J (cameI es m) wr ∧ KeepV Bs cap a es W wr) (fun vi _ => es.length - (intOf vi).toNat)
  case atStart => exact ⟨0, by omega, rfl, h0, fun h => h⟩
  case round =>
    obtain ⟨m, hm, rfl, hJs, hk⟩ := hrel
    have HK := Lib.hid hk
    clear hk
    obtain ⟨wo, rfl⟩ : ∃ wo : World, wo = wr := ⟨_, rfl⟩
    by_cases hlt : m < es.length
    · have hrow : OwnInts wo 3 (.slice a es.length cap) es := (HK.out HT.out).own
      obtain ⟨b, cap2, hv, _⟩ := hrow.form (by omega)
      simp only [Value.slice.injEq, true_and] at hv
      obtain ⟨rfl, rfl⟩ := hv
      have p0 := hrow.cell rfl m hlt
      obtain ⟨x, hx1, hx2⟩ : ∃ x : BI es, es.getD m 0 = x.1 ∧ cameI es (m + 1) = cameI es m ++ [x] := ⟨⟨es[m], List.getElem_mem hlt⟩, by simp [List.getD_eq_getElem?_getD, hlt], cameI_succ es hlt⟩
      rw [hx1] at p0
      obtain ⟨fn, tmps, assign, body, hy, hR⟩ := HY.out (cameI es m) x wo hJs (by rw [cameI_len es (by omega)]; exact hlt)
      have HCS := Lib.hid hx2
      dsimp only [encI] at hy
      have hml : (m : Int) < (es.length : Int) := by omega
      clear hrow hJs hx1 hx2
      gi_wp2
      refine hR.mono ?_
      rintro e W3 (⟨rfl, hJ3, hk3⟩ | ⟨rfl, hJx3⟩)
      · have HJ3 := Lib.hid hJ3
        have HK3 := Lib.hid (keepV_t HK.out hk3)
        clear hJ3 hk3
        gi_wp2
        go_roundw
        case rel => exact ⟨m + 1, by omega, by go_num, by rw [HCS.out]; exact HJ3.out, HK3.out⟩
        case measure => (simp [intOf]) <;> omega
      · gi_wp2
        refine bodyPost_ret (results_none rfl _ _ _) rfl ?_
        exact ⟨⟨_, rfl⟩, .inr ⟨_, by rw [← HCS.out]; exact cameI_pre es _, hJx3⟩⟩
    · obtain rfl : m = es.length := by omega
      gi_wp2
      go_end0
      exact ⟨⟨_, rfl⟩, .inl ⟨_, (cameI_all es), hJs⟩⟩
theorem values_stops (n : Nat) (hn : 1 ≤ n) (Bs cap : Nat) (a : Option Addr) (es : List Int) (hl : es.length ≤ 1000000) (w : World) (h : SeqAt w Bs a cap es) :
    SeqStopsK Fence.wide n Try.prog 49 #[.pointer (some ⟨Bs, 0, none⟩)] encI (KeepV Bs cap a es) (fun ys => ys = es.attach) (fun pre => pre <+: es.attach) es.length w := fun l J Jx W hW _ _ hY h0 => by
  have hf : Fr w W (fun k => w.heap.size ≤ k) := ⟨hW.os, hW.tape, hW.output, hW.size, fun k hk _ => hW.block k hk⟩
  exact values1_in n hn l Bs cap a es hl J Jx W hY (h.fr hf (by have := h.box.lt; omega) fun k hk h1 => by have := h.own.lt k hk; omega) h0
end Go.Proofs.Ytkeiphmhckkniaa
