/-
  The calls that come in, as they read; walk of large.
  No condition.
-/
import Derived.Test.YtljgifjokdppgaaRwWorks
namespace Go.Proofs.Ytljgifjokdppgaa
open Go Go.RowKit

structure CallD where
  kind : Int
  table : Int
  key : Int
  col : Int
  n : Int
  cv : Value
  cols : List Int
structure CallAt (w : World) (b o : Nat) (c : CallD) : Prop where
  kind : w.cell? ⟨b, o, none⟩ = some (.int .u8 c.kind)
  table : w.cell? ⟨b, o + 1, none⟩ = some (.int .i64 c.table)
  key : w.cell? ⟨b, o + 2, none⟩ = some (.int .i64 c.key)
  col : w.cell? ⟨b, o + 3, none⟩ = some (.int .i64 c.col)
  n : w.cell? ⟨b, o + 4, none⟩ = some (.int .i64 c.n)
  cv : w.cell? ⟨b, o + 5, none⟩ = some c.cv
  cols : IntsAt w c.cv c.cols
  u8 : 0 ≤ c.kind ∧ c.kind < 256
  max : c.cols.length ≤ 9223372036854775807
theorem CallAt.fr {w w' : World} {b o : Nat} {c : CallD} (h : CallAt w b o c) (hf : Fr w w' Nil) : CallAt w' b o c :=
  ⟨hf.cell h.kind fun h => h, hf.cell h.table fun h => h, hf.cell h.key fun h => h, hf.cell h.col fun h => h, hf.cell h.n fun h => h, hf.cell h.cv fun h => h, h.cols.fr hf fun _ _ h => h, h.u8, h.max⟩
def CallsAt (w : World) (v : Value) (l : List CallD) : Prop :=
  l.length ≤ 9223372036854775807 ∧ ∃ a cap, v = .slice a l.length cap ∧ (l = [] ∨ ∃ b off, a = some ⟨b, off, none⟩ ∧ ∀ i c, l[i]? = some c → CallAt w b (off + i * 6) c)
theorem CallsAt.fr {w w' : World} {v : Value} {l : List CallD} (h : CallsAt w v l) (hf : Fr w w' Nil) : CallsAt w' v l := by
  obtain ⟨hl, a, cap, rfl, h⟩ := h
  refine ⟨hl, a, cap, rfl, h.imp id ?_⟩
  rintro ⟨b, off, rfl, h2⟩
  exact ⟨b, off, rfl, fun i c hc => (h2 i c hc).fr hf⟩
theorem CallsAt.form {w : World} {v : Value} {l : List CallD} (h : CallsAt w v l) (hn : 0 < l.length) : ∃ b off cap, v = .slice (some ⟨b, off, none⟩) l.length cap ∧ ∀ i c, l[i]? = some c → CallAt w b (off + i * 6) c := by
  obtain ⟨hl, a, cap, rfl, rfl | ⟨b, off, rfl, h⟩⟩ := h
  · simp at hn
  · exact ⟨b, off, cap, rfl, h⟩

def largeFrom (n : Nat) : List CallD → Bool
  | [] => false
  | c :: r => if 2000 < n + c.cols.length then true else largeFrom (n + c.cols.length) r
def largeB (l : List CallD) : Bool := decide (100 < l.length) || largeFrom 0 l
theorem largeFrom_drop {l : List CallD} {k n : Nat} {c : CallD} (h : l[k]? = some c) : largeFrom n (l.drop k) = if 2000 < n + c.cols.length then true else largeFrom (n + c.cols.length) (l.drop (k + 1)) := by
  obtain ⟨hk, rfl⟩ := List.getElem?_eq_some_iff.1 h
  rw [List.drop_eq_getElem_cons hk]
  rfl

theorem largeFrom_mem {l : List CallD} : ∀ {n : Nat}, largeFrom n l = false → ∀ c ∈ l, c.cols.length ≤ 2000 := by
  induction l with
  | nil => intro n _ c hc; cases hc
  | cons x l ih =>
    intro n h c hc
    unfold largeFrom at h
    split at h
    · cases h
    · rcases List.mem_cons.1 hc with rfl | hc
      · omega
      · exact ih h c hc
theorem largeB_small {l : List CallD} (h : largeB l = false) : l.length ≤ 100 ∧ ∀ c ∈ l, c.cols.length ≤ 2000 := by
  unfold largeB at h
  rw [Bool.or_eq_false_iff, decide_eq_false_iff_not] at h
  exact ⟨by omega, largeFrom_mem h.2⟩

set_option maxRecDepth 100000 in
set_option maxHeartbeats 400000 in
theorem large_any (v : Value) (l : List CallD) (w : World) (h : CallsAt w v l) :
    Calls Try.prog 8 #[v] w fun e w' => e = .returned (.bool (largeB l)) ∧ Fr w w' Nil := by
  obtain ⟨hmax, a, cap, rfl, _⟩ := id h
  have H := Lib.hid h
  clear h
  by_cases h100 : 100 < l.length
  · have HL : Hid (largeB l = true) := by unfold largeB; rw [decide_eq_true h100]; exact rfl
    go_enter Try.func8, Try.ntmps8
    go_wp2_with fail
    go_ret
    exact ⟨by rw [HL.out]; rfl, Fr.refl _ _⟩
  · have HL : Hid (largeB l = largeFrom 0 l) := by
      have : largeB l = largeFrom 0 l := by unfold largeB; rw [decide_eq_false h100]; rfl
      exact this
    have h9 : decide ((100 : Int) < (l.length : Int)) = false := by rw [decide_eq_false_iff_not]; omega
    go_enter Try.func8, Try.ntmps8
    go_wp2_with fail
    go_loop [3, 4] (fun vn vi => ∃ k n : Nat, k ≤ l.length ∧ n ≤ 2000 ∧ vi = .int .i64 k ∧ vn = .int .i64 n ∧ largeFrom 0 l = largeFrom n (l.drop k)) (fun _ vi => l.length - (intOf vi).toNat)
    case atStart => exact ⟨0, 0, by omega, by omega, rfl, rfl, by rw [List.drop_zero]⟩
    case round =>
      obtain ⟨k, n, hk, hn, rfl, rfl, hlf⟩ := hrel
      have Hlf := Lib.hid hlf
      clear hlf
      by_cases hlt : k < l.length
      · obtain ⟨b, off, cap2, hv, hc⟩ := H.out.form (by omega)
        simp only [Value.slice.injEq, true_and] at hv
        obtain ⟨rfl, rfl⟩ := hv
        have hg := List.getElem?_eq_getElem hlt
        generalize l[k] = c at hg
        have hca := hc k c hg
        have q := hca.cv
        obtain ⟨ac, cc, hcv⟩ := hca.cols.shape
        rw [hcv] at q
        have hmx := hca.max
        have HD := Lib.hid (largeFrom_drop (n := n) hg)
        have hlt2 : (k : Int) < (l.length : Int) := by omega
        clear hc hg hca hcv
        by_cases hb : 2000 < n + c.cols.length
        · have HF : Hid (largeFrom 0 l = true) := by
            have := Hlf.out
            rw [HD.out, if_pos hb] at this
            exact this
          have hb2 : (2000 : Int) - n < c.cols.length := by omega
          go_wp2_with fail
          go_ret
          exact ⟨by rw [HL.out, HF.out]; rfl, Fr.refl _ _⟩
        · have HF : Hid (largeFrom 0 l = largeFrom (n + c.cols.length) (l.drop (k + 1))) := by
            have := Hlf.out
            rw [HD.out, if_neg hb] at this
            exact this
          have hb2 : ¬ (2000 : Int) - n < c.cols.length := by omega
          go_wp2_with fail
          go_round
          case rel => exact ⟨k + 1, n + c.cols.length, by omega, by omega, by go_num, by go_num, HF.out⟩
          case measure => simp [intOf]; omega
      · have HF : Hid (largeFrom 0 l = false) := by
          have := Hlf.out
          rw [List.drop_of_length_le (by omega)] at this
          exact this
        go_wp2_with fail
        go_ret
        exact ⟨by rw [HL.out, HF.out]; rfl, Fr.refl _ _⟩
end Go.Proofs.Ytljgifjokdppgaa
